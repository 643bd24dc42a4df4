/- Texts of the proof, part 5: Q2 Q3 QZ LB MA MB MC MR MT LG LV MS MN MP MU YC YD LD LS XL. -/
import Derived.Test.YtcjdedkdoagifaaGreatZ4
set_option linter.unusedSimpArgs false
set_option linter.unusedVariables false
set_option maxRecDepth 100000
namespace Go.Proofs.YtcjdedkdoagifaaGreat
def mQ (K:Nat) (v98:List Rat) (x134:List Nat) (x140:List (List Rat)):Option ((List (List Rat))×(List Rat)):=
 some ((aFK x140 x134),v98)
def d8 (K:Nat) (a0:aH) (v2:List aE) (x121:List Nat) (x127:List (List Rat)) (x133:Int) (v152:aE) (v164:aA) (recl146:(List Nat)→(List (List Rat))→Int→Option ((List Nat)×(List (List Rat)))) (x174:List aF):Option ((List Nat)×(List (List Rat))):=
 (aS (x133+3)).bind fun v183=>bif(decide (v183<(v2.length:Int))) then((aS (x133+3)).bind fun v186=>(bT v2 v186).bind fun v188=>bif(v188.row==v152.row&&v188.kind==3) then((aS (x133+3)).bind fun v193=>(bT x121 v193).bind fun v195=>(bT (x127.getD v195 []) x133).bind fun v197=>(pC (x127.getD v195 []) x133 v164.mu).bind fun x199=>(wJ (a0.dofs.length:Int) 0).bind fun x204=>(bM K a0 x204 x174).bind fun v206=>(cL K v206 x133 v2 a0 x121 (x127.set v195 x199)).bind fun v208=>(aS (x133+1)).bind fun v221=>recl146 v208.1 v208.2 v221) else((wJ (a0.dofs.length:Int) 0).bind fun x225=>(bM K a0 x225 x174).bind fun v227=>(cL K v227 x133 v2 a0 x121 x127).bind fun v229=>(aS (x133+1)).bind fun v242=>recl146 v229.1 v229.2 v242)) else((wJ (a0.dofs.length:Int) 0).bind fun x246=>(bM K a0 x246 x174).bind fun v248=>(cL K v248 x133 v2 a0 x121 x127).bind fun v250=>(aS (x133+1)).bind fun v263=>recl146 v250.1 v250.2 v263)
def bC (K:Nat) (a0:aH) (v2:List aE) (x91:List aF) (v105:Rat):Nat→(List Nat)→(List (List Rat))→Int→Option ((List Nat)×(List (List Rat)))
 |0,_,_,_=>none
 |k+1,x121,x127,x133=>bif(decide (x133<(v2.length:Int))) then((bT v2 x133).bind fun v152=>(pK x91).bind fun v156=>(bT a0.rows v152.row).bind fun v164=>bif(v152.kind==0) then((bT v156 v152.row).bind fun v168=>(pC v156 v152.row (⟨v105,v168.f⟩:aF)).bind fun x170=>bif(decide (0<(v164.t.length:Int))) then((lD K a0 v164 v105).bind fun v268=>(bT x170 v152.row).bind fun v270=>(pC x170 v152.row (⟨v270.n,v268⟩:aF)).bind fun x272=>d8 K a0 v2 x121 x127 x133 v152 v164 (bC K a0 v2 x91 v105 k) x272) else(d8 K a0 v2 x121 x127 x133 v152 v164 (bC K a0 v2 x91 v105 k) x170)) else(bif(v152.kind==1) then((bT v156 v152.row).bind fun v276=>(pC v156 v152.row (⟨v276.n,v105⟩:aF)).bind fun x278=>(aS (x133+3)).bind fun v283=>(aS (v283-1)).bind fun v285=>(bT x121 v285).bind fun v287=>(aAk v105).bind fun v289=>(bT (x127.getD v287 []) x133).bind fun v291=>(pC (x127.getD v287 []) x133 v289).bind fun x293=>(wJ (a0.dofs.length:Int) 0).bind fun x298=>(bM K a0 x298 x278).bind fun v300=>(cL K v300 x133 v2 a0 x121 (x127.set v287 x293)).bind fun v302=>(aS (x133+1)).bind fun v315=>bC K a0 v2 x91 v105 k v302.1 v302.2 v315) else(bif(v152.kind==2) then((aAk v105).bind fun v320=>(bT v156 v152.row).bind fun v322=>(pC v156 v152.row (⟨v322.n,v320⟩:aF)).bind fun x324=>(aS (x133+3)).bind fun v329=>(aS (v329-2)).bind fun v331=>(bT x121 v331).bind fun v333=>(aAk v105).bind fun v335=>(bT (x127.getD v333 []) x133).bind fun v337=>(pC (x127.getD v333 []) x133 v335).bind fun x339=>(wJ (a0.dofs.length:Int) 0).bind fun x344=>(bM K a0 x344 x324).bind fun v346=>(cL K v346 x133 v2 a0 x121 (x127.set v333 x339)).bind fun v348=>(aS (x133+1)).bind fun v361=>bC K a0 v2 x91 v105 k v348.1 v348.2 v361) else(bif(v152.kind==3) then((aS (x133+1)).bind fun v366=>(aS (v366-3)).bind fun v368=>(bT x121 v368).bind fun v370=>(aS (x133+2)).bind fun v372=>(aS (v372-3)).bind fun v374=>(bT x121 v374).bind fun v376=>(bT (x127.getD v370 []) x133).bind fun v378=>(pC (x127.getD v370 []) x133 v105).bind fun x380=>(bT ((x127.set v370 x380).getD v376 []) x133).bind fun v383=>(pC ((x127.set v370 x380).getD v376 []) x133 v105).bind fun x386=>(aS (x133+1)).bind fun v389=>bC K a0 v2 x91 v105 k x121 ((x127.set v370 x380).set v376 x386) v389) else((wJ (a0.dofs.length:Int) 0).bind fun x393=>(bM K a0 x393 v156).bind fun v395=>(cL K v395 x133 v2 a0 x121 x127).bind fun v397=>(aS (x133+1)).bind fun v410=>bC K a0 v2 x91 v105 k v397.1 v397.2 v410))))) else(some (x121,x127))
def nH (K:Nat) (a0:aH) (v2:List aE) (x13:List Rat) (x77:List Nat) (x83:List (List Rat)):Option ((List (List Rat))×(List Rat)):=
 (wJ (a0.rows.length:Int) (⟨0,0⟩:aF)).bind fun x91=>(bM K a0 a0.load x91).bind fun v96=>(mS K v96 v2 a0 x13).bind fun v98=>(zK 1 1).bind fun v105=>(bC K a0 v2 x91 v105 K x77 x83 0).bind fun(x134,x140)=>mQ K v98 x134 x140
def fX (K:Nat) (v2:List aE) (x10:List Nat):Nat→(List Nat)→(List (List Rat))→Int→Option ((List Nat)×(List (List Rat)))
 |0,_,_,_=>none
 |k+1,x64,x70,x76=>bif(decide (x76<(x10.length:Int))) then((wJ (v2.length:Int) 0).bind fun x415=>(bT x64 x76).bind fun v419=>(pC x64 x76 x70.length).bind fun x423=>(aS (x76+1)).bind fun v427=>fX K v2 x10 k x423 (x70++[x415]) v427) else(some (x64,x70))
def nK (K:Nat) (a0:aH):Option ((List (List Rat))×(List Rat)):=
 (kJ K a0).bind fun v2=>(wJ (v2.length:Int) (0:Nat)).bind fun x10=>(wJ (v2.length:Int) 0).bind fun x13=>(fX K v2 x10 K x10 [([]:List Rat)] 0).bind fun(x77,x83)=>nH K a0 v2 x13 x77 x83
theorem aAW {K:Nat} {a0:aH} {r:(List (List Rat))×(List Rat)} (hF:nK K a0=some r):Ct Tryz.prog 71 [.va (aH.enc a0)] (.t2 (.vc (pS (yP cQ) r.1)) (.vc (pS cQ r.2))):=by
 unfold nK at hF
 refine aJ Tryz.func71 rfl (by kernel_rfl) Tryz.ntmps71 rfl (fun w0 M0=>?_)
 refine aN (aU (cE rfl rfl trivial (fun b1=>?_)))
 refine aX (bP (.inr rfl)) ⟨d9 (yP cQ),trivial⟩ ?_
 refine aX (bP (.inr rfl)) ⟨d9 cQ,trivial⟩ ?_
 obtain⟨v2,h3,hF⟩:=aY hF wI
 refine go ?_ ?_
 refine aO rfl tyZ114q (fun b4=>?_)
 refine go ?_ ?_
 refine aX (aGU (xs:=[.tmp 4,.tmp 1]) (cs:=[pP (some b4) 0,pP (some b1) 0]) rfl rfl) zU2 ?_
 refine aAm ?_
 refine bI (aP (aN (aOW cQ 44 ?_)))
 obtain⟨x10,h11,hF⟩:=a8 hF
 obtain⟨x13,h14,hF⟩:=a8 hF
 refine oV (HsM [(0,fun G7=>([⟨some b4,1,114,1,1,[pS aE.cod v2]⟩,⟨some b1,1,113,4,1,(aH.enc a0)⟩]++jI cQ 44 [(none,0,0)] [([]:List Rat)])),(1,fun G7=>([hO (cH [(none,0,0)]) ((G7 2).1) x10.length 24 x10.length x10,⟨some b4,1,114,1,1,[pS aE.cod v2]⟩,⟨some b1,1,113,4,1,(aH.enc a0)⟩]++jI cQ 44 [(none,0,0)] [([]:List Rat)])),(2,fun G7=>([hO cQ ((G7 5).1) x13.length 44 x13.length x13,⟨some b4,1,114,1,1,[pS aE.cod v2]⟩,⟨some b1,1,113,4,1,(aH.enc a0)⟩]++jI cQ 44 [(none,0,0)] [([]:List Rat)])),(3,fun G7=>([hO cQ ((G7 5).1) x13.length 44 x13.length x13,hO (cH [(none,0,0)]) ((G7 2).1) x10.length 24 x10.length x10,⟨some b4,1,114,1,1,[pS aE.cod v2]⟩,⟨some b1,1,113,4,1,(aH.enc a0)⟩]++jI cQ 44 [(none,0,0)] [([]:List Rat)])),(4,fun G7=>([⟨some ((G7 6).1.getD 0),1,62,1,1,[pS (yP cQ) ([]:List (List Rat))]⟩,⟨some b4,1,114,1,1,[pS aE.cod v2]⟩,⟨some b1,1,113,4,1,(aH.enc a0)⟩]++jI cQ 44 [(none,0,0)] [([]:List Rat)])),(5,fun G7=>([⟨some ((G7 6).1.getD 0),1,62,1,1,[pS (yP cQ) ([]:List (List Rat))]⟩,hO (cH [(none,0,0)]) ((G7 2).1) x10.length 24 x10.length x10,⟨some b4,1,114,1,1,[pS aE.cod v2]⟩,⟨some b1,1,113,4,1,(aH.enc a0)⟩]++jI cQ 44 [(none,0,0)] [([]:List Rat)])),(6,fun G7=>([⟨some ((G7 6).1.getD 0),1,62,1,1,[pS (yP cQ) ([]:List (List Rat))]⟩,hO cQ ((G7 5).1) x13.length 44 x13.length x13,⟨some b4,1,114,1,1,[pS aE.cod v2]⟩,⟨some b1,1,113,4,1,(aH.enc a0)⟩]++jI cQ 44 [(none,0,0)] [([]:List Rat)])),(7,fun G7=>([⟨some ((G7 6).1.getD 0),1,62,1,1,[pS (yP cQ) ([]:List (List Rat))]⟩,hO cQ ((G7 5).1) x13.length 44 x13.length x13,hO (cH [(none,0,0)]) ((G7 2).1) x10.length 24 x10.length x10,⟨some b4,1,114,1,1,[pS aE.cod v2]⟩,⟨some b1,1,113,4,1,(aH.enc a0)⟩]++jI cQ 44 [(none,0,0)] [([]:List Rat)])),(8,fun G7=>([⟨some ((G7 7).1.getD 0),1,24,1,1,[pS cQ ([]:List Rat)]⟩,⟨some b4,1,114,1,1,[pS aE.cod v2]⟩,⟨some b1,1,113,4,1,(aH.enc a0)⟩]++jI cQ 44 [(none,0,0)] [([]:List Rat)])),(9,fun G7=>([⟨some ((G7 7).1.getD 0),1,24,1,1,[pS cQ ([]:List Rat)]⟩,hO (cH [(none,0,0)]) ((G7 2).1) x10.length 24 x10.length x10,⟨some b4,1,114,1,1,[pS aE.cod v2]⟩,⟨some b1,1,113,4,1,(aH.enc a0)⟩]++jI cQ 44 [(none,0,0)] [([]:List Rat)])),(10,fun G7=>([⟨some ((G7 7).1.getD 0),1,24,1,1,[pS cQ ([]:List Rat)]⟩,hO cQ ((G7 5).1) x13.length 44 x13.length x13,⟨some b4,1,114,1,1,[pS aE.cod v2]⟩,⟨some b1,1,113,4,1,(aH.enc a0)⟩]++jI cQ 44 [(none,0,0)] [([]:List Rat)])),(11,fun G7=>([⟨some ((G7 7).1.getD 0),1,24,1,1,[pS cQ ([]:List Rat)]⟩,hO cQ ((G7 5).1) x13.length 44 x13.length x13,hO (cH [(none,0,0)]) ((G7 2).1) x10.length 24 x10.length x10,⟨some b4,1,114,1,1,[pS aE.cod v2]⟩,⟨some b1,1,113,4,1,(aH.enc a0)⟩]++jI cQ 44 [(none,0,0)] [([]:List Rat)])),(12,fun G7=>([⟨some ((G7 7).1.getD 0),1,24,1,1,[pS cQ ([]:List Rat)]⟩,⟨some ((G7 6).1.getD 0),1,62,1,1,[pS (yP cQ) ([]:List (List Rat))]⟩,⟨some b4,1,114,1,1,[pS aE.cod v2]⟩,⟨some b1,1,113,4,1,(aH.enc a0)⟩]++jI cQ 44 [(none,0,0)] [([]:List Rat)])),(13,fun G7=>([⟨some ((G7 7).1.getD 0),1,24,1,1,[pS cQ ([]:List Rat)]⟩,⟨some ((G7 6).1.getD 0),1,62,1,1,[pS (yP cQ) ([]:List (List Rat))]⟩,hO (cH [(none,0,0)]) ((G7 2).1) x10.length 24 x10.length x10,⟨some b4,1,114,1,1,[pS aE.cod v2]⟩,⟨some b1,1,113,4,1,(aH.enc a0)⟩]++jI cQ 44 [(none,0,0)] [([]:List Rat)])),(14,fun G7=>([⟨some ((G7 7).1.getD 0),1,24,1,1,[pS cQ ([]:List Rat)]⟩,⟨some ((G7 6).1.getD 0),1,62,1,1,[pS (yP cQ) ([]:List (List Rat))]⟩,hO cQ ((G7 5).1) x13.length 44 x13.length x13,⟨some b4,1,114,1,1,[pS aE.cod v2]⟩,⟨some b1,1,113,4,1,(aH.enc a0)⟩]++jI cQ 44 [(none,0,0)] [([]:List Rat)])),(15,fun G7=>([⟨some ((G7 7).1.getD 0),1,24,1,1,[pS cQ ([]:List Rat)]⟩,⟨some ((G7 6).1.getD 0),1,62,1,1,[pS (yP cQ) ([]:List (List Rat))]⟩,hO cQ ((G7 5).1) x13.length 44 x13.length x13,hO (cH [(none,0,0)]) ((G7 2).1) x10.length 24 x10.length x10,⟨some b4,1,114,1,1,[pS aE.cod v2]⟩,⟨some b1,1,113,4,1,(aH.enc a0)⟩]++jI cQ 44 [(none,0,0)] [([]:List Rat)])),(29,fun G7=>([⟨some ((G7 7).1.getD 0),1,24,1,1,[pS cQ ([]:List Rat)]⟩,⟨some ((G7 6).1.getD 0),1,62,1,1,[pO ((G7 2).1) x10.length x10.length]⟩,hO (cH [(none,0,0)]) ((G7 2).1) x10.length 24 x10.length x10,⟨some b4,1,114,1,1,[pS aE.cod v2]⟩,⟨some b1,1,113,4,1,(aH.enc a0)⟩]++jI cQ 44 [(none,0,0)] [([]:List Rat)])),(31,fun G7=>([⟨some ((G7 7).1.getD 0),1,24,1,1,[pS cQ ([]:List Rat)]⟩,⟨some ((G7 6).1.getD 0),1,62,1,1,[pO ((G7 2).1) x10.length x10.length]⟩,hO cQ ((G7 5).1) x13.length 44 x13.length x13,hO (cH [(none,0,0)]) ((G7 2).1) x10.length 24 x10.length x10,⟨some b4,1,114,1,1,[pS aE.cod v2]⟩,⟨some b1,1,113,4,1,(aH.enc a0)⟩]++jI cQ 44 [(none,0,0)] [([]:List Rat)]))]) [2,5,6,7,8] [0,1,3,0,8,24,0,0,199,511] 9 1 [.v (.vc (pS aE.cod v2)),.v (.vc (pI .i64 (v2.length:Int))),.g (fun b _=>.vc (pO b x10.length x10.length)),.v (.vc (pS aE.cod v2)),.v (.vc (pI .i64 (v2.length:Int))),.g (fun b _=>.vc (pO b x13.length x13.length)),.g (fun b _=>.vc (pP (some (b.getD 0)) 0)),.g (fun b _=>.vc (pP (some (b.getD 0)) 0)),.g (fun _ _=>.any)] bA ⟨⟨rfl,.run (L:=[0,2,4,6,8,10,12,14]) ⟨fun G7 A=>eV 0 1 rfl rfl rfl rfl (.one tyO114),fun G7 A=>eV 1 1 rfl rfl rfl rfl (.one tyO114),fun G7 A=>eV 1 1 rfl rfl rfl rfl (.one tyO114),fun G7 A=>eV 2 1 rfl rfl rfl rfl (.one tyO114),fun G7 A=>eV 1 1 rfl rfl rfl rfl (.one tyO114),fun G7 A=>eV 2 1 rfl rfl rfl rfl (.one tyO114),fun G7 A=>eV 2 1 rfl rfl rfl rfl (.one tyO114),fun G7 A=>eV 3 1 rfl rfl rfl rfl (.one tyO114),trivial⟩ (fun G7=>zU1)⟩,⟨rfl,.run (L:=[0,2,4,6,8,10,12,14]) ⟨fun G7 A=>vG rfl tyS114,fun G7 A=>vG rfl tyS114,fun G7 A=>vG rfl tyS114,fun G7 A=>vG rfl tyS114,fun G7 A=>vG rfl tyS114,fun G7 A=>vG rfl tyS114,fun G7 A=>vG rfl tyS114,fun G7 A=>vG rfl tyS114,trivial⟩ (fun G7=>zU1)⟩,⟨rfl,.hvy [0,2,4,6,8,10,12,14] ⟨fun G7 A=>jH (C:=cH [(none,0,0)]) (z:=0) rfl tyS62 rfl tyZ24_oq h11,fun G7 A=>sU (R:=jI cQ 44 [(none,0,0)] [([]:List Rat)]) [1,0,2,3] (jH (C:=cH [(none,0,0)]) (z:=0) rfl tyS62 rfl tyZ24_oq h11) (fun b_ c_=>⟨[hO (cH [(none,0,0)]) (b_) x10.length 24 x10.length x10,hO cQ ((G7 5).1) x13.length 44 x13.length x13,⟨some b4,1,114,1,1,[pS aE.cod v2]⟩,⟨some b1,1,113,4,1,(aH.enc a0)⟩],_,rfl,rfl,rfl⟩),fun G7 A=>sU (R:=jI cQ 44 [(none,0,0)] [([]:List Rat)]) [1,0,2,3] (jH (C:=cH [(none,0,0)]) (z:=0) rfl tyS62 rfl tyZ24_oq h11) (fun b_ c_=>⟨[hO (cH [(none,0,0)]) (b_) x10.length 24 x10.length x10,⟨some ((G7 6).1.getD 0),1,62,1,1,[pS (yP cQ) ([]:List (List Rat))]⟩,⟨some b4,1,114,1,1,[pS aE.cod v2]⟩,⟨some b1,1,113,4,1,(aH.enc a0)⟩],_,rfl,rfl,rfl⟩),fun G7 A=>sU (R:=jI cQ 44 [(none,0,0)] [([]:List Rat)]) [1,2,0,3,4] (jH (C:=cH [(none,0,0)]) (z:=0) rfl tyS62 rfl tyZ24_oq h11) (fun b_ c_=>⟨[hO (cH [(none,0,0)]) (b_) x10.length 24 x10.length x10,⟨some ((G7 6).1.getD 0),1,62,1,1,[pS (yP cQ) ([]:List (List Rat))]⟩,hO cQ ((G7 5).1) x13.length 44 x13.length x13,⟨some b4,1,114,1,1,[pS aE.cod v2]⟩,⟨some b1,1,113,4,1,(aH.enc a0)⟩],_,rfl,rfl,rfl⟩),fun G7 A=>sU (R:=jI cQ 44 [(none,0,0)] [([]:List Rat)]) [1,0,2,3] (jH (C:=cH [(none,0,0)]) (z:=0) rfl tyS62 rfl tyZ24_oq h11) (fun b_ c_=>⟨[hO (cH [(none,0,0)]) (b_) x10.length 24 x10.length x10,⟨some ((G7 7).1.getD 0),1,24,1,1,[pS cQ ([]:List Rat)]⟩,⟨some b4,1,114,1,1,[pS aE.cod v2]⟩,⟨some b1,1,113,4,1,(aH.enc a0)⟩],_,rfl,rfl,rfl⟩),fun G7 A=>sU (R:=jI cQ 44 [(none,0,0)] [([]:List Rat)]) [1,2,0,3,4] (jH (C:=cH [(none,0,0)]) (z:=0) rfl tyS62 rfl tyZ24_oq h11) (fun b_ c_=>⟨[hO (cH [(none,0,0)]) (b_) x10.length 24 x10.length x10,⟨some ((G7 7).1.getD 0),1,24,1,1,[pS cQ ([]:List Rat)]⟩,hO cQ ((G7 5).1) x13.length 44 x13.length x13,⟨some b4,1,114,1,1,[pS aE.cod v2]⟩,⟨some b1,1,113,4,1,(aH.enc a0)⟩],_,rfl,rfl,rfl⟩),fun G7 A=>sU (R:=jI cQ 44 [(none,0,0)] [([]:List Rat)]) [1,2,0,3,4] (jH (C:=cH [(none,0,0)]) (z:=0) rfl tyS62 rfl tyZ24_oq h11) (fun b_ c_=>⟨[hO (cH [(none,0,0)]) (b_) x10.length 24 x10.length x10,⟨some ((G7 7).1.getD 0),1,24,1,1,[pS cQ ([]:List Rat)]⟩,⟨some ((G7 6).1.getD 0),1,62,1,1,[pS (yP cQ) ([]:List (List Rat))]⟩,⟨some b4,1,114,1,1,[pS aE.cod v2]⟩,⟨some b1,1,113,4,1,(aH.enc a0)⟩],_,rfl,rfl,rfl⟩),fun G7 A=>sU (R:=jI cQ 44 [(none,0,0)] [([]:List Rat)]) [1,2,3,0,4,5] (jH (C:=cH [(none,0,0)]) (z:=0) rfl tyS62 rfl tyZ24_oq h11) (fun b_ c_=>⟨[hO (cH [(none,0,0)]) (b_) x10.length 24 x10.length x10,⟨some ((G7 7).1.getD 0),1,24,1,1,[pS cQ ([]:List Rat)]⟩,⟨some ((G7 6).1.getD 0),1,62,1,1,[pS (yP cQ) ([]:List (List Rat))]⟩,hO cQ ((G7 5).1) x13.length 44 x13.length x13,⟨some b4,1,114,1,1,[pS aE.cod v2]⟩,⟨some b1,1,113,4,1,(aH.enc a0)⟩],_,rfl,rfl,rfl⟩),trivial⟩ (fun G7=>zU1)⟩,⟨rfl,.run (L:=[0,1,4,5,8,9,12,13,29]) ⟨fun G7 A=>eV 0 1 rfl rfl rfl rfl (.one tyO114),fun G7 A=>eV 1 1 rfl rfl rfl rfl (.one tyO114),fun G7 A=>eV 1 1 rfl rfl rfl rfl (.one tyO114),fun G7 A=>eV 2 1 rfl rfl rfl rfl (.one tyO114),fun G7 A=>eV 1 1 rfl rfl rfl rfl (.one tyO114),fun G7 A=>eV 2 1 rfl rfl rfl rfl (.one tyO114),fun G7 A=>eV 2 1 rfl rfl rfl rfl (.one tyO114),fun G7 A=>eV 3 1 rfl rfl rfl rfl (.one tyO114),fun G7 A=>eV 3 1 rfl rfl rfl rfl (.one tyO114),trivial⟩ (fun G7=>zU1)⟩,⟨rfl,.run (L:=[0,1,4,5,8,9,12,13,29]) ⟨fun G7 A=>vG rfl tyS114,fun G7 A=>vG rfl tyS114,fun G7 A=>vG rfl tyS114,fun G7 A=>vG rfl tyS114,fun G7 A=>vG rfl tyS114,fun G7 A=>vG rfl tyS114,fun G7 A=>vG rfl tyS114,fun G7 A=>vG rfl tyS114,fun G7 A=>vG rfl tyS114,trivial⟩ (fun G7=>zU1)⟩,⟨rfl,.hvy [0,1,4,5,8,9,12,13,29] ⟨fun G7 A=>jH (C:=cQ) rfl tyS24 rfl tyZ44q h14,fun G7 A=>jH (C:=cQ) rfl tyS24 rfl tyZ44q h14,fun G7 A=>sU (R:=jI cQ 44 [(none,0,0)] [([]:List Rat)]) [1,0,2,3] (jH (C:=cQ) rfl tyS24 rfl tyZ44q h14) (fun b_ c_=>⟨[hO cQ (b_) x13.length 44 x13.length x13,⟨some ((G7 6).1.getD 0),1,62,1,1,[pS (yP cQ) ([]:List (List Rat))]⟩,⟨some b4,1,114,1,1,[pS aE.cod v2]⟩,⟨some b1,1,113,4,1,(aH.enc a0)⟩],_,rfl,rfl,rfl⟩),fun G7 A=>sU (R:=jI cQ 44 [(none,0,0)] [([]:List Rat)]) [1,0,2,3,4] (jH (C:=cQ) rfl tyS24 rfl tyZ44q h14) (fun b_ c_=>⟨[hO cQ (b_) x13.length 44 x13.length x13,⟨some ((G7 6).1.getD 0),1,62,1,1,[pS (yP cQ) ([]:List (List Rat))]⟩,hO (cH [(none,0,0)]) ((G7 2).1) x10.length 24 x10.length x10,⟨some b4,1,114,1,1,[pS aE.cod v2]⟩,⟨some b1,1,113,4,1,(aH.enc a0)⟩],_,rfl,rfl,rfl⟩),fun G7 A=>sU (R:=jI cQ 44 [(none,0,0)] [([]:List Rat)]) [1,0,2,3] (jH (C:=cQ) rfl tyS24 rfl tyZ44q h14) (fun b_ c_=>⟨[hO cQ (b_) x13.length 44 x13.length x13,⟨some ((G7 7).1.getD 0),1,24,1,1,[pS cQ ([]:List Rat)]⟩,⟨some b4,1,114,1,1,[pS aE.cod v2]⟩,⟨some b1,1,113,4,1,(aH.enc a0)⟩],_,rfl,rfl,rfl⟩),fun G7 A=>sU (R:=jI cQ 44 [(none,0,0)] [([]:List Rat)]) [1,0,2,3,4] (jH (C:=cQ) rfl tyS24 rfl tyZ44q h14) (fun b_ c_=>⟨[hO cQ (b_) x13.length 44 x13.length x13,⟨some ((G7 7).1.getD 0),1,24,1,1,[pS cQ ([]:List Rat)]⟩,hO (cH [(none,0,0)]) ((G7 2).1) x10.length 24 x10.length x10,⟨some b4,1,114,1,1,[pS aE.cod v2]⟩,⟨some b1,1,113,4,1,(aH.enc a0)⟩],_,rfl,rfl,rfl⟩),fun G7 A=>sU (R:=jI cQ 44 [(none,0,0)] [([]:List Rat)]) [1,2,0,3,4] (jH (C:=cQ) rfl tyS24 rfl tyZ44q h14) (fun b_ c_=>⟨[hO cQ (b_) x13.length 44 x13.length x13,⟨some ((G7 7).1.getD 0),1,24,1,1,[pS cQ ([]:List Rat)]⟩,⟨some ((G7 6).1.getD 0),1,62,1,1,[pS (yP cQ) ([]:List (List Rat))]⟩,⟨some b4,1,114,1,1,[pS aE.cod v2]⟩,⟨some b1,1,113,4,1,(aH.enc a0)⟩],_,rfl,rfl,rfl⟩),fun G7 A=>sU (R:=jI cQ 44 [(none,0,0)] [([]:List Rat)]) [1,2,0,3,4,5] (jH (C:=cQ) rfl tyS24 rfl tyZ44q h14) (fun b_ c_=>⟨[hO cQ (b_) x13.length 44 x13.length x13,⟨some ((G7 7).1.getD 0),1,24,1,1,[pS cQ ([]:List Rat)]⟩,⟨some ((G7 6).1.getD 0),1,62,1,1,[pS (yP cQ) ([]:List (List Rat))]⟩,hO (cH [(none,0,0)]) ((G7 2).1) x10.length 24 x10.length x10,⟨some b4,1,114,1,1,[pS aE.cod v2]⟩,⟨some b1,1,113,4,1,(aH.enc a0)⟩],_,rfl,rfl,rfl⟩),fun G7 A=>sU (R:=jI cQ 44 [(none,0,0)] [([]:List Rat)]) [1,2,0,3,4,5] (jH (C:=cQ) rfl tyS24 rfl tyZ44q h14) (fun b_ c_=>⟨[hO cQ (b_) x13.length 44 x13.length x13,⟨some ((G7 7).1.getD 0),1,24,1,1,[pS cQ ([]:List Rat)]⟩,⟨some ((G7 6).1.getD 0),1,62,1,1,[pO ((G7 2).1) x10.length x10.length]⟩,hO (cH [(none,0,0)]) ((G7 2).1) x10.length 24 x10.length x10,⟨some b4,1,114,1,1,[pS aE.cod v2]⟩,⟨some b1,1,113,4,1,(aH.enc a0)⟩],_,rfl,rfl,rfl⟩),trivial⟩ (fun G7=>zU1)⟩,⟨rfl,.hvy (ins:=fun _=>[]) [0,1,2,3,8,9,10,11] ⟨fun G7 A=>pH (T:=62) (zs:=[pS (yP cQ) ([]:List (List Rat))]) rfl tyZ62q,fun G7 A=>pH (T:=62) (zs:=[pS (yP cQ) ([]:List (List Rat))]) rfl tyZ62q,fun G7 A=>pH (T:=62) (zs:=[pS (yP cQ) ([]:List (List Rat))]) rfl tyZ62q,fun G7 A=>pH (T:=62) (zs:=[pS (yP cQ) ([]:List (List Rat))]) rfl tyZ62q,fun G7 A=>sU (R:=jI cQ 44 [(none,0,0)] [([]:List Rat)]) [1,0,2,3] (pH (T:=62) (zs:=[pS (yP cQ) ([]:List (List Rat))]) rfl tyZ62q) (fun b_ c_=>⟨[⟨some (b_.getD 0),1,62,1,1,[pS (yP cQ) ([]:List (List Rat))]⟩,⟨some ((G7 7).1.getD 0),1,24,1,1,[pS cQ ([]:List Rat)]⟩,⟨some b4,1,114,1,1,[pS aE.cod v2]⟩,⟨some b1,1,113,4,1,(aH.enc a0)⟩],_,rfl,rfl,rfl⟩),fun G7 A=>sU (R:=jI cQ 44 [(none,0,0)] [([]:List Rat)]) [1,0,2,3,4] (pH (T:=62) (zs:=[pS (yP cQ) ([]:List (List Rat))]) rfl tyZ62q) (fun b_ c_=>⟨[⟨some (b_.getD 0),1,62,1,1,[pS (yP cQ) ([]:List (List Rat))]⟩,⟨some ((G7 7).1.getD 0),1,24,1,1,[pS cQ ([]:List Rat)]⟩,hO (cH [(none,0,0)]) ((G7 2).1) x10.length 24 x10.length x10,⟨some b4,1,114,1,1,[pS aE.cod v2]⟩,⟨some b1,1,113,4,1,(aH.enc a0)⟩],_,rfl,rfl,rfl⟩),fun G7 A=>sU (R:=jI cQ 44 [(none,0,0)] [([]:List Rat)]) [1,0,2,3,4] (pH (T:=62) (zs:=[pS (yP cQ) ([]:List (List Rat))]) rfl tyZ62q) (fun b_ c_=>⟨[⟨some (b_.getD 0),1,62,1,1,[pS (yP cQ) ([]:List (List Rat))]⟩,⟨some ((G7 7).1.getD 0),1,24,1,1,[pS cQ ([]:List Rat)]⟩,hO cQ ((G7 5).1) x13.length 44 x13.length x13,⟨some b4,1,114,1,1,[pS aE.cod v2]⟩,⟨some b1,1,113,4,1,(aH.enc a0)⟩],_,rfl,rfl,rfl⟩),fun G7 A=>sU (R:=jI cQ 44 [(none,0,0)] [([]:List Rat)]) [1,0,2,3,4,5] (pH (T:=62) (zs:=[pS (yP cQ) ([]:List (List Rat))]) rfl tyZ62q) (fun b_ c_=>⟨[⟨some (b_.getD 0),1,62,1,1,[pS (yP cQ) ([]:List (List Rat))]⟩,⟨some ((G7 7).1.getD 0),1,24,1,1,[pS cQ ([]:List Rat)]⟩,hO cQ ((G7 5).1) x13.length 44 x13.length x13,hO (cH [(none,0,0)]) ((G7 2).1) x10.length 24 x10.length x10,⟨some b4,1,114,1,1,[pS aE.cod v2]⟩,⟨some b1,1,113,4,1,(aH.enc a0)⟩],_,rfl,rfl,rfl⟩),trivial⟩ (fun G7=>trivial)⟩,⟨rfl,.hvy (ins:=fun _=>[]) [0,1,2,3,4,5,6,7] ⟨fun G7 A=>pH (T:=24) (zs:=[pS cQ ([]:List Rat)]) rfl tyZ24q,fun G7 A=>pH (T:=24) (zs:=[pS cQ ([]:List Rat)]) rfl tyZ24q,fun G7 A=>pH (T:=24) (zs:=[pS cQ ([]:List Rat)]) rfl tyZ24q,fun G7 A=>pH (T:=24) (zs:=[pS cQ ([]:List Rat)]) rfl tyZ24q,fun G7 A=>pH (T:=24) (zs:=[pS cQ ([]:List Rat)]) rfl tyZ24q,fun G7 A=>pH (T:=24) (zs:=[pS cQ ([]:List Rat)]) rfl tyZ24q,fun G7 A=>pH (T:=24) (zs:=[pS cQ ([]:List Rat)]) rfl tyZ24q,fun G7 A=>pH (T:=24) (zs:=[pS cQ ([]:List Rat)]) rfl tyZ24q,trivial⟩ (fun G7=>trivial)⟩,⟨rfl,.hvy [13,15] ⟨fun G7 A=>aSu (t_s 1 rfl rfl rfl tyO62.s),fun G7 A=>aSu (t_s 1 rfl rfl rfl tyO62.s),trivial⟩ (fun G7=>zU2)⟩,trivial⟩ (fun bs8 G7=>?_)
 refine go ?_ ?_
 refine aQ (bY (fun H E=>∃(x77:List Nat),∃(x83:List (List Rat)),∃(b78:Option Nat),∃(c79:Nat),∃(n80:Nat),∃(g84:List xO),∃(N85:Nat),nH K a0 v2 x13 x77 x83=some r∧x77.length=n80∧x83.length=N85∧nB g84 x83∧(∀k∈x77,k<N85)∧H=([⟨some ((G7 7).1.getD 0),1,24,1,1,[pO ((G7 5).1) x13.length x13.length]⟩,⟨some ((G7 6).1.getD 0),1,62,1,1,[pO b78 n80 c79]⟩,hO cQ ((G7 5).1) x13.length 44 x13.length x13,hO (cH g84) b78 c79 24 n80 x77,⟨some b4,1,114,1,1,[pS aE.cod v2]⟩,⟨some b1,1,113,4,1,(aH.enc a0)⟩]++jI cQ 44 g84 x83)∧E=[(1,.vc (pP (some b1) 0)),(4,.vc (pP (some b4) 0)),(5,.vc (pF 156 [pP (some b4) 0,pP (some b1) 0])),(6,.vc (pP (some ((G7 6).1.getD 0)) 0)),(7,.vc (pP (some ((G7 7).1.getD 0)) 0))]) ?_ (fun Jj90=>?_))
 ·rintro _ _ ⟨x77,x83,b78,c79,n80,g84,N85,hF,q81,q86,q87,q88,rfl,rfl⟩
  unfold nH at hF
  obtain⟨x91,h92,hF⟩:=a8 hF
  refine go ?_ ?_
  refine tD (C:=aF.cod) (z:=(⟨0,0⟩:aF)) rfl tyS29 rfl tyZ58q rfl h92 (fun b93=>?_)
  refine aAm ?_
  refine bI (aP (aN (aU (nC ?_))))
  refine aX (eV 6 4 rfl rfl rfl rfl (.agg tyA113)) zU1 ?_
  refine aX (lN (off:=0) (k:=1) rfl tyF113_1) zU1 ?_
  refine aX (eV 6 1 rfl rfl rfl rfl (.one tyO24)) zU1 ?_
  refine nC ?_
  refine aCR 0 [9,39,44] rfl rfl ⟨rfl,rfl,rfl,trivial⟩ rfl ?_
  obtain⟨v96,h97,hF⟩:=aY hF cX
  refine aX (bV rfl h97 rfl) ⟨rfl,rfl,rfl,trivial⟩ ?_
  refine aX (aGU (xs:=[.tmp 7]) (cs:=[pP (some ((G7 7).1.getD 0)) 0]) rfl rfl) zU1 ?_
  obtain⟨v98,h99,hF⟩:=a8 hF
  refine aNQ (f:=156) (cs:=[pP (some b4) 0,pP (some b1) 0]) (pre:=[.vc (pS cQ v96),.vc (pF 157 [pP (some ((G7 7).1.getD 0)) 0])]) (xs:=[.tmp 45,.tmp 46]) 6 [0,4,5,2] [1,3] rfl (yA h99 rfl) ⟨rfl,rfl,rfl,trivial⟩ rfl rfl rfl (by decide) ?_
  rintro _ _ ⟨b100,c101,n102,q103,rfl,rfl⟩
  obtain⟨v105,h106,hF⟩:=aY hF aAv
  refine go ?_ ?_
  refine aO rfl tyZ44q (fun b107=>?_)
  refine go ?_ ?_
  refine aQ (bY (fun H E=>∃(x134:List Nat),∃(x140:List (List Rat)),∃(b135:Option Nat),∃(c136:Nat),∃(n137:Nat),∃(g141:List xO),∃(N142:Nat),mQ K v98 x134 x140=some r∧x134.length=n137∧x140.length=N142∧nB g141 x140∧(∀k∈x134,k<N142)∧H=([⟨some ((G7 7).1.getD 0),1,24,1,1,[pO b100 n102 c101]⟩,hO cQ b100 c101 44 n102 v98,⟨some ((G7 6).1.getD 0),1,62,1,1,[pO b135 n137 c136]⟩,hO (cH g141) b135 c136 24 n137 x134]++jI cQ 44 g141 x140)∧E=[(6,.vc (pP (some ((G7 6).1.getD 0)) 0)),(7,.vc (pP (some ((G7 7).1.getD 0)) 0))]) ?_ (fun Jj147=>?_))
  ·rintro _ _ ⟨x134,x140,b135,c136,n137,g141,N142,hF,q138,q143,q144,q145,rfl,rfl⟩
   unfold mQ at hF
   refine aP (aN (dr [0,0,1,7] 4 0 ?_ (fun bs149 G148=>?_)))
   refine bI (aP (pU (pG (aR8 3 4 rfl rfl q144 (aHq q143 q145) ?_))))
   refine oI 3 [2,180] rfl ((aME _ _).trans q138) zU2 rfl ?_
   refine oI 1 [3,181] rfl q103 zU2 rfl ?_
   obtain rfl:=oN hF
   exact mT (.inl rfl) Tryz.results71 (.tmp rfl (.tmp rfl .nil)) rfl rfl
  obtain⟨⟨x134',x140'⟩,hL,hRl146⟩:=a8 hF
  refine hY (fun k a w=>∃(x121:List Nat),∃(x127:List (List Rat)),∃(x133:Int),∃(b122:Option Nat),∃(c123:Nat),∃(n124:Nat),∃(g128:List xO),∃(N129:Nat),bC K a0 v2 x91 v105 k x121 x127 x133=some (x134',x140')∧x121.length=n124∧x127.length=N129∧nB g128 x127∧(∀k∈x121,k<N129)∧hs _ ([⟨some b107,1,44,4,1,(eQ v105)⟩,⟨some ((G7 7).1.getD 0),1,24,1,1,[pO b100 n102 c101]⟩,⟨some b4,1,114,1,1,[pS aE.cod v2]⟩,⟨some b1,1,113,4,1,(aH.enc a0)⟩,hO cQ b100 c101 44 n102 v98,⟨some ((G7 6).1.getD 0),1,62,1,1,[pO b122 n124 c123]⟩,hO (cH g128) b122 c123 24 n124 x121]++jI cQ 44 g128 x127) [(1,.vc (pP (some b1) 0)),(4,.vc (pP (some b4) 0)),(5,.vc (pF 156 [pP (some b4) 0,pP (some b1) 0])),(6,.vc (pP (some ((G7 6).1.getD 0)) 0)),(7,.vc (pP (some ((G7 7).1.getD 0)) 0)),(9,.vc (pS aF.cod x91)),(10,.vc (pP (some b107) 0)),(49,.vc (pS aE.cod v2)),(50,.vc (pI .i64 (v2.length:Int))),(51,.vc (pI .i64 x133))] a w) K (fun a w ⟨_,_,_,_,_,_,_,_,hF,_,_,_,_,_⟩=>by cases hF) (fun k a w ⟨x121,x127,x133,b122,c123,n124,g128,N129,hF,q125,q130,q131,q132,hh⟩=>iA ?_ hh) (fun a w hh=>⟨x77,x83,0,b78,c79,n80,g84,N85,hL,q81,q86,q87,q88,cS 7 [0,1,2,3,4,5,6] rfl rfl (by decide) (by exact⟨rfl,rfl,rfl,rfl,rfl,rfl,rfl,rfl,rfl,rfl,trivial⟩) hh⟩)
  rw [bC.eq_2] at hF
  refine go ?_ ?_
  refine aL hF rfl (fun h151 hF=>?_) (fun h151 hF=>?_)
  ·refine go ?_ ?_
   refine aQ ?_
   obtain⟨v152,h153,hF⟩:=a8 hF
   refine go ?_ ?_
   refine aO rfl tyZ3q (fun b154=>?_)
   refine aO rfl tyZ118q (fun b155=>?_)
   obtain⟨v156,h157,hF⟩:=a8 hF
   refine go ?_ ?_
   refine aOm rfl (aBg h157) zU1 ?_
   rintro _ _ ⟨b159,c160,n161,q162,rfl,rfl⟩
   obtain⟨v164,h165,hF⟩:=a8 hF
   refine go ?_ ?_
   refine aO rfl tyZ51q (fun b166=>?_)
   refine go ?_ ?_
   refine aQ (go ?_ ?_)
   refine aL hF rfl (fun h167 hF=>?_) (fun h167 hF=>?_)
   ·refine aN (aU (nC ?_))
    refine aX (lN (off:=0) (k:=0) rfl tyF118_0) zU1 ?_
    refine aX (eV 2 1 rfl rfl rfl rfl (.one tyO3)) zU1 ?_
    refine aX (eV 4 4 rfl rfl rfl rfl (.agg tyA44)) zU1 ?_
    obtain⟨v168,h169,hF⟩:=a8 hF
    refine aX (l9 (C:=aF.cod) 1 rfl tyS29 rfl q162 (aV h169).1 (aV h169).2.1) zU2 ?_
    refine aX (aHK (off:=0) (k:=0) rfl tyF58_0) zU1 ?_
    obtain⟨x170,h171,hF⟩:=a8 hF
    refine nZ (yT 1 rfl rfl h169 h171 tyA44.s) zU2 ?_
    refine bI (aP (aN (uU (fun H E=>∃(x174:List aF),d8 K a0 v2 x121 x127 x133 v152 v164 (bC K a0 v2 x91 v105 k) x174=some (x134',x140')∧x174.length=n161∧H=([⟨some b166,1,51,18,1,(aA.enc v164)⟩,hO aF.cod b159 c160 58 n161 x174,⟨some b155,1,118,2,1,(aE.enc v152)⟩,⟨some b154,1,3,1,1,[pI .i64 x133]⟩,⟨some b107,1,44,4,1,(eQ v105)⟩,⟨some ((G7 7).1.getD 0),1,24,1,1,[pO b100 n102 c101]⟩,⟨some b4,1,114,1,1,[pS aE.cod v2]⟩,⟨some b1,1,113,4,1,(aH.enc a0)⟩,hO cQ b100 c101 44 n102 v98,⟨some ((G7 6).1.getD 0),1,62,1,1,[pO b122 n124 c123]⟩,hO (cH g128) b122 c123 24 n124 x121]++jI cQ 44 g128 x127)∧E=[(1,.vc (pP (some b1) 0)),(4,.vc (pP (some b4) 0)),(5,.vc (pF 156 [pP (some b4) 0,pP (some b1) 0])),(6,.vc (pP (some ((G7 6).1.getD 0)) 0)),(7,.vc (pP (some ((G7 7).1.getD 0)) 0)),(9,.vc (pS aF.cod x91)),(10,.vc (pP (some b107) 0)),(11,.vc (pP (some b154) 0)),(12,.vc (pP (some b155) 0)),(13,.vc (pO b159 n161 c160)),(14,.vc (pP (some b166) 0)),(49,.vc (pS aE.cod v2)),(50,.vc (pI .i64 (v2.length:Int))),(51,.vc (pI .i64 x133))]) ?_ (fun Jj180=>?_))))
    ·rintro _ _ ⟨x174,hF,q178,rfl,rfl⟩
     unfold d8 at hF
     refine aN ?_
     obtain⟨v183,h184,hF⟩:=a8 hF
     rcases Bool.eq_false_or_eq_true (decide (v183<(v2.length:Int))) with h185|h185
     ·have hF:=sR h185 hF
      have hF:=r7 h184 hF
      obtain⟨v188,h189,hF⟩:=a8 hF
      refine jJ [0,1,0,4,15,31,63,63,191,511,1023,63,2111,6207,16383,32767] 16 0 [.v (.vc (pI .i64 x133)),.v (.vc (pI .i64 v183)),.v (.vc (pS aE.cod v2)),.v (.vc (pI .i64 (v2.length:Int))),.v (.vc (pB (decide (v183<(v2.length:Int))))),.v (.vc (pB true)),.v (.vc (pS aE.cod v2)),.v (.vc (pI .i64 x133)),.v (.vc (pI .i64 v183)),.v (.vc (pM (aE.cod.e v188))),.v (.va (aE.enc v188)),.v (.vc (pP (some b155) 0)),.v (.vc (pI .i64 v152.row)),.v (.va ([pI .i64 v152.row]++[pI .i64 3])),.v (.vc (pB (v188.row==v152.row&&v188.kind==3))),.v (.vc (pB (v188.row==v152.row&&v188.kind==3)))] bA ⟨d0 (eV 3 1 rfl rfl rfl rfl (.one tyO3)) zU1,d0 (yB rfl h184) ⟨rfl,lC _ _,trivial⟩,d0 (eV 6 1 rfl rfl rfl rfl (.one tyO114)) zU1,d0 (vG rfl tyS114) zU1,d0 (aLD rfl) zU2,d0 (l6 (bP (.inl rfl)) h185) zU1,g0 (eV 6 1 rfl rfl rfl rfl (.one tyO114)) zU1,g0 (eV 3 1 rfl rfl rfl rfl (.one tyO3)) zU1,g0 (yB rfl h184) ⟨rfl,lC _ _,trivial⟩,g0 (aIe rfl tyS114 h189) zU2,g0 (aDX 2 rfl rfl (.agg tyA118)) zU1,g0 (lN (off:=0) (k:=0) rfl tyF118_0) zU1,g0 (eV 2 1 rfl rfl rfl rfl (.one tyO3)) zU1,g0 (cR (is:=[0,1]) (xs:=[.tmp 99,.const (.int .i64 (3))]) (ps:=[.vc (pI .i64 v152.row),.vc (pI .i64 3)]) rfl tyB118q rfl rfl ⟨trivial,trivial,trivial⟩ rfl) ⟨rfl,lC _ _,trivial⟩,g0 (aSQ rfl tyQ118) zU2,d0 (xQ rfl) zU2,trivial⟩ (fun bs182 G181=>?_)
      refine bI (aP (aL hF rfl (fun h190 hF=>?_) (fun h190 hF=>?_)))
      ·have hF:=r7 h184 hF
       obtain⟨v195,h196,hF⟩:=a8 hF
       obtain⟨v197,h198,hF⟩:=a8 hF
       refine jJ [0,0,2,7,15,0,0,64,255,511] 9 1 [.v (.vc (pO b122 n124 c123)),.v (.vc (pI .i64 x133)),.v (.vc (pI .i64 v183)),.v (.vc (pE b122 v183 (cH g128).n 0)),.v (.vc (pO (kV g128 v195).1 (kV g128 v195).2.1 (kV g128 v195).2.2)),.v (.vc (pI .i64 x133)),.v (.vc (pP (some b166) 10)),.v (.va (eQ v164.mu)),.v (.vc (pE (kV g128 v195).1 x133 cQ.n 0))] bA ⟨d0 (eV 9 1 rfl rfl rfl rfl (.one tyO62)) zU1,d0 (eV 3 1 rfl rfl rfl rfl (.one tyO3)) zU1,d0 (yB rfl h184) ⟨rfl,lC _ _,trivial⟩,d0 (l9 (C:=(cH g128)) 10 rfl tyS62 rfl q125 (aV h196).1 (aV h196).2.1) zU2,d0 (r9 (C:=(cH g128)) (k:=1) 10 rfl rfl h196 rfl (.one tyO24) rfl) zU1,d0 (eV 3 1 rfl rfl rfl rfl (.one tyO3)) zU1,d0 (lN (off:=0) (k:=10) rfl tyF51_7) zU1,d0 (eV 0 4 rfl rfl rfl rfl (.agg tyA44)) zU1,d0 (l9 (11+v195) rfl tyS24 (l8 11 rfl q131 q130 (q132 _ (bK h196))) (nD q131 q130 (q132 _ (bK h196))) (aV h198).1 (aV h198).2.1) zU2,trivial⟩ (fun bs192 G191=>?_)
       obtain⟨x199,h200,hF⟩:=a8 hF
       refine nZ (yT (H':=([⟨some b166,1,51,18,1,(aA.enc v164)⟩,hO aF.cod b159 c160 58 n161 x174,⟨some b155,1,118,2,1,(aE.enc v152)⟩,⟨some b154,1,3,1,1,[pI .i64 x133]⟩,⟨some b107,1,44,4,1,(eQ v105)⟩,⟨some ((G7 7).1.getD 0),1,24,1,1,[pO b100 n102 c101]⟩,⟨some b4,1,114,1,1,[pS aE.cod v2]⟩,⟨some b1,1,113,4,1,(aH.enc a0)⟩,hO cQ b100 c101 44 n102 v98,⟨some ((G7 6).1.getD 0),1,62,1,1,[pO b122 n124 c123]⟩,hO (cH g128) b122 c123 24 n124 x121]++jI cQ 44 g128 (x127.set v195 x199))) (11+v195) rfl (aCO 11 rfl q131 q130 (q132 _ (bK h196))) h198 h200 tyA44.s (hH:=stN 11 rfl q131 q130 (q132 _ (bK h196)))) zU2 ?_
       refine bI (t9 (aP (aFm 1 [13] rfl q178 zU1 rfl ?_)))
       refine aF2 2 [(11,0)] rfl zU1 rfl ?_
       obtain⟨x204,h205,hF⟩:=a8 hF
       obtain⟨v206,h207,hF⟩:=aY hF cX
       refine jJ [0,0,0,4,12,28,0,126,0,511] 9 1 [.v (.vc (pF 156 [pP (some b4) 0,pP (some b1) 0])),.v (.va (aH.enc a0)),.v (.vc (pP (some b1) 0)),.v (.vc (pS aG.cod a0.dofs)),.v (.vc (pI .i64 (a0.dofs.length:Int))),.v (.vc (pS cQ x204)),.v (.vc (pS aF.cod x174)),.v (.vc (pS cQ v206)),.v (.vc (pF 159 [pP (some ((G7 6).1.getD 0)) 0,pM (cI.e x133)]))] bA ⟨d0 (bP (.inl rfl)) zU1,d0 (eV 5 4 rfl rfl rfl rfl (.agg tyA113)) zU1,d0 (lN (off:=0) (k:=0) rfl tyF113_0) zU1,d0 (eV 5 1 rfl rfl rfl rfl (.one tyO23)) zU1,d0 (vG rfl tyS23) zU1,d0 (aDC 0 (jH (C:=cQ) rfl tyS24 rfl tyZ44q h205) (fun _ _=>rfl) rfl (fun _ _=>rfl)) zU1,d0 (bP (.inl rfl)) zU1,d0 (bV rfl h207 rfl) ⟨rfl,rfl,rfl,trivial⟩,d0 (aGU (xs:=[.tmp 6,.tmp 11]) (cs:=[pP (some ((G7 6).1.getD 0)) 0,pM (cI.e x133)]) rfl rfl) zU2,trivial⟩ (fun bs203 G202=>?_)
       obtain⟨v208,h209,hF⟩:=a8 hF
       refine wW (f:=156) (cs:=[pP (some b4) 0,pP (some b1) 0]) (pre:=[.vc (pS cQ v206),.vc (pF 159 [pP (some ((G7 6).1.getD 0)) 0,pM (cI.e x133)])]) (xs:=[.tmp 176,.tmp 177]) 9 [7,4,5,8] [0,1,2,3,6] rfl (fZ h209 q125 (vM q130) (yY q131 q130 (q132 _ (bK h196)) (bL h200 rfl)) q132) ⟨rfl,rfl,rfl,trivial⟩ rfl rfl rfl (by decide) ?_
       rintro _ _ ⟨b210,c211,n212,g215,N216,q213,q217,q218,q219,rfl,rfl⟩
       refine tR (rW [⟨some ((G7 6).1.getD 0),1,62,1,1,[pO b210 n212 c211]⟩,⟨some b4,1,114,1,1,[pS aE.cod v2]⟩,⟨some b1,1,113,4,1,(aH.enc a0)⟩,hO (cH g215) b210 c211 24 n212 v208.1] (jI cQ 44 g215 v208.2) [⟨some b166,1,51,18,1,(aA.enc v164)⟩,⟨some b155,1,118,2,1,(aE.enc v152)⟩,⟨some b107,1,44,4,1,(eQ v105)⟩,⟨some ((G7 7).1.getD 0),1,24,1,1,[pO b100 n102 c101]⟩,hO cQ b100 c101 44 n102 v98]) ?_
       obtain⟨v221,h222,hF⟩:=a8 hF
       refine go ?_ ?_
       exact aM (fun a w hh=>⟨v208.1,v208.2,v221,b210,c211,n212,g215,N216,hF,q213,q217,q218,q219,cS 9 [6,7,1,2,8,0,3] rfl rfl (by decide) (by exact⟨rfl,rfl,rfl,rfl,rfl,rfl,rfl,rfl,rfl,rfl,trivial⟩) hh⟩)
      refine iR (t9 (aP (aFm 1 [13] rfl q178 zU1 rfl ?_)))
      refine aF2 2 [(11,0)] rfl zU1 rfl ?_
      obtain⟨x225,h226,hF⟩:=a8 hF
      obtain⟨v227,h228,hF⟩:=aY hF cX
      refine jJ [0,0,0,4,12,28,0,126,0,511] 9 1 [.v (.vc (pF 156 [pP (some b4) 0,pP (some b1) 0])),.v (.va (aH.enc a0)),.v (.vc (pP (some b1) 0)),.v (.vc (pS aG.cod a0.dofs)),.v (.vc (pI .i64 (a0.dofs.length:Int))),.v (.vc (pS cQ x225)),.v (.vc (pS aF.cod x174)),.v (.vc (pS cQ v227)),.v (.vc (pF 159 [pP (some ((G7 6).1.getD 0)) 0,pM (cI.e x133)]))] bA ⟨d0 (bP (.inl rfl)) zU1,d0 (eV 5 4 rfl rfl rfl rfl (.agg tyA113)) zU1,d0 (lN (off:=0) (k:=0) rfl tyF113_0) zU1,d0 (eV 5 1 rfl rfl rfl rfl (.one tyO23)) zU1,d0 (vG rfl tyS23) zU1,d0 (aDC 0 (jH (C:=cQ) rfl tyS24 rfl tyZ44q h226) (fun _ _=>rfl) rfl (fun _ _=>rfl)) zU1,d0 (bP (.inl rfl)) zU1,d0 (bV rfl h228 rfl) ⟨rfl,rfl,rfl,trivial⟩,d0 (aGU (xs:=[.tmp 6,.tmp 11]) (cs:=[pP (some ((G7 6).1.getD 0)) 0,pM (cI.e x133)]) rfl rfl) zU2,trivial⟩ (fun bs224 G223=>?_)
      obtain⟨v229,h230,hF⟩:=a8 hF
      refine wW (f:=156) (cs:=[pP (some b4) 0,pP (some b1) 0]) (pre:=[.vc (pS cQ v227),.vc (pF 159 [pP (some ((G7 6).1.getD 0)) 0,pM (cI.e x133)])]) (xs:=[.tmp 176,.tmp 177]) 9 [7,4,5,8] [0,1,2,3,6] rfl (fZ h230 q125 q130 q131 q132) ⟨rfl,rfl,rfl,trivial⟩ rfl rfl rfl (by decide) ?_
      rintro _ _ ⟨b231,c232,n233,g236,N237,q234,q238,q239,q240,rfl,rfl⟩
      refine tR (rW [⟨some ((G7 6).1.getD 0),1,62,1,1,[pO b231 n233 c232]⟩,⟨some b4,1,114,1,1,[pS aE.cod v2]⟩,⟨some b1,1,113,4,1,(aH.enc a0)⟩,hO (cH g236) b231 c232 24 n233 v229.1] (jI cQ 44 g236 v229.2) [⟨some b166,1,51,18,1,(aA.enc v164)⟩,⟨some b155,1,118,2,1,(aE.enc v152)⟩,⟨some b107,1,44,4,1,(eQ v105)⟩,⟨some ((G7 7).1.getD 0),1,24,1,1,[pO b100 n102 c101]⟩,hO cQ b100 c101 44 n102 v98]) ?_
      obtain⟨v242,h243,hF⟩:=a8 hF
      refine go ?_ ?_
      exact aM (fun a w hh=>⟨v229.1,v229.2,v242,b231,c232,n233,g236,N237,hF,q234,q238,q239,q240,cS 9 [6,7,1,2,8,0,3] rfl rfl (by decide) (by exact⟨rfl,rfl,rfl,rfl,rfl,rfl,rfl,rfl,rfl,rfl,trivial⟩) hh⟩)
     have hF:=sP h185 hF
     refine drb [0,1,0,4,15,31,63,63,191,511,1023,63,2111,6207,16383,32767] 16 0 ?_ (fun bs182 G181=>?_)
     refine bI (aP (sS rfl ?_))
     refine iR (t9 (aP (aFm 1 [13] rfl q178 zU1 rfl ?_)))
     refine aF2 2 [(11,0)] rfl zU1 rfl ?_
     obtain⟨x246,h247,hF⟩:=a8 hF
     obtain⟨v248,h249,hF⟩:=aY hF cX
     refine jJ [0,0,0,4,12,28,0,126,0,511] 9 1 [.v (.vc (pF 156 [pP (some b4) 0,pP (some b1) 0])),.v (.va (aH.enc a0)),.v (.vc (pP (some b1) 0)),.v (.vc (pS aG.cod a0.dofs)),.v (.vc (pI .i64 (a0.dofs.length:Int))),.v (.vc (pS cQ x246)),.v (.vc (pS aF.cod x174)),.v (.vc (pS cQ v248)),.v (.vc (pF 159 [pP (some ((G7 6).1.getD 0)) 0,pM (cI.e x133)]))] bA ⟨d0 (bP (.inl rfl)) zU1,d0 (eV 5 4 rfl rfl rfl rfl (.agg tyA113)) zU1,d0 (lN (off:=0) (k:=0) rfl tyF113_0) zU1,d0 (eV 5 1 rfl rfl rfl rfl (.one tyO23)) zU1,d0 (vG rfl tyS23) zU1,d0 (aDC 0 (jH (C:=cQ) rfl tyS24 rfl tyZ44q h247) (fun _ _=>rfl) rfl (fun _ _=>rfl)) zU1,d0 (bP (.inl rfl)) zU1,d0 (bV rfl h249 rfl) ⟨rfl,rfl,rfl,trivial⟩,d0 (aGU (xs:=[.tmp 6,.tmp 11]) (cs:=[pP (some ((G7 6).1.getD 0)) 0,pM (cI.e x133)]) rfl rfl) zU2,trivial⟩ (fun bs245 G244=>?_)
     obtain⟨v250,h251,hF⟩:=a8 hF
     refine wW (f:=156) (cs:=[pP (some b4) 0,pP (some b1) 0]) (pre:=[.vc (pS cQ v248),.vc (pF 159 [pP (some ((G7 6).1.getD 0)) 0,pM (cI.e x133)])]) (xs:=[.tmp 176,.tmp 177]) 9 [7,4,5,8] [0,1,2,3,6] rfl (fZ h251 q125 q130 q131 q132) ⟨rfl,rfl,rfl,trivial⟩ rfl rfl rfl (by decide) ?_
     rintro _ _ ⟨b252,c253,n254,g257,N258,q255,q259,q260,q261,rfl,rfl⟩
     refine tR (rW [⟨some ((G7 6).1.getD 0),1,62,1,1,[pO b252 n254 c253]⟩,⟨some b4,1,114,1,1,[pS aE.cod v2]⟩,⟨some b1,1,113,4,1,(aH.enc a0)⟩,hO (cH g257) b252 c253 24 n254 v250.1] (jI cQ 44 g257 v250.2) [⟨some b166,1,51,18,1,(aA.enc v164)⟩,⟨some b155,1,118,2,1,(aE.enc v152)⟩,⟨some b107,1,44,4,1,(eQ v105)⟩,⟨some ((G7 7).1.getD 0),1,24,1,1,[pO b100 n102 c101]⟩,hO cQ b100 c101 44 n102 v98]) ?_
     obtain⟨v263,h264,hF⟩:=a8 hF
     refine go ?_ ?_
     exact aM (fun a w hh=>⟨v250.1,v250.2,v263,b252,c253,n254,g257,N258,hF,q255,q259,q260,q261,cS 9 [6,7,1,2,8,0,3] rfl rfl (by decide) (by exact⟨rfl,rfl,rfl,rfl,rfl,rfl,rfl,rfl,rfl,rfl,trivial⟩) hh⟩)
    refine go ?_ ?_
    refine aL hF rfl (fun h265 hF=>?_) (fun h265 hF=>?_)
    ·obtain⟨v268,h269,hF⟩:=aY hF w6
     obtain⟨v270,h271,hF⟩:=a8 hF
     refine dr [0,0,2,0,0,0,56,127,255,511] 9 1 ?_ (fun bs267 G266=>?_)
     obtain⟨x272,h273,hF⟩:=a8 hF
     refine nZ (yT 1 rfl rfl h271 h273 tyA44.s) zU2 ?_
     refine bI ?_
     exact qW Jj180 ⟨x272,hF,(bL h273 (bL h171 q162)),rfl,rfl⟩ 11 [0,1,2,3,4,5,6,7,8,9,10] rfl rfl ⟨rfl,rfl,rfl,rfl,rfl,rfl,rfl,rfl,rfl,rfl,rfl,rfl,rfl,rfl,trivial⟩
    refine iR ?_
    exact qW Jj180 ⟨x170,hF,(bL h171 q162),rfl,rfl⟩ 11 [0,1,2,3,4,5,6,7,8,9,10] rfl rfl ⟨rfl,rfl,rfl,rfl,rfl,rfl,rfl,rfl,rfl,rfl,rfl,rfl,rfl,rfl,trivial⟩
   refine go ?_ ?_
   refine aL hF rfl (fun h275 hF=>?_) (fun h275 hF=>?_)
   ·obtain⟨v276,h277,x278,h279,v283,h284,v285,h286,hF⟩:=bn4 hF
    obtain⟨v287,h288,hF⟩:=a8 hF
    obtain⟨v289,h290,hF⟩:=aY hF rZ
    obtain⟨v291,h292,hF⟩:=a8 hF
    refine go ?_ ?_
    refine jJ [0,0,2,6,15,31,0,0,128,511,1023] 10 1 [.v (.vc (pO b122 n124 c123)),.v (.vc (pI .i64 x133)),.v (.vc (pI .i64 v283)),.v (.vc (pI .i64 v285)),.v (.vc (pE b122 v285 (cH g128).n 0)),.v (.vc (pO (kV g128 v287).1 (kV g128 v287).2.1 (kV g128 v287).2.2)),.v (.vc (pI .i64 x133)),.v (.va (eQ v105)),.v (.va (eQ v289)),.v (.vc (pE (kV g128 v287).1 x133 cQ.n 0))] bA ⟨d0 (eV 9 1 rfl rfl rfl rfl (.one tyO62)) zU1,d0 (eV 3 1 rfl rfl rfl rfl (.one tyO3)) zU1,d0 (yB rfl h284) ⟨rfl,lC _ _,trivial⟩,d0 (zV rfl h286) ⟨rfl,lC _ _,trivial⟩,d0 (l9 (C:=(cH g128)) 10 rfl tyS62 rfl q125 (aV h288).1 (aV h288).2.1) zU2,d0 (r9 (C:=(cH g128)) (k:=1) 10 rfl rfl h288 rfl (.one tyO24) rfl) zU1,d0 (eV 3 1 rfl rfl rfl rfl (.one tyO3)) zU1,d0 (eV 4 4 rfl rfl rfl rfl (.agg tyA44)) zU1,d0 (bV rfl h290 rfl) zU1,d0 (l9 (11+v287) rfl tyS24 (l8 11 rfl q131 q130 (q132 _ (bK h288))) (nD q131 q130 (q132 _ (bK h288))) (aV h292).1 (aV h292).2.1) zU2,trivial⟩ (fun bs282 G281=>?_)
    obtain⟨x293,h294,hF⟩:=a8 hF
    refine nZ (yT (H':=([⟨some b166,1,51,18,1,(aA.enc v164)⟩,hO aF.cod b159 c160 58 n161 x278,⟨some b155,1,118,2,1,(aE.enc v152)⟩,⟨some b154,1,3,1,1,[pI .i64 x133]⟩,⟨some b107,1,44,4,1,(eQ v105)⟩,⟨some ((G7 7).1.getD 0),1,24,1,1,[pO b100 n102 c101]⟩,⟨some b4,1,114,1,1,[pS aE.cod v2]⟩,⟨some b1,1,113,4,1,(aH.enc a0)⟩,hO cQ b100 c101 44 n102 v98,⟨some ((G7 6).1.getD 0),1,62,1,1,[pO b122 n124 c123]⟩,hO (cH g128) b122 c123 24 n124 x121]++jI cQ 44 g128 (x127.set v287 x293))) (11+v287) rfl (aCO 11 rfl q131 q130 (q132 _ (bK h288))) h292 h294 tyA44.s (hH:=stN 11 rfl q131 q130 (q132 _ (bK h288)))) zU2 ?_
    refine bI (t9 (aP (aFm 1 [13,57,114] rfl (bL h279 q162) ⟨rfl,rfl,rfl,trivial⟩ rfl ?_)))
    refine aF2 2 [(11,0)] rfl zU1 rfl ?_
    obtain⟨x298,h299,hF⟩:=a8 hF
    obtain⟨v300,h301,hF⟩:=aY hF cX
    refine jJ [0,0,0,4,12,28,0,126,0,511] 9 1 [.v (.vc (pF 156 [pP (some b4) 0,pP (some b1) 0])),.v (.va (aH.enc a0)),.v (.vc (pP (some b1) 0)),.v (.vc (pS aG.cod a0.dofs)),.v (.vc (pI .i64 (a0.dofs.length:Int))),.v (.vc (pS cQ x298)),.v (.vc (pS aF.cod x278)),.v (.vc (pS cQ v300)),.v (.vc (pF 159 [pP (some ((G7 6).1.getD 0)) 0,pM (cI.e x133)]))] bA ⟨d0 (bP (.inl rfl)) zU1,d0 (eV 5 4 rfl rfl rfl rfl (.agg tyA113)) zU1,d0 (lN (off:=0) (k:=0) rfl tyF113_0) zU1,d0 (eV 5 1 rfl rfl rfl rfl (.one tyO23)) zU1,d0 (vG rfl tyS23) zU1,d0 (aDC 0 (jH (C:=cQ) rfl tyS24 rfl tyZ44q h299) (fun _ _=>rfl) rfl (fun _ _=>rfl)) zU1,d0 (bP (.inl rfl)) zU1,d0 (bV rfl h301 rfl) ⟨rfl,rfl,rfl,trivial⟩,d0 (aGU (xs:=[.tmp 6,.tmp 11]) (cs:=[pP (some ((G7 6).1.getD 0)) 0,pM (cI.e x133)]) rfl rfl) zU2,trivial⟩ (fun bs297 G296=>?_)
    obtain⟨v302,h303,hF⟩:=a8 hF
    refine wW (f:=156) (cs:=[pP (some b4) 0,pP (some b1) 0]) (pre:=[.vc (pS cQ v300),.vc (pF 159 [pP (some ((G7 6).1.getD 0)) 0,pM (cI.e x133)])]) (xs:=[.tmp 176,.tmp 177]) 9 [7,4,5,8] [0,1,2,3,6] rfl (fZ h303 q125 (vM q130) (yY q131 q130 (q132 _ (bK h288)) (bL h294 rfl)) q132) ⟨rfl,rfl,rfl,trivial⟩ rfl rfl rfl (by decide) ?_
    rintro _ _ ⟨b304,c305,n306,g309,N310,q307,q311,q312,q313,rfl,rfl⟩
    refine tR (rW [⟨some ((G7 6).1.getD 0),1,62,1,1,[pO b304 n306 c305]⟩,⟨some b4,1,114,1,1,[pS aE.cod v2]⟩,⟨some b1,1,113,4,1,(aH.enc a0)⟩,hO (cH g309) b304 c305 24 n306 v302.1] (jI cQ 44 g309 v302.2) [⟨some b166,1,51,18,1,(aA.enc v164)⟩,⟨some b155,1,118,2,1,(aE.enc v152)⟩,⟨some b107,1,44,4,1,(eQ v105)⟩,⟨some ((G7 7).1.getD 0),1,24,1,1,[pO b100 n102 c101]⟩,hO cQ b100 c101 44 n102 v98]) ?_
    obtain⟨v315,h316,hF⟩:=a8 hF
    refine go ?_ ?_
    exact aM (fun a w hh=>⟨v302.1,v302.2,v315,b304,c305,n306,g309,N310,hF,q307,q311,q312,q313,cS 9 [6,7,1,2,8,0,3] rfl rfl (by decide) (by exact⟨rfl,rfl,rfl,rfl,rfl,rfl,rfl,rfl,rfl,rfl,trivial⟩) hh⟩)
   refine go ?_ ?_
   refine aL hF rfl (fun h317 hF=>?_) (fun h317 hF=>?_)
   ·refine aN ?_
    obtain⟨v320,h321,hF⟩:=aY hF rZ
    obtain⟨v322,h323,hF⟩:=a8 hF
    refine dr [0,0,2,0,8,31,63,127] 7 1 ?_ (fun bs319 G318=>?_)
    obtain⟨x324,h325,v329,h330,v331,h332,v333,h334,hF⟩:=bn4 hF
    obtain⟨v335,h336,hF⟩:=aY hF rZ
    obtain⟨v337,h338,hF⟩:=a8 hF
    refine go ?_ ?_
    refine jJ [0,0,2,6,15,31,0,0,128,511,1023] 10 1 [.v (.vc (pO b122 n124 c123)),.v (.vc (pI .i64 x133)),.v (.vc (pI .i64 v329)),.v (.vc (pI .i64 v331)),.v (.vc (pE b122 v331 (cH g128).n 0)),.v (.vc (pO (kV g128 v333).1 (kV g128 v333).2.1 (kV g128 v333).2.2)),.v (.vc (pI .i64 x133)),.v (.va (eQ v105)),.v (.va (eQ v335)),.v (.vc (pE (kV g128 v333).1 x133 cQ.n 0))] bA ⟨d0 (eV 9 1 rfl rfl rfl rfl (.one tyO62)) zU1,d0 (eV 3 1 rfl rfl rfl rfl (.one tyO3)) zU1,d0 (yB rfl h330) ⟨rfl,lC _ _,trivial⟩,d0 (zV rfl h332) ⟨rfl,lC _ _,trivial⟩,d0 (l9 (C:=(cH g128)) 10 rfl tyS62 rfl q125 (aV h334).1 (aV h334).2.1) zU2,d0 (r9 (C:=(cH g128)) (k:=1) 10 rfl rfl h334 rfl (.one tyO24) rfl) zU1,d0 (eV 3 1 rfl rfl rfl rfl (.one tyO3)) zU1,d0 (eV 4 4 rfl rfl rfl rfl (.agg tyA44)) zU1,d0 (bV rfl h336 rfl) zU1,d0 (l9 (11+v333) rfl tyS24 (l8 11 rfl q131 q130 (q132 _ (bK h334))) (nD q131 q130 (q132 _ (bK h334))) (aV h338).1 (aV h338).2.1) zU2,trivial⟩ (fun bs328 G327=>?_)
    obtain⟨x339,h340,hF⟩:=a8 hF
    refine nZ (yT (H':=([⟨some b166,1,51,18,1,(aA.enc v164)⟩,hO aF.cod b159 c160 58 n161 x324,⟨some b155,1,118,2,1,(aE.enc v152)⟩,⟨some b154,1,3,1,1,[pI .i64 x133]⟩,⟨some b107,1,44,4,1,(eQ v105)⟩,⟨some ((G7 7).1.getD 0),1,24,1,1,[pO b100 n102 c101]⟩,⟨some b4,1,114,1,1,[pS aE.cod v2]⟩,⟨some b1,1,113,4,1,(aH.enc a0)⟩,hO cQ b100 c101 44 n102 v98,⟨some ((G7 6).1.getD 0),1,62,1,1,[pO b122 n124 c123]⟩,hO (cH g128) b122 c123 24 n124 x121]++jI cQ 44 g128 (x127.set v333 x339))) (11+v333) rfl (aCO 11 rfl q131 q130 (q132 _ (bK h334))) h338 h340 tyA44.s (hH:=stN 11 rfl q131 q130 (q132 _ (bK h334)))) zU2 ?_
    refine bI (t9 (aP (aFm 1 [13,57,132] rfl (bL h325 q162) ⟨rfl,rfl,rfl,trivial⟩ rfl ?_)))
    refine aF2 2 [(11,0)] rfl zU1 rfl ?_
    obtain⟨x344,h345,hF⟩:=a8 hF
    obtain⟨v346,h347,hF⟩:=aY hF cX
    refine jJ [0,0,0,4,12,28,0,126,0,511] 9 1 [.v (.vc (pF 156 [pP (some b4) 0,pP (some b1) 0])),.v (.va (aH.enc a0)),.v (.vc (pP (some b1) 0)),.v (.vc (pS aG.cod a0.dofs)),.v (.vc (pI .i64 (a0.dofs.length:Int))),.v (.vc (pS cQ x344)),.v (.vc (pS aF.cod x324)),.v (.vc (pS cQ v346)),.v (.vc (pF 159 [pP (some ((G7 6).1.getD 0)) 0,pM (cI.e x133)]))] bA ⟨d0 (bP (.inl rfl)) zU1,d0 (eV 5 4 rfl rfl rfl rfl (.agg tyA113)) zU1,d0 (lN (off:=0) (k:=0) rfl tyF113_0) zU1,d0 (eV 5 1 rfl rfl rfl rfl (.one tyO23)) zU1,d0 (vG rfl tyS23) zU1,d0 (aDC 0 (jH (C:=cQ) rfl tyS24 rfl tyZ44q h345) (fun _ _=>rfl) rfl (fun _ _=>rfl)) zU1,d0 (bP (.inl rfl)) zU1,d0 (bV rfl h347 rfl) ⟨rfl,rfl,rfl,trivial⟩,d0 (aGU (xs:=[.tmp 6,.tmp 11]) (cs:=[pP (some ((G7 6).1.getD 0)) 0,pM (cI.e x133)]) rfl rfl) zU2,trivial⟩ (fun bs343 G342=>?_)
    obtain⟨v348,h349,hF⟩:=a8 hF
    refine wW (f:=156) (cs:=[pP (some b4) 0,pP (some b1) 0]) (pre:=[.vc (pS cQ v346),.vc (pF 159 [pP (some ((G7 6).1.getD 0)) 0,pM (cI.e x133)])]) (xs:=[.tmp 176,.tmp 177]) 9 [7,4,5,8] [0,1,2,3,6] rfl (fZ h349 q125 (vM q130) (yY q131 q130 (q132 _ (bK h334)) (bL h340 rfl)) q132) ⟨rfl,rfl,rfl,trivial⟩ rfl rfl rfl (by decide) ?_
    rintro _ _ ⟨b350,c351,n352,g355,N356,q353,q357,q358,q359,rfl,rfl⟩
    refine tR (rW [⟨some ((G7 6).1.getD 0),1,62,1,1,[pO b350 n352 c351]⟩,⟨some b4,1,114,1,1,[pS aE.cod v2]⟩,⟨some b1,1,113,4,1,(aH.enc a0)⟩,hO (cH g355) b350 c351 24 n352 v348.1] (jI cQ 44 g355 v348.2) [⟨some b166,1,51,18,1,(aA.enc v164)⟩,⟨some b155,1,118,2,1,(aE.enc v152)⟩,⟨some b107,1,44,4,1,(eQ v105)⟩,⟨some ((G7 7).1.getD 0),1,24,1,1,[pO b100 n102 c101]⟩,hO cQ b100 c101 44 n102 v98]) ?_
    obtain⟨v361,h362,hF⟩:=a8 hF
    refine go ?_ ?_
    exact aM (fun a w hh=>⟨v348.1,v348.2,v361,b350,c351,n352,g355,N356,hF,q353,q357,q358,q359,cS 9 [6,7,1,2,8,0,3] rfl rfl (by decide) (by exact⟨rfl,rfl,rfl,rfl,rfl,rfl,rfl,rfl,rfl,rfl,trivial⟩) hh⟩)
   refine go ?_ ?_
   refine aL hF rfl (fun h363 hF=>?_) (fun h363 hF=>?_)
   ·refine aN ?_
    obtain⟨v366,h367,hF⟩:=a8 hF
    obtain⟨v368,h369,hF⟩:=a8 hF
    obtain⟨v370,h371,hF⟩:=a8 hF
    obtain⟨v372,h373,hF⟩:=a8 hF
    obtain⟨v374,h375,hF⟩:=a8 hF
    obtain⟨v376,h377,hF⟩:=a8 hF
    obtain⟨v378,h379,hF⟩:=a8 hF
    obtain⟨x380,h381,hF⟩:=a8 hF
    obtain⟨v383,h384,hF⟩:=a8 hF
    refine oV (HsM [(0,fun G364=>([⟨some b166,1,51,18,1,(aA.enc v164)⟩,hO aF.cod b159 c160 58 n161 v156,⟨some b155,1,118,2,1,(aE.enc v152)⟩,⟨some b154,1,3,1,1,[pI .i64 x133]⟩,⟨some b107,1,44,4,1,(eQ v105)⟩,⟨some ((G7 7).1.getD 0),1,24,1,1,[pO b100 n102 c101]⟩,⟨some b4,1,114,1,1,[pS aE.cod v2]⟩,⟨some b1,1,113,4,1,(aH.enc a0)⟩,hO cQ b100 c101 44 n102 v98,⟨some ((G7 6).1.getD 0),1,62,1,1,[pO b122 n124 c123]⟩,hO (cH g128) b122 c123 24 n124 x121]++jI cQ 44 g128 x127)),(1,fun G364=>([⟨some b166,1,51,18,1,(aA.enc v164)⟩,hO aF.cod b159 c160 58 n161 v156,⟨some b155,1,118,2,1,(aE.enc v152)⟩,⟨some b154,1,3,1,1,[pI .i64 x133]⟩,⟨some b107,1,44,4,1,(eQ v105)⟩,⟨some ((G7 7).1.getD 0),1,24,1,1,[pO b100 n102 c101]⟩,⟨some b4,1,114,1,1,[pS aE.cod v2]⟩,⟨some b1,1,113,4,1,(aH.enc a0)⟩,hO cQ b100 c101 44 n102 v98,⟨some ((G7 6).1.getD 0),1,62,1,1,[pO b122 n124 c123]⟩,hO (cH g128) b122 c123 24 n124 x121]++jI cQ 44 g128 (x127.set v370 x380)))]) [17] [0,0,2,6,15,31,0,0,0,256,768,1920,3968,0,0,0,24575,90111,262143,524287] 19 1 [.v (.vc (pO b122 n124 c123)),.v (.vc (pI .i64 x133)),.v (.vc (pI .i64 v366)),.v (.vc (pI .i64 v368)),.v (.vc (pE b122 v368 (cH g128).n 0)),.v (.vc (pO (kV g128 v370).1 (kV g128 v370).2.1 (kV g128 v370).2.2)),.v (.vc (pI .i64 x133)),.v (.vc (pO b122 n124 c123)),.v (.vc (pI .i64 x133)),.v (.vc (pI .i64 v372)),.v (.vc (pI .i64 v374)),.v (.vc (pE b122 v374 (cH g128).n 0)),.v (.vc (pO (kV g128 v376).1 (kV g128 v376).2.1 (kV g128 v376).2.2)),.v (.vc (pI .i64 x133)),.v (.va (eQ v105)),.v (.va (eQ v105)),.v (.vc (pE (kV g128 v370).1 x133 cQ.n 0)),.g (fun _ _=>.any),.v (.vc (pE (kV g128 v376).1 x133 cQ.n 0))] bA ⟨d1 0 (eV 9 1 rfl rfl rfl rfl (.one tyO62)) zU1,d1 0 (eV 3 1 rfl rfl rfl rfl (.one tyO3)) zU1,d1 0 (yB rfl h367) ⟨rfl,lC _ _,trivial⟩,d1 0 (zV rfl h369) ⟨rfl,lC _ _,trivial⟩,d1 0 (l9 (C:=(cH g128)) 10 rfl tyS62 rfl q125 (aV h371).1 (aV h371).2.1) zU2,d1 0 (r9 (C:=(cH g128)) (k:=1) 10 rfl rfl h371 rfl (.one tyO24) rfl) zU1,d1 0 (eV 3 1 rfl rfl rfl rfl (.one tyO3)) zU1,d1 0 (eV 9 1 rfl rfl rfl rfl (.one tyO62)) zU1,d1 0 (eV 3 1 rfl rfl rfl rfl (.one tyO3)) zU1,d1 0 (yB rfl h373) ⟨rfl,lC _ _,trivial⟩,d1 0 (zV rfl h375) ⟨rfl,lC _ _,trivial⟩,d1 0 (l9 (C:=(cH g128)) 10 rfl tyS62 rfl q125 (aV h377).1 (aV h377).2.1) zU2,d1 0 (r9 (C:=(cH g128)) (k:=1) 10 rfl rfl h377 rfl (.one tyO24) rfl) zU1,⟨rfl,.run (L:=[0,1]) ⟨fun G364 A=>eV 3 1 rfl rfl rfl rfl (.one tyO3),fun G364 A=>eV 3 1 rfl rfl rfl rfl (.one tyO3),trivial⟩ (fun G364=>zU1)⟩,d1 0 (eV 4 4 rfl rfl rfl rfl (.agg tyA44)) zU1,⟨rfl,.run (L:=[0,1]) ⟨fun G364 A=>eV 4 4 rfl rfl rfl rfl (.agg tyA44),fun G364 A=>eV 4 4 rfl rfl rfl rfl (.agg tyA44),trivial⟩ (fun G364=>zU1)⟩,d1 0 (l9 (11+v370) rfl tyS24 (l8 11 rfl q131 q130 (q132 _ (bK h371))) (nD q131 q130 (q132 _ (bK h371))) (aV h379).1 (aV h379).2.1) zU2,⟨rfl,.hvy [0] ⟨fun G364 A=>aCW (yT (H':=([⟨some b166,1,51,18,1,(aA.enc v164)⟩,hO aF.cod b159 c160 58 n161 v156,⟨some b155,1,118,2,1,(aE.enc v152)⟩,⟨some b154,1,3,1,1,[pI .i64 x133]⟩,⟨some b107,1,44,4,1,(eQ v105)⟩,⟨some ((G7 7).1.getD 0),1,24,1,1,[pO b100 n102 c101]⟩,⟨some b4,1,114,1,1,[pS aE.cod v2]⟩,⟨some b1,1,113,4,1,(aH.enc a0)⟩,hO cQ b100 c101 44 n102 v98,⟨some ((G7 6).1.getD 0),1,62,1,1,[pO b122 n124 c123]⟩,hO (cH g128) b122 c123 24 n124 x121]++jI cQ 44 g128 (x127.set v370 x380))++A) (11+v370) rfl (l8 11 rfl q131 q130 (q132 _ (bK h371))) h379 h381 tyA44.s (hH:=stNA 11 rfl q131 q130 (q132 _ (bK h371)))),trivial⟩ (fun G364=>zU2)⟩,d1 1 (l9 (11+v376) rfl tyS24 (l8 11 rfl (yY q131 q130 (q132 _ (bK h371)) (bL h381 rfl)) (vM q130) (q132 _ (bK h377))) (nD (yY q131 q130 (q132 _ (bK h371)) (bL h381 rfl)) (vM q130) (q132 _ (bK h377))) (aV h384).1 (aV h384).2.1) zU2,trivial⟩ (fun bs365 G364=>?_)
    obtain⟨x386,h387,hF⟩:=a8 hF
    refine nZ (yT (H':=([⟨some b166,1,51,18,1,(aA.enc v164)⟩,hO aF.cod b159 c160 58 n161 v156,⟨some b155,1,118,2,1,(aE.enc v152)⟩,⟨some b154,1,3,1,1,[pI .i64 x133]⟩,⟨some b107,1,44,4,1,(eQ v105)⟩,⟨some ((G7 7).1.getD 0),1,24,1,1,[pO b100 n102 c101]⟩,⟨some b4,1,114,1,1,[pS aE.cod v2]⟩,⟨some b1,1,113,4,1,(aH.enc a0)⟩,hO cQ b100 c101 44 n102 v98,⟨some ((G7 6).1.getD 0),1,62,1,1,[pO b122 n124 c123]⟩,hO (cH g128) b122 c123 24 n124 x121]++jI cQ 44 g128 ((x127.set v370 x380).set v376 x386))) (11+v376) rfl (aCO 11 rfl (yY q131 q130 (q132 _ (bK h371)) (bL h381 rfl)) (vM q130) (q132 _ (bK h377))) h384 h387 tyA44.s (hH:=stN 11 rfl (yY q131 q130 (q132 _ (bK h371)) (bL h381 rfl)) (vM q130) (q132 _ (bK h377)))) zU2 ?_
    refine bI (aP (cU ?_))
    have hF:=r7 h367 hF
    refine go ?_ ?_
    exact aM (fun a w hh=>⟨x121,((x127.set v370 x380).set v376 x386),v366,b122,c123,n124,g128,N129,hF,q125,(vM (vM q130)),(yY (yY q131 q130 (q132 _ (bK h371)) (bL h381 rfl)) (vM q130) (q132 _ (bK h377)) (bL h387 rfl)),q132,cS 11 [4,5,6,7,8,9,10] rfl rfl (by decide) (by exact⟨rfl,rfl,rfl,rfl,rfl,rfl,rfl,rfl,rfl,rfl,trivial⟩) hh⟩)
   refine iR (t9 (aP (aFm 1 [13,57] rfl q162 zU2 rfl ?_)))
   refine aF2 2 [(11,0)] rfl zU1 rfl ?_
   obtain⟨x393,h394,hF⟩:=a8 hF
   obtain⟨v395,h396,hF⟩:=aY hF cX
   refine jJ [0,0,0,4,12,28,0,126,0,511] 9 1 [.v (.vc (pF 156 [pP (some b4) 0,pP (some b1) 0])),.v (.va (aH.enc a0)),.v (.vc (pP (some b1) 0)),.v (.vc (pS aG.cod a0.dofs)),.v (.vc (pI .i64 (a0.dofs.length:Int))),.v (.vc (pS cQ x393)),.v (.vc (pS aF.cod v156)),.v (.vc (pS cQ v395)),.v (.vc (pF 159 [pP (some ((G7 6).1.getD 0)) 0,pM (cI.e x133)]))] bA ⟨d0 (bP (.inl rfl)) zU1,d0 (eV 5 4 rfl rfl rfl rfl (.agg tyA113)) zU1,d0 (lN (off:=0) (k:=0) rfl tyF113_0) zU1,d0 (eV 5 1 rfl rfl rfl rfl (.one tyO23)) zU1,d0 (vG rfl tyS23) zU1,d0 (aDC 0 (jH (C:=cQ) rfl tyS24 rfl tyZ44q h394) (fun _ _=>rfl) rfl (fun _ _=>rfl)) zU1,d0 (bP (.inl rfl)) zU1,d0 (bV rfl h396 rfl) ⟨rfl,rfl,rfl,trivial⟩,d0 (aGU (xs:=[.tmp 6,.tmp 11]) (cs:=[pP (some ((G7 6).1.getD 0)) 0,pM (cI.e x133)]) rfl rfl) zU2,trivial⟩ (fun bs392 G391=>?_)
   obtain⟨v397,h398,hF⟩:=a8 hF
   refine wW (f:=156) (cs:=[pP (some b4) 0,pP (some b1) 0]) (pre:=[.vc (pS cQ v395),.vc (pF 159 [pP (some ((G7 6).1.getD 0)) 0,pM (cI.e x133)])]) (xs:=[.tmp 176,.tmp 177]) 9 [7,4,5,8] [0,1,2,3,6] rfl (fZ h398 q125 q130 q131 q132) ⟨rfl,rfl,rfl,trivial⟩ rfl rfl rfl (by decide) ?_
   rintro _ _ ⟨b399,c400,n401,g404,N405,q402,q406,q407,q408,rfl,rfl⟩
   refine tR (rW [⟨some ((G7 6).1.getD 0),1,62,1,1,[pO b399 n401 c400]⟩,⟨some b4,1,114,1,1,[pS aE.cod v2]⟩,⟨some b1,1,113,4,1,(aH.enc a0)⟩,hO (cH g404) b399 c400 24 n401 v397.1] (jI cQ 44 g404 v397.2) [⟨some b166,1,51,18,1,(aA.enc v164)⟩,⟨some b155,1,118,2,1,(aE.enc v152)⟩,⟨some b107,1,44,4,1,(eQ v105)⟩,⟨some ((G7 7).1.getD 0),1,24,1,1,[pO b100 n102 c101]⟩,hO cQ b100 c101 44 n102 v98]) ?_
   obtain⟨v410,h411,hF⟩:=a8 hF
   refine go ?_ ?_
   exact aM (fun a w hh=>⟨v397.1,v397.2,v410,b399,c400,n401,g404,N405,hF,q402,q406,q407,q408,cS 9 [6,7,1,2,8,0,3] rfl rfl (by decide) (by exact⟨rfl,rfl,rfl,rfl,rfl,rfl,rfl,rfl,rfl,rfl,trivial⟩) hh⟩)
  refine cU ?_
  obtain⟨rfl,rfl⟩:=sm2 hF
  exact qW Jj147 ⟨x121,x127,b122,c123,n124,g128,N129,hRl146,q125,q130,q131,q132,rfl,rfl⟩ 7 [1,4,5,6] rfl rfl zU2
 obtain⟨⟨x77',x83'⟩,hL,hRl89⟩:=a8 hF
 refine hY (fun k a w=>∃(x64:List Nat),∃(x70:List (List Rat)),∃(x76:Int),∃(b65:Option Nat),∃(c66:Nat),∃(n67:Nat),∃(g71:List xO),∃(N72:Nat),fX K v2 x10 k x64 x70 x76=some (x77',x83')∧x64.length=n67∧x70.length=N72∧nB g71 x70∧(∀k∈x64,k<N72)∧hs _ ([⟨some ((G7 7).1.getD 0),1,24,1,1,[pO ((G7 5).1) x13.length x13.length]⟩,⟨some ((G7 6).1.getD 0),1,62,1,1,[pO b65 n67 c66]⟩,hO cQ ((G7 5).1) x13.length 44 x13.length x13,hO (cH g71) b65 c66 24 n67 x64,⟨some b4,1,114,1,1,[pS aE.cod v2]⟩,⟨some b1,1,113,4,1,(aH.enc a0)⟩]++jI cQ 44 g71 x70) [(1,.vc (pP (some b1) 0)),(4,.vc (pP (some b4) 0)),(5,.vc (pF 156 [pP (some b4) 0,pP (some b1) 0])),(6,.vc (pP (some ((G7 6).1.getD 0)) 0)),(7,.vc (pP (some ((G7 7).1.getD 0)) 0)),(25,.vc (pI .i64 (x10.length:Int))),(26,.vc (pI .i64 x76))] a w) K (fun a w ⟨_,_,_,_,_,_,_,_,hF,_,_,_,_,_⟩=>by cases hF) (fun k a w ⟨x64,x70,x76,b65,c66,n67,g71,N72,hF,q68,q73,q74,q75,hh⟩=>iA ?_ hh) (fun a w hh=>⟨x10,[([]:List Rat)],0,((G7 2).1),x10.length,x10.length,[(none,0,0)],1,hL,rfl,rfl,aLE,(aQF h11),cS 6 [0,1,2,3,4,5] rfl rfl (by decide) (by exact⟨rfl,rfl,rfl,rfl,rfl,rfl,rfl,trivial⟩) hh⟩)
 rw [fX.eq_2] at hF
 refine go ?_ ?_
 refine aL hF rfl (fun h412 hF=>?_) (fun h412 hF=>?_)
 ·refine go ?_ ?_
  refine aQ ?_
  have hF:=r7 h14 hF
  obtain⟨v419,h420,hF⟩:=a8 hF
  refine go ?_ ?_
  refine oV (HsM [(0,fun G413=>([⟨some ((G7 7).1.getD 0),1,24,1,1,[pO ((G7 5).1) x13.length x13.length]⟩,⟨some ((G7 6).1.getD 0),1,62,1,1,[pO b65 n67 c66]⟩,hO cQ ((G7 5).1) x13.length 44 x13.length x13,hO (cH g71) b65 c66 24 n67 x64,⟨some b4,1,114,1,1,[pS aE.cod v2]⟩,⟨some b1,1,113,4,1,(aH.enc a0)⟩]++jI cQ 44 g71 x70)),(1,fun G413=>([hO cQ ((G413 4).1) x13.length 44 x13.length x13,⟨some ((G7 7).1.getD 0),1,24,1,1,[pO ((G7 5).1) x13.length x13.length]⟩,⟨some ((G7 6).1.getD 0),1,62,1,1,[pO b65 n67 c66]⟩,hO cQ ((G7 5).1) x13.length 44 x13.length x13,hO (cH g71) b65 c66 24 n67 x64,⟨some b4,1,114,1,1,[pS aE.cod v2]⟩,⟨some b1,1,113,4,1,(aH.enc a0)⟩]++jI cQ 44 g71 x70))]) [4] [0,0,0,4,12,31,63] 6 1 [.v (.vc (pO b65 n67 c66)),.v (.vc (pI .i64 x76)),.v (.vc (pS aE.cod v2)),.v (.vc (pI .i64 (v2.length:Int))),.g (fun b _=>.vc (pO b x13.length x13.length)),.v (.vc (pE b65 x76 (cH g71).n 0))] bA ⟨⟨rfl,.run (L:=[0,1]) ⟨fun G413 A=>eV 1 1 rfl rfl rfl rfl (.one tyO62),fun G413 A=>eV 2 1 rfl rfl rfl rfl (.one tyO62),trivial⟩ (fun G413=>zU1)⟩,⟨rfl,.run (L:=[0,1]) ⟨fun G413 A=>bP (.inl rfl),fun G413 A=>bP (.inl rfl),trivial⟩ (fun G413=>zU1)⟩,d1 0 (eV 4 1 rfl rfl rfl rfl (.one tyO114)) zU1,d1 0 (vG rfl tyS114) zU1,⟨rfl,.hvy [0] ⟨fun G413 A=>jH (C:=cQ) rfl tyS24 rfl tyZ44q h14,trivial⟩ (fun G413=>zU1)⟩,d1 1 (l9 (C:=(cH g71)) 4 rfl tyS62 rfl q68 (aV h420).1 (aV h420).2.1) zU2,trivial⟩ (fun bs414 G413=>?_)
  obtain⟨x423,h424,hF⟩:=a8 hF
  refine aQg (show([hO cQ ((G413 4).1) x13.length 44 x13.length x13,⟨some ((G7 7).1.getD 0),1,24,1,1,[pO ((G7 5).1) x13.length x13.length]⟩,⟨some ((G7 6).1.getD 0),1,62,1,1,[pO b65 n67 c66]⟩,hO cQ ((G7 5).1) x13.length 44 x13.length x13,hO (cH (g71++[((G413 4).1,x13.length,x13.length)])) b65 c66 24 n67 x64,⟨some b4,1,114,1,1,[pS aE.cod v2]⟩,⟨some b1,1,113,4,1,(aH.enc a0)⟩]++jI cQ 44 g71 x70)=([hO cQ ((G413 4).1) x13.length 44 x13.length x13,⟨some ((G7 7).1.getD 0),1,24,1,1,[pO ((G7 5).1) x13.length x13.length]⟩,⟨some ((G7 6).1.getD 0),1,62,1,1,[pO b65 n67 c66]⟩,hO cQ ((G7 5).1) x13.length 44 x13.length x13,hO (cH g71) b65 c66 24 n67 x64,⟨some b4,1,114,1,1,[pS aE.cod v2]⟩,⟨some b1,1,113,4,1,(aH.enc a0)⟩]++jI cQ 44 g71 x70) from by rw [aJe (N:=x70.length) ((G413 4).1,x13.length,x13.length) q74.1 (aHq q73 q75)]) ?_
  refine nZ (yT (C:=cH (g71++[((G413 4).1,x13.length,x13.length)])) (z':=x70.length) 4 rfl rfl h420 h424 tyO24.s (hq:=aIY ((G413 4).1,x13.length,x13.length) q74.1)) zU2 ?_
  refine aFt (g:=((G413 4).1,x13.length,x13.length)) 0 7 rfl rfl rfl q74 ?_
  obtain⟨v427,h428,hF⟩:=a8 hF
  refine go ?_ ?_
  exact aM (fun a w hh=>⟨x423,(x70++[x13]),v427,b65,c66,n67,(g71++[((G413 4).1,x13.length,x13.length)]),(N72+1),hF,(bL h424 q68),(aEX q73),(aAP q74 rfl),(tS q75 h424 q73),cS 6 [0,1,2,3,4,5] rfl rfl (by decide) (by exact⟨rfl,rfl,rfl,rfl,rfl,rfl,rfl,trivial⟩) hh⟩)
 refine cU ?_
 obtain⟨rfl,rfl⟩:=sm2 hF
 exact qW Jj90 ⟨x64,x70,b65,c66,n67,g71,N72,hRl89,q68,q73,q74,q75,rfl,rfl⟩ 6 [0,1,2,3,4,5] rfl rfl ⟨rfl,rfl,rfl,rfl,rfl,trivial⟩
def tT (K:Nat) (a0:List aG) (a1:List Rat) (a2:List Rat) (a3:List aA) (x33:List aF):Option ((List Rat)×(List aF)×Int):=
 (bM K (⟨a0,a1,a2,a3⟩:aH) a1 x33).bind fun v41=>some (v41,x33,0)
def dN (K:Nat) (a0:List aG) (a1:List Rat) (a2:List Rat) (a3:List aA) (v5:List aE) (v10:aT×Int):Nat→(List aF)→Int→Option (List aF)
 |0,_,_=>none
 |k+1,x26,x32=>bif(decide (x32<(v5.length:Int))) then((bT v5 x32).bind fun v44=>(bT x26 v44.row).bind fun v47=>bif(v44.kind==0) then((bT v10.1.z x32).bind fun v50=>(pC x26 v44.row (⟨v50,v47.f⟩:aF)).bind fun x52=>(bT a3 v44.row).bind fun v55=>bif(decide (0<(v55.t.length:Int))) then((bT x52 v44.row).bind fun v61=>(lD K (⟨a0,a1,a2,a3⟩:aH) v55 v61.n).bind fun v63=>(bT x52 v44.row).bind fun v65=>(pC x52 v44.row (⟨v65.n,v63⟩:aF)).bind fun x67=>(aS (x32+1)).bind fun v70=>dN K a0 a1 a2 a3 v5 v10 k x67 v70) else((aS (x32+1)).bind fun v72=>dN K a0 a1 a2 a3 v5 v10 k x52 v72)) else(bif(v44.kind==1) then((bT v10.1.z x32).bind fun v77=>(aCC v47.f v77).bind fun v79=>(pC x26 v44.row (⟨v47.n,v79⟩:aF)).bind fun x81=>(aS (x32+1)).bind fun v84=>dN K a0 a1 a2 a3 v5 v10 k x81 v84) else(bif(v44.kind==2) then((bT v10.1.z x32).bind fun v89=>(aFB v47.f v89).bind fun v91=>(pC x26 v44.row (⟨v47.n,v91⟩:aF)).bind fun x93=>(aS (x32+1)).bind fun v96=>dN K a0 a1 a2 a3 v5 v10 k x93 v96) else((aS (x32+1)).bind fun v98=>dN K a0 a1 a2 a3 v5 v10 k x26 v98)))) else(some x26)
def qA (K:Nat) (a0:List aG) (a1:List Rat) (a2:List Rat) (a3:List aA):Option ((List Rat)×(List aF)×Int):=
 (nU K (⟨a0,a1,a2,a3⟩:aH)).bind fun v2=>bif(!v2) then(some ([],[],1)) else((kJ K (⟨a0,a1,a2,a3⟩:aH)).bind fun v5=>bif(decide (32<(v5.length:Int))) then(some ([],[],4)) else((nK K (⟨a0,a1,a2,a3⟩:aH)).bind fun v8=>(nV K v8.1 v8.2 4096).bind fun v10=>bif(v10.2 != 0) then(some ([],[],v10.2)) else((wJ (a3.length:Int) (⟨0,0⟩:aF)).bind fun x14=>(dN K a0 a1 a2 a3 v5 v10 K x14 0).bind fun x33=>tT K a0 a1 a2 a3 x33)))
theorem yX {K:Nat} {a0:List aG} {a1:List Rat} {a2:List Rat} {a3:List aA} {r:(List Rat)×(List aF)×Int} (hF:qA K a0 a1 a2 a3=some r):Ct Tryz.prog 17 [.vc (pS aG.cod a0),.vc (pS cQ a1),.vc (pS cQ a2),.vc (pS aA.cod a3)] (.t3 (.vc (pS cQ r.1)) (.vc (pS aF.cod r.2.1)) (.vc (pI .i64 r.2.2))):=by
 unfold qA at hF
 refine aJ Tryz.func17 rfl (by kernel_rfl) Tryz.ntmps17 rfl (fun w0 M0=>?_)
 refine aN (aU (aX (bP (.inr rfl)) ⟨d9 cQ,trivial⟩ ?_))
 refine aX (bP (.inr rfl)) ⟨d9 aF.cod,trivial⟩ ?_
 refine go ?_ ?_
 refine aX (cR (is:=[0,1,2,3]) (xs:=[.tmp 22,.tmp 23,.tmp 24,.tmp 25]) (ps:=[.vc (pS aG.cod a0),.vc (pS cQ a1),.vc (pS cQ a2),.vc (pS aA.cod a3)]) rfl tyB113q rfl rfl ⟨trivial,trivial,trivial,trivial,trivial⟩ rfl) ⟨rfl,rfl,rfl,rfl,trivial⟩ ?_
 refine aO rfl tyZ113q (fun b1=>?_)
 obtain⟨v2,h3,hF⟩:=aY hF yG
 refine go ?_ ?_
 refine aL hF rfl (fun h4 hF=>?_) (fun h4 hF=>?_)
 ·refine aN (aU (aX (bP (.inr rfl)) ⟨d9 cQ,trivial⟩ ?_))
  refine aX (bP (.inr rfl)) ⟨d9 aF.cod,trivial⟩ ?_
  exact bQ
 obtain⟨v5,h6,hF⟩:=aY hF wI
 refine go ?_ ?_
 refine aL hF rfl (fun h7 hF=>?_) (fun h7 hF=>?_)
 ·refine aN (aU (aX (bP (.inr rfl)) ⟨d9 cQ,trivial⟩ ?_))
  refine aX (bP (.inr rfl)) ⟨d9 aF.cod,trivial⟩ ?_
  exact bQ
 obtain⟨v8,h9,hF⟩:=aY hF aAW
 obtain⟨v10,h11,hF⟩:=aY hF aB5
 refine go ?_ ?_
 refine aO rfl tyZ68q (fun b12=>?_)
 refine go ?_ ?_
 refine aL hF rfl (fun h13 hF=>?_) (fun h13 hF=>?_)
 ·refine go ?_ ?_
  refine aX (bP (.inr rfl)) ⟨d9 cQ,trivial⟩ ?_
  refine aX (bP (.inr rfl)) ⟨d9 aF.cod,trivial⟩ ?_
  exact bQ
 obtain⟨x14,h15,hF⟩:=a8 hF
 refine go ?_ ?_
 refine tD (C:=aF.cod) (z:=(⟨0,0⟩:aF)) rfl tyS29 rfl tyZ58q rfl h15 (fun b16=>?_)
 refine go ?_ ?_
 refine aQ (bY (fun H E=>∃(x33:List aF),tT K a0 a1 a2 a3 x33=some r∧x33.length=x14.length∧H=[hO aF.cod b16 x14.length 58 x14.length x33,⟨some b1,1,113,4,1,([pS aG.cod a0]++[pS cQ a1]++[pS cQ a2]++[pS aA.cod a3])⟩]∧E=[(1,.vc (pS cQ a1)),(11,.vc (pP (some b1) 0)),(17,.vc (pO b16 x14.length x14.length))]) ?_ (fun Jj40=>?_))
 ·rintro _ _ ⟨x33,hF,q37,rfl,rfl⟩
  unfold tT at hF
  refine aP (aN (aU (aX (eV 1 4 rfl rfl rfl rfl (.agg tyA113)) zU1 ?_)))
  refine nC ?_
  refine nC ?_
  refine aCR 0 [17,127] rfl q37 zU2 rfl ?_
  obtain⟨v41,h42,hF⟩:=aY hF cX
  exact bQ
 obtain⟨x33',hL,hRl39⟩:=a8 hF
 refine hY (fun k a w=>∃(x26:List aF),∃(x32:Int),dN K a0 a1 a2 a3 v5 v10 k x26 x32=some x33'∧x26.length=x14.length∧hs _ [hO aF.cod b16 x14.length 58 x14.length x26,⟨some b12,1,68,3,1,(aT.enc v10.1)⟩,⟨some b1,1,113,4,1,([pS aG.cod a0]++[pS cQ a1]++[pS cQ a2]++[pS aA.cod a3])⟩] [(1,.vc (pS cQ a1)),(3,.vc (pS aA.cod a3)),(11,.vc (pP (some b1) 0)),(15,.vc (pP (some b12) 0)),(17,.vc (pO b16 x14.length x14.length)),(52,.vc (pS aE.cod v5)),(53,.vc (pI .i64 (v5.length:Int))),(54,.vc (pI .i64 x32))] a w) K (fun a w ⟨_,_,hF,_,_⟩=>by cases hF) (fun k a w ⟨x26,x32,hF,q30,hh⟩=>iA ?_ hh) (fun a w hh=>⟨x14,0,hL,rfl,gJ [0,1,2] hh⟩)
 rw [dN.eq_2] at hF
 refine go ?_ ?_
 refine aL hF rfl (fun h43 hF=>?_) (fun h43 hF=>?_)
 ·refine go ?_ ?_
  refine aQ ?_
  obtain⟨v44,h45,hF⟩:=a8 hF
  refine go ?_ ?_
  refine aO rfl tyZ118q (fun b46=>?_)
  obtain⟨v47,h48,hF⟩:=a8 hF
  refine go ?_ ?_
  refine aQ (go ?_ ?_)
  refine aL hF rfl (fun h49 hF=>?_) (fun h49 hF=>?_)
  ·obtain⟨v50,h51,x52,h53,v55,h56,hF⟩:=bn3 hF
   refine go ?_ ?_
   refine aO rfl tyZ51q (fun b57=>?_)
   refine go ?_ ?_
   refine aL hF rfl (fun h58 hF=>?_) (fun h58 hF=>?_)
   ·obtain⟨v61,h62,hF⟩:=a8 hF
    obtain⟨v63,h64,hF⟩:=aY hF w6
    refine dr [0,0,0,0,8,24,56,126,255,511,1023] 10 1 ?_ (fun bs60 G59=>?_)
    have hF:=r7 h62 hF
    obtain⟨x67,h68,v70,h71,hF⟩:=wK hF
    refine go ?_ ?_
    exact aM (fun a w hh=>⟨x67,v70,hF,(bL h68 (bL h53 q30)),gJ [2,3,4] hh⟩)
   obtain⟨v72,h73,hF⟩:=a8 hF
   refine go ?_ ?_
   exact aM (fun a w hh=>⟨x52,v72,hF,(bL h53 q30),gJ [2,3,4] hh⟩)
  refine go ?_ ?_
  refine aL hF rfl (fun h74 hF=>?_) (fun h74 hF=>?_)
  ·obtain⟨v77,h78,hF⟩:=a8 hF
   obtain⟨v79,h80,hF⟩:=aY hF xJ
   refine dr [0,0,2,6,14,0,32,0,224,480,1022,2047,4095,8191] 13 1 ?_ (fun bs76 G75=>?_)
   obtain⟨x81,h82,v84,h85,hF⟩:=wK hF
   refine go ?_ ?_
   exact aM (fun a w hh=>⟨x81,v84,hF,(bL h82 q30),gJ [1,2,3] hh⟩)
  refine go ?_ ?_
  refine aL hF rfl (fun h86 hF=>?_) (fun h86 hF=>?_)
  ·obtain⟨v89,h90,hF⟩:=a8 hF
   obtain⟨v91,h92,hF⟩:=aY hF aFe
   refine dr [0,0,2,6,14,0,32,0,224,480,1022,2047,4095,8191] 13 1 ?_ (fun bs88 G87=>?_)
   obtain⟨x93,h94,v96,h97,hF⟩:=wK hF
   refine go ?_ ?_
   exact aM (fun a w hh=>⟨x93,v96,hF,(bL h94 q30),gJ [1,2,3] hh⟩)
  obtain⟨v98,h99,hF⟩:=a8 hF
  refine go ?_ ?_
  exact aM (fun a w hh=>⟨x26,v98,hF,q30,gJ [1,2,3] hh⟩)
 refine cU ?_
 obtain rfl:=oN hF
 exact p9 Jj40 ⟨x26,hRl39,q30,rfl,rfl⟩ [0,2]
def pT (a0:aI) (a1:Int):Option aI:=
 (zK 1 1).bind fun v3=>(dD a1 8).bind fun v6=>bif(v6==0) then((pA ([]:List Rat) a0.load).bind fun x13=>(pA x13 [v3]).bind fun x19=>some (⟨a0.dofs,x19,a0.v,a0.rows⟩:aI)) else(bif(v6==1) then((aS ((a0.dofs.length:Int)-1)).bind fun v27=>(slL a0.v 0 v27).bind fun x29=>some (⟨a0.dofs,a0.load,x29,a0.rows⟩:aI)) else(bif(v6==2) then((pA ([]:List aA) a0.rows).bind fun x36=>(pA x36 [(⟨0,0,0,0,0,[(⟨(a0.dofs.length:Int),v3⟩:aC)],([]:List aC),0,0⟩:aA)]).bind fun x42=>some (⟨a0.dofs,a0.load,a0.v,x42⟩:aI)) else(bif(v6==3) then((pA ([]:List aA) a0.rows).bind fun x54=>(pA x54 [(⟨0,0,0,0,0,([]:List aC),[(⟨0,v3⟩:aC),(⟨0,v3⟩:aC)],0,0⟩:aA)]).bind fun x60=>some (⟨a0.dofs,a0.load,a0.v,x60⟩:aI)) else(bif(v6==4) then((pA ([]:List aA) a0.rows).bind fun x71=>(zK (-1) 3).bind fun v78=>(pA x71 [(⟨0,0,0,0,0,([]:List aC),([]:List aC),v78,0⟩:aA)]).bind fun x80=>some (⟨a0.dofs,a0.load,a0.v,x80⟩:aI)) else(bif(v6==5) then((aS ((a0.dofs.length:Int)-1)).bind fun v91=>(slL a0.dofs 0 v91).bind fun x93=>(pA ([]:List aG) x93).bind fun x95=>(pA x95 [(⟨0,0,false,0,0⟩:aG)]).bind fun x102=>some (⟨x102,a0.load,a0.v,a0.rows⟩:aI)) else(bif(v6==6) then((aS ((a0.dofs.length:Int)-1)).bind fun v114=>(slL a0.v 0 v114).bind fun x116=>(pA ([]:List Rat) x116).bind fun x118=>(pA x118 [v3]).bind fun x124=>(pA ([]:List aA) a0.rows).bind fun x135=>(aS ((a0.dofs.length:Int)-1)).bind fun v138=>(pA x135 [(⟨0,0,0,0,0,[(⟨v138,v3⟩:aC)],([]:List aC),0,0⟩:aA)]).bind fun x143=>some (⟨a0.dofs,a0.load,x124,x143⟩:aI)) else(bif(v6==7) then((pA ([]:List aA) a0.rows).bind fun x155=>(pA x155 [(⟨0,0,0,0,0,[(⟨(-1),v3⟩:aC)],([]:List aC),0,0⟩:aA)]).bind fun x161=>some (⟨a0.dofs,a0.load,a0.v,x161⟩:aI)) else(some a0))))))))
theorem aBr {a0:aI} {a1:Int} {r:aI} (hF:pT a0 a1=some r):Ct Tryz.prog 18 [.va (aI.enc a0),.vc (pI .i64 a1)] (.va (aI.enc r)):=by
 unfold pT at hF
 refine aJ Tryz.func18 rfl (by kernel_rfl) Tryz.ntmps18 rfl (fun w0 M0=>?_)
 refine aN (aU (cE rfl rfl trivial (fun b1=>?_)))
 refine aO rfl tyZ27q (fun b2=>?_)
 obtain⟨v3,h4,hF⟩:=aY hF bR
 refine go ?_ ?_
 refine aO rfl tyZ44q (fun b5=>?_)
 obtain⟨v6,h7,hF⟩:=aY hF gL
 refine go ?_ ?_
 refine aQ (go ?_ ?_)
 refine aL hF rfl (fun h8 hF=>?_) (fun h8 hF=>?_)
 ·obtain⟨x13,h14,hF⟩:=a8 hF
  refine oV (HsM [(0,fun G9=>[⟨some b5,1,44,4,1,(eQ v3)⟩,⟨some b2,1,27,4,1,([pS aG.cod ([]:List aG)]++[pS cQ ([]:List Rat)]++[pS cQ ([]:List Rat)]++[pS aA.cod ([]:List aA)])⟩,⟨some b1,1,27,4,1,(aI.enc a0)⟩]),(1,fun G9=>[hO cQ ((G9 0).1) 0 44 0 ([]:List Rat),⟨some b5,1,44,4,1,(eQ v3)⟩,⟨some b2,1,27,4,1,([pS aG.cod ([]:List aG)]++[pS cQ ([]:List Rat)]++[pS cQ ([]:List Rat)]++[pS aA.cod ([]:List aA)])⟩,⟨some b1,1,27,4,1,(aI.enc a0)⟩]),(3,fun G9=>[hO cQ ((G9 3).1) ((G9 3).2) 44 (0+a0.load.length) x13,⟨some b5,1,44,4,1,(eQ v3)⟩,⟨some b2,1,27,4,1,([pS aG.cod ([]:List aG)]++[pS cQ ([]:List Rat)]++[pS cQ ([]:List Rat)]++[pS aA.cod ([]:List aA)])⟩,⟨some b1,1,27,4,1,(aI.enc a0)⟩])]) [0,3] [0,0,2,7,0,16,63,127,255] 6 3 [.g (fun b _=>.vc (pO b 0 0)),.v (.vc (pP (some b1) 1)),.v (.vc (pS cQ a0.load)),.g (fun b c=>.vc (pO b (0+a0.load.length) c)),.v (.va (eQ v3)),.v (.vc (pS cQ [v3]))] bA ⟨⟨rfl,.hvy (ins:=fun _=>[]) [0] ⟨fun G9 A=>yW (C:=cQ) (xs:=[]) (ps:=[]) (zs:=([]:List Rat)) rfl tyS24 rfl trivial rfl,trivial⟩ (fun G9=>trivial)⟩,⟨rfl,.run (L:=[0,1]) ⟨fun G9 A=>lN (off:=0) (k:=1) rfl tyF27_1,fun G9 A=>lN (off:=0) (k:=1) rfl tyF27_1,trivial⟩ (fun G9=>zU1)⟩,⟨rfl,.run (L:=[0,1]) ⟨fun G9 A=>eV 2 1 rfl rfl rfl rfl (.one tyO24),fun G9 A=>eV 3 1 rfl rfl rfl rfl (.one tyO24),trivial⟩ (fun G9=>zU1)⟩,⟨rfl,.hvy [1] ⟨fun G9 A=>aCi 0 rfl tyS24 rfl rfl rfl h14,trivial⟩ (fun G9=>zU2)⟩,⟨rfl,.run (L:=[0,1,3]) ⟨fun G9 A=>eV 0 4 rfl rfl rfl rfl (.agg tyA44),fun G9 A=>eV 1 4 rfl rfl rfl rfl (.agg tyA44),fun G9 A=>eV 1 4 rfl rfl rfl rfl (.agg tyA44),trivial⟩ (fun G9=>zU1)⟩,⟨rfl,.run (L:=[0,1,3]) ⟨fun G9 A=>kT (C:=cQ) (xs:=[.tmp 19]) (ps:=[.va (eQ v3)]) (zs:=[v3]) rfl tyS24 rfl ⟨⟨trivial,rfl⟩,trivial⟩ rfl,fun G9 A=>kT (C:=cQ) (xs:=[.tmp 19]) (ps:=[.va (eQ v3)]) (zs:=[v3]) rfl tyS24 rfl ⟨⟨trivial,rfl⟩,trivial⟩ rfl,fun G9 A=>kT (C:=cQ) (xs:=[.tmp 19]) (ps:=[.va (eQ v3)]) (zs:=[v3]) rfl tyS24 rfl ⟨⟨trivial,rfl⟩,trivial⟩ rfl,trivial⟩ (fun G9=>zU1)⟩,trivial⟩ (fun bs10 G9=>?_)
  obtain⟨x19,h20,hF⟩:=a8 hF
  refine lY 0 rfl tyS24 rfl rfl (bF h14 rfl) rfl rfl h20 (fun b21 c22 H23 e24=>?_)
  cases e24
  refine aX (lN (off:=0) (k:=1) rfl tyF27_1) zU1 ?_
  refine nZ (t_s 3 rfl rfl rfl tyO24.s) zU2 ?_
  refine bI (t9 (aP (aN (aU (xD 0 3 1 rfl (bF h20 (bF h14 rfl)) rfl rfl rfl rfl rfl ?_)))))
  exact bQ
 refine go ?_ ?_
 refine aL hF rfl (fun h26 hF=>?_) (fun h26 hF=>?_)
 ·obtain⟨v27,h28,x29,h30,hF⟩:=wK hF
  exact bQ
 refine go ?_ ?_
 refine aL hF rfl (fun h31 hF=>?_) (fun h31 hF=>?_)
 ·obtain⟨x36,h37,hF⟩:=a8 hF
  refine oV (HsM [(0,fun G32=>[⟨some b5,1,44,4,1,(eQ v3)⟩,⟨some b2,1,27,4,1,([pS aG.cod ([]:List aG)]++[pS cQ ([]:List Rat)]++[pS cQ ([]:List Rat)]++[pS aA.cod ([]:List aA)])⟩,⟨some b1,1,27,4,1,(aI.enc a0)⟩]),(1,fun G32=>[hO aA.cod ((G32 0).1) 0 51 0 ([]:List aA),⟨some b5,1,44,4,1,(eQ v3)⟩,⟨some b2,1,27,4,1,([pS aG.cod ([]:List aG)]++[pS cQ ([]:List Rat)]++[pS cQ ([]:List Rat)]++[pS aA.cod ([]:List aA)])⟩,⟨some b1,1,27,4,1,(aI.enc a0)⟩]),(3,fun G32=>[hO aA.cod ((G32 3).1) ((G32 3).2) 51 (0+a0.rows.length) x36,⟨some b5,1,44,4,1,(eQ v3)⟩,⟨some b2,1,27,4,1,([pS aG.cod ([]:List aG)]++[pS cQ ([]:List Rat)]++[pS cQ ([]:List Rat)]++[pS aA.cod ([]:List aA)])⟩,⟨some b1,1,27,4,1,(aI.enc a0)⟩])]) [0,3] [0,0,2,7,0,0,48,112,240,496,1023,2047,4095] 10 3 [.g (fun b _=>.vc (pO b 0 0)),.v (.vc (pP (some b1) 3)),.v (.vc (pS aA.cod a0.rows)),.g (fun b c=>.vc (pO b (0+a0.rows.length) c)),.v (.vc (pI .i64 (a0.dofs.length:Int))),.v (.va (eQ v3)),.v (.va ([pI .i64 (a0.dofs.length:Int)]++(eQ v3))),.v (.vc (pS aC.cod [(⟨(a0.dofs.length:Int),v3⟩:aC)])),.v (.va ([pI .i64 0]++[pI .i64 0]++[pI .i64 0]++[pI .i64 0]++(eQ 0)++[pS aC.cod [(⟨(a0.dofs.length:Int),v3⟩:aC)]]++[pS aC.cod ([]:List aC)]++(eQ 0)++(eQ 0))),.v (.vc (pS aA.cod [(⟨0,0,0,0,0,[(⟨(a0.dofs.length:Int),v3⟩:aC)],([]:List aC),0,0⟩:aA)]))] bA ⟨⟨rfl,.hvy (ins:=fun _=>[]) [0] ⟨fun G32 A=>yW (C:=aA.cod) (xs:=[]) (ps:=[]) (zs:=([]:List aA)) rfl tyS25 rfl trivial rfl,trivial⟩ (fun G32=>trivial)⟩,⟨rfl,.run (L:=[0,1]) ⟨fun G32 A=>lN (off:=0) (k:=3) rfl tyF27_3,fun G32 A=>lN (off:=0) (k:=3) rfl tyF27_3,trivial⟩ (fun G32=>zU1)⟩,⟨rfl,.run (L:=[0,1]) ⟨fun G32 A=>eV 2 1 rfl rfl rfl rfl (.one tyO25),fun G32 A=>eV 3 1 rfl rfl rfl rfl (.one tyO25),trivial⟩ (fun G32=>zU1)⟩,⟨rfl,.hvy [1] ⟨fun G32 A=>aCi 0 rfl tyS25 rfl rfl rfl h37,trivial⟩ (fun G32=>zU2)⟩,⟨rfl,.run (L:=[0,1,3]) ⟨fun G32 A=>bP (.inl rfl),fun G32 A=>bP (.inl rfl),fun G32 A=>bP (.inl rfl),trivial⟩ (fun G32=>zU1)⟩,⟨rfl,.run (L:=[0,1,3]) ⟨fun G32 A=>eV 0 4 rfl rfl rfl rfl (.agg tyA44),fun G32 A=>eV 1 4 rfl rfl rfl rfl (.agg tyA44),fun G32 A=>eV 1 4 rfl rfl rfl rfl (.agg tyA44),trivial⟩ (fun G32=>zU1)⟩,⟨rfl,.run (L:=[0,1,3]) ⟨fun G32 A=>cR (is:=[0,1]) (xs:=[.tmp 37,.tmp 38]) (ps:=[.vc (pI .i64 (a0.dofs.length:Int)),.va (eQ v3)]) rfl tyB92q rfl rfl ⟨trivial,trivial,trivial⟩ rfl,fun G32 A=>cR (is:=[0,1]) (xs:=[.tmp 37,.tmp 38]) (ps:=[.vc (pI .i64 (a0.dofs.length:Int)),.va (eQ v3)]) rfl tyB92q rfl rfl ⟨trivial,trivial,trivial⟩ rfl,fun G32 A=>cR (is:=[0,1]) (xs:=[.tmp 37,.tmp 38]) (ps:=[.vc (pI .i64 (a0.dofs.length:Int)),.va (eQ v3)]) rfl tyB92q rfl rfl ⟨trivial,trivial,trivial⟩ rfl,trivial⟩ (fun G32=>zU2)⟩,⟨rfl,.run (L:=[0,1,3]) ⟨fun G32 A=>kT (C:=aC.cod) (xs:=[.tmp 39]) (ps:=[.va ([pI .i64 (a0.dofs.length:Int)]++(eQ v3))]) (zs:=[(⟨(a0.dofs.length:Int),v3⟩:aC)]) rfl tyS49 rfl ⟨⟨trivial,rfl⟩,trivial⟩ rfl,fun G32 A=>kT (C:=aC.cod) (xs:=[.tmp 39]) (ps:=[.va ([pI .i64 (a0.dofs.length:Int)]++(eQ v3))]) (zs:=[(⟨(a0.dofs.length:Int),v3⟩:aC)]) rfl tyS49 rfl ⟨⟨trivial,rfl⟩,trivial⟩ rfl,fun G32 A=>kT (C:=aC.cod) (xs:=[.tmp 39]) (ps:=[.va ([pI .i64 (a0.dofs.length:Int)]++(eQ v3))]) (zs:=[(⟨(a0.dofs.length:Int),v3⟩:aC)]) rfl tyS49 rfl ⟨⟨trivial,rfl⟩,trivial⟩ rfl,trivial⟩ (fun G32=>zU1)⟩,⟨rfl,.run (L:=[0,1,3]) ⟨fun G32 A=>cR (is:=[5]) (xs:=[.tmp 40]) (ps:=[.vc (pS aC.cod [(⟨(a0.dofs.length:Int),v3⟩:aC)])]) rfl tyB51q rfl rfl ⟨trivial,trivial⟩ rfl,fun G32 A=>cR (is:=[5]) (xs:=[.tmp 40]) (ps:=[.vc (pS aC.cod [(⟨(a0.dofs.length:Int),v3⟩:aC)])]) rfl tyB51q rfl rfl ⟨trivial,trivial⟩ rfl,fun G32 A=>cR (is:=[5]) (xs:=[.tmp 40]) (ps:=[.vc (pS aC.cod [(⟨(a0.dofs.length:Int),v3⟩:aC)])]) rfl tyB51q rfl rfl ⟨trivial,trivial⟩ rfl,trivial⟩ (fun G32=>zU1)⟩,⟨rfl,.run (L:=[0,1,3]) ⟨fun G32 A=>kT (C:=aA.cod) (xs:=[.tmp 41]) (ps:=[.va ([pI .i64 0]++[pI .i64 0]++[pI .i64 0]++[pI .i64 0]++(eQ 0)++[pS aC.cod [(⟨(a0.dofs.length:Int),v3⟩:aC)]]++[pS aC.cod ([]:List aC)]++(eQ 0)++(eQ 0))]) (zs:=[(⟨0,0,0,0,0,[(⟨(a0.dofs.length:Int),v3⟩:aC)],([]:List aC),0,0⟩:aA)]) rfl tyS25 rfl ⟨⟨trivial,rfl⟩,trivial⟩ rfl,fun G32 A=>kT (C:=aA.cod) (xs:=[.tmp 41]) (ps:=[.va ([pI .i64 0]++[pI .i64 0]++[pI .i64 0]++[pI .i64 0]++(eQ 0)++[pS aC.cod [(⟨(a0.dofs.length:Int),v3⟩:aC)]]++[pS aC.cod ([]:List aC)]++(eQ 0)++(eQ 0))]) (zs:=[(⟨0,0,0,0,0,[(⟨(a0.dofs.length:Int),v3⟩:aC)],([]:List aC),0,0⟩:aA)]) rfl tyS25 rfl ⟨⟨trivial,rfl⟩,trivial⟩ rfl,fun G32 A=>kT (C:=aA.cod) (xs:=[.tmp 41]) (ps:=[.va ([pI .i64 0]++[pI .i64 0]++[pI .i64 0]++[pI .i64 0]++(eQ 0)++[pS aC.cod [(⟨(a0.dofs.length:Int),v3⟩:aC)]]++[pS aC.cod ([]:List aC)]++(eQ 0)++(eQ 0))]) (zs:=[(⟨0,0,0,0,0,[(⟨(a0.dofs.length:Int),v3⟩:aC)],([]:List aC),0,0⟩:aA)]) rfl tyS25 rfl ⟨⟨trivial,rfl⟩,trivial⟩ rfl,trivial⟩ (fun G32=>zU1)⟩,trivial⟩ (fun bs33 G32=>?_)
  obtain⟨x42,h43,hF⟩:=a8 hF
  refine lY 0 rfl tyS25 rfl rfl (bF h37 rfl) rfl rfl h43 (fun b44 c45 H46 e47=>?_)
  cases e47
  refine aX (lN (off:=0) (k:=3) rfl tyF27_3) zU1 ?_
  refine nZ (t_s 3 rfl rfl rfl tyO25.s) zU2 ?_
  refine bI (t9 (aP (aN (aU (xD 0 3 3 rfl (bF h43 (bF h37 rfl)) rfl rfl rfl rfl rfl ?_)))))
  exact bQ
 refine go ?_ ?_
 refine aL hF rfl (fun h49 hF=>?_) (fun h49 hF=>?_)
 ·obtain⟨x54,h55,hF⟩:=a8 hF
  refine oV (HsM [(0,fun G50=>[⟨some b5,1,44,4,1,(eQ v3)⟩,⟨some b2,1,27,4,1,([pS aG.cod ([]:List aG)]++[pS cQ ([]:List Rat)]++[pS cQ ([]:List Rat)]++[pS aA.cod ([]:List aA)])⟩,⟨some b1,1,27,4,1,(aI.enc a0)⟩]),(1,fun G50=>[hO aA.cod ((G50 0).1) 0 51 0 ([]:List aA),⟨some b5,1,44,4,1,(eQ v3)⟩,⟨some b2,1,27,4,1,([pS aG.cod ([]:List aG)]++[pS cQ ([]:List Rat)]++[pS cQ ([]:List Rat)]++[pS aA.cod ([]:List aA)])⟩,⟨some b1,1,27,4,1,(aI.enc a0)⟩]),(3,fun G50=>[hO aA.cod ((G50 3).1) ((G50 3).2) 51 (0+a0.rows.length) x54,⟨some b5,1,44,4,1,(eQ v3)⟩,⟨some b2,1,27,4,1,([pS aG.cod ([]:List aG)]++[pS cQ ([]:List Rat)]++[pS cQ ([]:List Rat)]++[pS aA.cod ([]:List aA)])⟩,⟨some b1,1,27,4,1,(aI.enc a0)⟩])]) [0,3] [0,0,2,7,0,16,0,64,240,496,1008,2047,4095,8191] 11 3 [.g (fun b _=>.vc (pO b 0 0)),.v (.vc (pP (some b1) 3)),.v (.vc (pS aA.cod a0.rows)),.g (fun b c=>.vc (pO b (0+a0.rows.length) c)),.v (.va (eQ v3)),.v (.va ([pI .i64 0]++(eQ v3))),.v (.va (eQ v3)),.v (.va ([pI .i64 0]++(eQ v3))),.v (.vc (pS aC.cod [(⟨0,v3⟩:aC),(⟨0,v3⟩:aC)])),.v (.va ([pI .i64 0]++[pI .i64 0]++[pI .i64 0]++[pI .i64 0]++(eQ 0)++[pS aC.cod ([]:List aC)]++[pS aC.cod [(⟨0,v3⟩:aC),(⟨0,v3⟩:aC)]]++(eQ 0)++(eQ 0))),.v (.vc (pS aA.cod [(⟨0,0,0,0,0,([]:List aC),[(⟨0,v3⟩:aC),(⟨0,v3⟩:aC)],0,0⟩:aA)]))] bA ⟨⟨rfl,.hvy (ins:=fun _=>[]) [0] ⟨fun G50 A=>yW (C:=aA.cod) (xs:=[]) (ps:=[]) (zs:=([]:List aA)) rfl tyS25 rfl trivial rfl,trivial⟩ (fun G50=>trivial)⟩,⟨rfl,.run (L:=[0,1]) ⟨fun G50 A=>lN (off:=0) (k:=3) rfl tyF27_3,fun G50 A=>lN (off:=0) (k:=3) rfl tyF27_3,trivial⟩ (fun G50=>zU1)⟩,⟨rfl,.run (L:=[0,1]) ⟨fun G50 A=>eV 2 1 rfl rfl rfl rfl (.one tyO25),fun G50 A=>eV 3 1 rfl rfl rfl rfl (.one tyO25),trivial⟩ (fun G50=>zU1)⟩,⟨rfl,.hvy [1] ⟨fun G50 A=>aCi 0 rfl tyS25 rfl rfl rfl h55,trivial⟩ (fun G50=>zU2)⟩,⟨rfl,.run (L:=[0,1,3]) ⟨fun G50 A=>eV 0 4 rfl rfl rfl rfl (.agg tyA44),fun G50 A=>eV 1 4 rfl rfl rfl rfl (.agg tyA44),fun G50 A=>eV 1 4 rfl rfl rfl rfl (.agg tyA44),trivial⟩ (fun G50=>zU1)⟩,⟨rfl,.run (L:=[0,1,3]) ⟨fun G50 A=>cR (is:=[0,1]) (xs:=[.const (.int .i64 (0)),.tmp 51]) (ps:=[.vc (pI .i64 0),.va (eQ v3)]) rfl tyB92q rfl rfl ⟨trivial,trivial,trivial⟩ rfl,fun G50 A=>cR (is:=[0,1]) (xs:=[.const (.int .i64 (0)),.tmp 51]) (ps:=[.vc (pI .i64 0),.va (eQ v3)]) rfl tyB92q rfl rfl ⟨trivial,trivial,trivial⟩ rfl,fun G50 A=>cR (is:=[0,1]) (xs:=[.const (.int .i64 (0)),.tmp 51]) (ps:=[.vc (pI .i64 0),.va (eQ v3)]) rfl tyB92q rfl rfl ⟨trivial,trivial,trivial⟩ rfl,trivial⟩ (fun G50=>⟨lC _ _,rfl,trivial⟩)⟩,⟨rfl,.run (L:=[0,1,3]) ⟨fun G50 A=>eV 0 4 rfl rfl rfl rfl (.agg tyA44),fun G50 A=>eV 1 4 rfl rfl rfl rfl (.agg tyA44),fun G50 A=>eV 1 4 rfl rfl rfl rfl (.agg tyA44),trivial⟩ (fun G50=>zU1)⟩,⟨rfl,.run (L:=[0,1,3]) ⟨fun G50 A=>cR (is:=[0,1]) (xs:=[.const (.int .i64 (0)),.tmp 53]) (ps:=[.vc (pI .i64 0),.va (eQ v3)]) rfl tyB92q rfl rfl ⟨trivial,trivial,trivial⟩ rfl,fun G50 A=>cR (is:=[0,1]) (xs:=[.const (.int .i64 (0)),.tmp 53]) (ps:=[.vc (pI .i64 0),.va (eQ v3)]) rfl tyB92q rfl rfl ⟨trivial,trivial,trivial⟩ rfl,fun G50 A=>cR (is:=[0,1]) (xs:=[.const (.int .i64 (0)),.tmp 53]) (ps:=[.vc (pI .i64 0),.va (eQ v3)]) rfl tyB92q rfl rfl ⟨trivial,trivial,trivial⟩ rfl,trivial⟩ (fun G50=>⟨lC _ _,rfl,trivial⟩)⟩,⟨rfl,.run (L:=[0,1,3]) ⟨fun G50 A=>kT (C:=aC.cod) (xs:=[.tmp 52,.tmp 54]) (ps:=[.va ([pI .i64 0]++(eQ v3)),.va ([pI .i64 0]++(eQ v3))]) (zs:=[(⟨0,v3⟩:aC),(⟨0,v3⟩:aC)]) rfl tyS49 rfl ⟨⟨trivial,rfl⟩,⟨trivial,rfl⟩,trivial⟩ rfl,fun G50 A=>kT (C:=aC.cod) (xs:=[.tmp 52,.tmp 54]) (ps:=[.va ([pI .i64 0]++(eQ v3)),.va ([pI .i64 0]++(eQ v3))]) (zs:=[(⟨0,v3⟩:aC),(⟨0,v3⟩:aC)]) rfl tyS49 rfl ⟨⟨trivial,rfl⟩,⟨trivial,rfl⟩,trivial⟩ rfl,fun G50 A=>kT (C:=aC.cod) (xs:=[.tmp 52,.tmp 54]) (ps:=[.va ([pI .i64 0]++(eQ v3)),.va ([pI .i64 0]++(eQ v3))]) (zs:=[(⟨0,v3⟩:aC),(⟨0,v3⟩:aC)]) rfl tyS49 rfl ⟨⟨trivial,rfl⟩,⟨trivial,rfl⟩,trivial⟩ rfl,trivial⟩ (fun G50=>zU2)⟩,⟨rfl,.run (L:=[0,1,3]) ⟨fun G50 A=>cR (is:=[6]) (xs:=[.tmp 55]) (ps:=[.vc (pS aC.cod [(⟨0,v3⟩:aC),(⟨0,v3⟩:aC)])]) rfl tyB51q rfl rfl ⟨trivial,trivial⟩ rfl,fun G50 A=>cR (is:=[6]) (xs:=[.tmp 55]) (ps:=[.vc (pS aC.cod [(⟨0,v3⟩:aC),(⟨0,v3⟩:aC)])]) rfl tyB51q rfl rfl ⟨trivial,trivial⟩ rfl,fun G50 A=>cR (is:=[6]) (xs:=[.tmp 55]) (ps:=[.vc (pS aC.cod [(⟨0,v3⟩:aC),(⟨0,v3⟩:aC)])]) rfl tyB51q rfl rfl ⟨trivial,trivial⟩ rfl,trivial⟩ (fun G50=>zU1)⟩,⟨rfl,.run (L:=[0,1,3]) ⟨fun G50 A=>kT (C:=aA.cod) (xs:=[.tmp 56]) (ps:=[.va ([pI .i64 0]++[pI .i64 0]++[pI .i64 0]++[pI .i64 0]++(eQ 0)++[pS aC.cod ([]:List aC)]++[pS aC.cod [(⟨0,v3⟩:aC),(⟨0,v3⟩:aC)]]++(eQ 0)++(eQ 0))]) (zs:=[(⟨0,0,0,0,0,([]:List aC),[(⟨0,v3⟩:aC),(⟨0,v3⟩:aC)],0,0⟩:aA)]) rfl tyS25 rfl ⟨⟨trivial,rfl⟩,trivial⟩ rfl,fun G50 A=>kT (C:=aA.cod) (xs:=[.tmp 56]) (ps:=[.va ([pI .i64 0]++[pI .i64 0]++[pI .i64 0]++[pI .i64 0]++(eQ 0)++[pS aC.cod ([]:List aC)]++[pS aC.cod [(⟨0,v3⟩:aC),(⟨0,v3⟩:aC)]]++(eQ 0)++(eQ 0))]) (zs:=[(⟨0,0,0,0,0,([]:List aC),[(⟨0,v3⟩:aC),(⟨0,v3⟩:aC)],0,0⟩:aA)]) rfl tyS25 rfl ⟨⟨trivial,rfl⟩,trivial⟩ rfl,fun G50 A=>kT (C:=aA.cod) (xs:=[.tmp 56]) (ps:=[.va ([pI .i64 0]++[pI .i64 0]++[pI .i64 0]++[pI .i64 0]++(eQ 0)++[pS aC.cod ([]:List aC)]++[pS aC.cod [(⟨0,v3⟩:aC),(⟨0,v3⟩:aC)]]++(eQ 0)++(eQ 0))]) (zs:=[(⟨0,0,0,0,0,([]:List aC),[(⟨0,v3⟩:aC),(⟨0,v3⟩:aC)],0,0⟩:aA)]) rfl tyS25 rfl ⟨⟨trivial,rfl⟩,trivial⟩ rfl,trivial⟩ (fun G50=>zU1)⟩,trivial⟩ (fun bs51 G50=>?_)
  obtain⟨x60,h61,hF⟩:=a8 hF
  refine lY 0 rfl tyS25 rfl rfl (bF h55 rfl) rfl rfl h61 (fun b62 c63 H64 e65=>?_)
  cases e65
  refine aX (lN (off:=0) (k:=3) rfl tyF27_3) zU1 ?_
  refine nZ (t_s 3 rfl rfl rfl tyO25.s) zU2 ?_
  refine bI (t9 (aP (aN (aU (xD 0 3 3 rfl (bF h61 (bF h55 rfl)) rfl rfl rfl rfl rfl ?_)))))
  exact bQ
 refine go ?_ ?_
 refine aL hF rfl (fun h67 hF=>?_) (fun h67 hF=>?_)
 ·refine aU (aEZ (yW (C:=aA.cod) (xs:=[]) (ps:=[]) (zs:=([]:List aA)) rfl tyS25 rfl trivial rfl) trivial (fun b68 _=>?_))
  refine aX (lN (off:=0) (k:=3) rfl tyF27_3) zU1 ?_
  refine aX (eV 3 1 rfl rfl rfl rfl (.one tyO25)) zU1 ?_
  obtain⟨x71,h72,hF⟩:=a8 hF
  refine lY 0 rfl tyS25 rfl rfl rfl rfl rfl h72 (fun b73 c74 H75 e76=>?_)
  cases e76
  obtain⟨v78,h79,hF⟩:=aY hF bR
  refine aX (bV rfl h79 rfl) ⟨lC _ _,lC _ _,trivial⟩ ?_
  refine aX (cR (is:=[7]) (xs:=[.tmp 66]) (ps:=[.va (eQ v78)]) rfl tyB51q rfl rfl ⟨trivial,trivial⟩ rfl) zU1 ?_
  refine aX (kT (C:=aA.cod) (xs:=[.tmp 67]) (ps:=[.va ([pI .i64 0]++[pI .i64 0]++[pI .i64 0]++[pI .i64 0]++(eQ 0)++[pS aC.cod ([]:List aC)]++[pS aC.cod ([]:List aC)]++(eQ v78)++(eQ 0))]) (zs:=[(⟨0,0,0,0,0,([]:List aC),([]:List aC),v78,0⟩:aA)]) rfl tyS25 rfl ⟨⟨trivial,rfl⟩,trivial⟩ rfl) zU1 ?_
  obtain⟨x80,h81,hF⟩:=a8 hF
  refine lY 0 rfl tyS25 rfl rfl (bF h72 rfl) rfl rfl h81 (fun b82 c83 H84 e85=>?_)
  cases e85
  refine aX (lN (off:=0) (k:=3) rfl tyF27_3) zU1 ?_
  refine nZ (t_s 3 rfl rfl rfl tyO25.s) zU2 ?_
  refine bI (t9 (aP (aN (aU (xD 0 3 3 rfl (bF h81 (bF h72 rfl)) rfl rfl rfl rfl rfl ?_)))))
  exact bQ
 refine go ?_ ?_
 refine aL hF rfl (fun h87 hF=>?_) (fun h87 hF=>?_)
 ·refine aU (aEZ (yW (C:=aG.cod) (xs:=[]) (ps:=[]) (zs:=([]:List aG)) rfl tyS23 rfl trivial rfl) trivial (fun b88 _=>?_))
  obtain⟨v91,h92,x93,h94,x95,h96,hF⟩:=bn3 hF
  refine go ?_ ?_
  refine lY 0 rfl tyS23 rfl rfl rfl rfl rfl h96 (fun b97 c98 H99 e100=>?_)
  cases e100
  refine aX (cR (is:=[]) (xs:=[]) (ps:=[]) rfl tyB108q rfl rfl trivial rfl) trivial ?_
  refine aX (kT (C:=aG.cod) (xs:=[.tmp 80]) (ps:=[.va ((eQ 0)++(eQ 0)++[pB false]++(eQ 0)++(eQ 0))]) (zs:=[(⟨0,0,false,0,0⟩:aG)]) rfl tyS23 rfl ⟨⟨trivial,rfl⟩,trivial⟩ rfl) zU1 ?_
  obtain⟨x102,h103,hF⟩:=a8 hF
  refine lY 0 rfl tyS23 rfl rfl (bF h96 rfl) rfl rfl h103 (fun b104 c105 H106 e107=>?_)
  cases e107
  refine aX (lN (off:=0) (k:=0) rfl tyF27_0) zU1 ?_
  refine nZ (t_s 3 rfl rfl rfl tyO23.s) zU2 ?_
  refine bI (t9 (aP (aN (aU (xD 0 3 0 rfl (bF h103 (bF h96 rfl)) rfl rfl rfl rfl rfl ?_)))))
  exact bQ
 refine go ?_ ?_
 refine aL hF rfl (fun h109 hF=>?_) (fun h109 hF=>?_)
 ·refine aN ?_
  obtain⟨v114,h115,hF⟩:=a8 hF
  obtain⟨x116,h117,hF⟩:=a8 hF
  obtain⟨x118,h119,hF⟩:=a8 hF
  refine oV (HsM [(0,fun G110=>[⟨some b5,1,44,4,1,(eQ v3)⟩,⟨some b2,1,27,4,1,([pS aG.cod ([]:List aG)]++[pS cQ ([]:List Rat)]++[pS cQ ([]:List Rat)]++[pS aA.cod ([]:List aA)])⟩,⟨some b1,1,27,4,1,(aI.enc a0)⟩]),(1,fun G110=>[hO cQ ((G110 0).1) 0 44 0 ([]:List Rat),⟨some b5,1,44,4,1,(eQ v3)⟩,⟨some b2,1,27,4,1,([pS aG.cod ([]:List aG)]++[pS cQ ([]:List Rat)]++[pS cQ ([]:List Rat)]++[pS aA.cod ([]:List aA)])⟩,⟨some b1,1,27,4,1,(aI.enc a0)⟩]),(3,fun G110=>[hO cQ ((G110 6).1) ((G110 6).2) 44 (0+x116.length) x118,⟨some b5,1,44,4,1,(eQ v3)⟩,⟨some b2,1,27,4,1,([pS aG.cod ([]:List aG)]++[pS cQ ([]:List Rat)]++[pS cQ ([]:List Rat)]++[pS aA.cod ([]:List aA)])⟩,⟨some b1,1,27,4,1,(aI.enc a0)⟩])]) [0,6] [0,0,2,0,8,30,63,0,128,511,1023,2047] 9 3 [.g (fun b _=>.vc (pO b 0 0)),.v (.vc (pP (some b1) 2)),.v (.vc (pS cQ a0.v)),.v (.vc (pI .i64 (a0.dofs.length:Int))),.v (.vc (pI .i64 v114)),.v (.vc (pS cQ x116)),.g (fun b c=>.vc (pO b (0+x116.length) c)),.v (.va (eQ v3)),.v (.vc (pS cQ [v3]))] bA ⟨⟨rfl,.hvy (ins:=fun _=>[]) [0] ⟨fun G110 A=>yW (C:=cQ) (xs:=[]) (ps:=[]) (zs:=([]:List Rat)) rfl tyS24 rfl trivial rfl,trivial⟩ (fun G110=>trivial)⟩,⟨rfl,.run (L:=[0,1]) ⟨fun G110 A=>lN (off:=0) (k:=2) rfl tyF27_2,fun G110 A=>lN (off:=0) (k:=2) rfl tyF27_2,trivial⟩ (fun G110=>zU1)⟩,⟨rfl,.run (L:=[0,1]) ⟨fun G110 A=>eV 2 1 rfl rfl rfl rfl (.one tyO24),fun G110 A=>eV 3 1 rfl rfl rfl rfl (.one tyO24),trivial⟩ (fun G110=>zU1)⟩,⟨rfl,.run (L:=[0,1]) ⟨fun G110 A=>bP (.inl rfl),fun G110 A=>bP (.inl rfl),trivial⟩ (fun G110=>zU1)⟩,⟨rfl,.run (L:=[0,1]) ⟨fun G110 A=>zV rfl h115,fun G110 A=>zV rfl h115,trivial⟩ (fun G110=>⟨rfl,lC _ _,trivial⟩)⟩,⟨rfl,.run (L:=[0,1]) ⟨fun G110 A=>aDm rfl tyS24 h117,fun G110 A=>aDm rfl tyS24 h117,trivial⟩ (fun G110=>zU2)⟩,⟨rfl,.hvy [1] ⟨fun G110 A=>aCi 0 rfl tyS24 rfl rfl rfl h119,trivial⟩ (fun G110=>zU2)⟩,⟨rfl,.run (L:=[0,1,3]) ⟨fun G110 A=>eV 0 4 rfl rfl rfl rfl (.agg tyA44),fun G110 A=>eV 1 4 rfl rfl rfl rfl (.agg tyA44),fun G110 A=>eV 1 4 rfl rfl rfl rfl (.agg tyA44),trivial⟩ (fun G110=>zU1)⟩,⟨rfl,.run (L:=[0,1,3]) ⟨fun G110 A=>kT (C:=cQ) (xs:=[.tmp 93]) (ps:=[.va (eQ v3)]) (zs:=[v3]) rfl tyS24 rfl ⟨⟨trivial,rfl⟩,trivial⟩ rfl,fun G110 A=>kT (C:=cQ) (xs:=[.tmp 93]) (ps:=[.va (eQ v3)]) (zs:=[v3]) rfl tyS24 rfl ⟨⟨trivial,rfl⟩,trivial⟩ rfl,fun G110 A=>kT (C:=cQ) (xs:=[.tmp 93]) (ps:=[.va (eQ v3)]) (zs:=[v3]) rfl tyS24 rfl ⟨⟨trivial,rfl⟩,trivial⟩ rfl,trivial⟩ (fun G110=>zU1)⟩,trivial⟩ (fun bs111 G110=>?_)
  obtain⟨x124,h125,hF⟩:=a8 hF
  refine lY 0 rfl tyS24 rfl rfl (bF h119 rfl) rfl rfl h125 (fun b126 c127 H128 e129=>?_)
  cases e129
  obtain⟨x135,h136,hF⟩:=a8 hF
  have hF:=r7 h115 hF
  refine go ?_ ?_
  refine oV (HsM [(0,fun G131=>[hO cQ b126 c127 44 ((0+x116.length)+[v3].length) x124,⟨some b5,1,44,4,1,(eQ v3)⟩,⟨some b2,1,27,4,1,([pS aG.cod ([]:List aG)]++[pS cQ ([]:List Rat)]++[pS cQ ([]:List Rat)]++[pS aA.cod ([]:List aA)])⟩,⟨some b1,1,27,4,1,([pS aG.cod a0.dofs]++[pS cQ a0.load]++[pO b126 ((0+x116.length)+[v3].length) c127]++[pS aA.cod a0.rows])⟩]),(1,fun G131=>[hO aA.cod ((G131 0).1) 0 51 0 ([]:List aA),hO cQ b126 c127 44 ((0+x116.length)+[v3].length) x124,⟨some b5,1,44,4,1,(eQ v3)⟩,⟨some b2,1,27,4,1,([pS aG.cod ([]:List aG)]++[pS cQ ([]:List Rat)]++[pS cQ ([]:List Rat)]++[pS aA.cod ([]:List aA)])⟩,⟨some b1,1,27,4,1,([pS aG.cod a0.dofs]++[pS cQ a0.load]++[pO b126 ((0+x116.length)+[v3].length) c127]++[pS aA.cod a0.rows])⟩]),(3,fun G131=>[hO aA.cod ((G131 3).1) ((G131 3).2) 51 (0+a0.rows.length) x135,hO cQ b126 c127 44 ((0+x116.length)+[v3].length) x124,⟨some b5,1,44,4,1,(eQ v3)⟩,⟨some b2,1,27,4,1,([pS aG.cod ([]:List aG)]++[pS cQ ([]:List Rat)]++[pS cQ ([]:List Rat)]++[pS aA.cod ([]:List aA)])⟩,⟨some b1,1,27,4,1,([pS aG.cod a0.dofs]++[pS cQ a0.load]++[pO b126 ((0+x116.length)+[v3].length) c127]++[pS aA.cod a0.rows])⟩])]) [0,3] [0,0,2,7,0,16,0,112,240,496,1008,2047,4095,8191] 11 3 [.g (fun b _=>.vc (pO b 0 0)),.v (.vc (pP (some b1) 3)),.v (.vc (pS aA.cod a0.rows)),.g (fun b c=>.vc (pO b (0+a0.rows.length) c)),.v (.vc (pI .i64 (a0.dofs.length:Int))),.v (.vc (pI .i64 v114)),.v (.va (eQ v3)),.v (.va ([pI .i64 v114]++(eQ v3))),.v (.vc (pS aC.cod [(⟨v114,v3⟩:aC)])),.v (.va ([pI .i64 0]++[pI .i64 0]++[pI .i64 0]++[pI .i64 0]++(eQ 0)++[pS aC.cod [(⟨v114,v3⟩:aC)]]++[pS aC.cod ([]:List aC)]++(eQ 0)++(eQ 0))),.v (.vc (pS aA.cod [(⟨0,0,0,0,0,[(⟨v114,v3⟩:aC)],([]:List aC),0,0⟩:aA)]))] bA ⟨⟨rfl,.hvy (ins:=fun _=>[]) [0] ⟨fun G131 A=>yW (C:=aA.cod) (xs:=[]) (ps:=[]) (zs:=([]:List aA)) rfl tyS25 rfl trivial rfl,trivial⟩ (fun G131=>trivial)⟩,⟨rfl,.run (L:=[0,1]) ⟨fun G131 A=>lN (off:=0) (k:=3) rfl tyF27_3,fun G131 A=>lN (off:=0) (k:=3) rfl tyF27_3,trivial⟩ (fun G131=>zU1)⟩,⟨rfl,.run (L:=[0,1]) ⟨fun G131 A=>eV 3 1 rfl rfl rfl rfl (.one tyO25),fun G131 A=>eV 4 1 rfl rfl rfl rfl (.one tyO25),trivial⟩ (fun G131=>zU1)⟩,⟨rfl,.hvy [1] ⟨fun G131 A=>aCi 0 rfl tyS25 rfl rfl rfl h136,trivial⟩ (fun G131=>zU2)⟩,⟨rfl,.run (L:=[0,1,3]) ⟨fun G131 A=>bP (.inl rfl),fun G131 A=>bP (.inl rfl),fun G131 A=>bP (.inl rfl),trivial⟩ (fun G131=>zU1)⟩,⟨rfl,.run (L:=[0,1,3]) ⟨fun G131 A=>zV rfl h115,fun G131 A=>zV rfl h115,fun G131 A=>zV rfl h115,trivial⟩ (fun G131=>⟨rfl,lC _ _,trivial⟩)⟩,⟨rfl,.run (L:=[0,1,3]) ⟨fun G131 A=>eV 1 4 rfl rfl rfl rfl (.agg tyA44),fun G131 A=>eV 2 4 rfl rfl rfl rfl (.agg tyA44),fun G131 A=>eV 2 4 rfl rfl rfl rfl (.agg tyA44),trivial⟩ (fun G131=>zU1)⟩,⟨rfl,.run (L:=[0,1,3]) ⟨fun G131 A=>cR (is:=[0,1]) (xs:=[.tmp 102,.tmp 103]) (ps:=[.vc (pI .i64 v114),.va (eQ v3)]) rfl tyB92q rfl rfl ⟨trivial,trivial,trivial⟩ rfl,fun G131 A=>cR (is:=[0,1]) (xs:=[.tmp 102,.tmp 103]) (ps:=[.vc (pI .i64 v114),.va (eQ v3)]) rfl tyB92q rfl rfl ⟨trivial,trivial,trivial⟩ rfl,fun G131 A=>cR (is:=[0,1]) (xs:=[.tmp 102,.tmp 103]) (ps:=[.vc (pI .i64 v114),.va (eQ v3)]) rfl tyB92q rfl rfl ⟨trivial,trivial,trivial⟩ rfl,trivial⟩ (fun G131=>zU2)⟩,⟨rfl,.run (L:=[0,1,3]) ⟨fun G131 A=>kT (C:=aC.cod) (xs:=[.tmp 104]) (ps:=[.va ([pI .i64 v114]++(eQ v3))]) (zs:=[(⟨v114,v3⟩:aC)]) rfl tyS49 rfl ⟨⟨trivial,rfl⟩,trivial⟩ rfl,fun G131 A=>kT (C:=aC.cod) (xs:=[.tmp 104]) (ps:=[.va ([pI .i64 v114]++(eQ v3))]) (zs:=[(⟨v114,v3⟩:aC)]) rfl tyS49 rfl ⟨⟨trivial,rfl⟩,trivial⟩ rfl,fun G131 A=>kT (C:=aC.cod) (xs:=[.tmp 104]) (ps:=[.va ([pI .i64 v114]++(eQ v3))]) (zs:=[(⟨v114,v3⟩:aC)]) rfl tyS49 rfl ⟨⟨trivial,rfl⟩,trivial⟩ rfl,trivial⟩ (fun G131=>zU1)⟩,⟨rfl,.run (L:=[0,1,3]) ⟨fun G131 A=>cR (is:=[5]) (xs:=[.tmp 105]) (ps:=[.vc (pS aC.cod [(⟨v114,v3⟩:aC)])]) rfl tyB51q rfl rfl ⟨trivial,trivial⟩ rfl,fun G131 A=>cR (is:=[5]) (xs:=[.tmp 105]) (ps:=[.vc (pS aC.cod [(⟨v114,v3⟩:aC)])]) rfl tyB51q rfl rfl ⟨trivial,trivial⟩ rfl,fun G131 A=>cR (is:=[5]) (xs:=[.tmp 105]) (ps:=[.vc (pS aC.cod [(⟨v114,v3⟩:aC)])]) rfl tyB51q rfl rfl ⟨trivial,trivial⟩ rfl,trivial⟩ (fun G131=>zU1)⟩,⟨rfl,.run (L:=[0,1,3]) ⟨fun G131 A=>kT (C:=aA.cod) (xs:=[.tmp 106]) (ps:=[.va ([pI .i64 0]++[pI .i64 0]++[pI .i64 0]++[pI .i64 0]++(eQ 0)++[pS aC.cod [(⟨v114,v3⟩:aC)]]++[pS aC.cod ([]:List aC)]++(eQ 0)++(eQ 0))]) (zs:=[(⟨0,0,0,0,0,[(⟨v114,v3⟩:aC)],([]:List aC),0,0⟩:aA)]) rfl tyS25 rfl ⟨⟨trivial,rfl⟩,trivial⟩ rfl,fun G131 A=>kT (C:=aA.cod) (xs:=[.tmp 106]) (ps:=[.va ([pI .i64 0]++[pI .i64 0]++[pI .i64 0]++[pI .i64 0]++(eQ 0)++[pS aC.cod [(⟨v114,v3⟩:aC)]]++[pS aC.cod ([]:List aC)]++(eQ 0)++(eQ 0))]) (zs:=[(⟨0,0,0,0,0,[(⟨v114,v3⟩:aC)],([]:List aC),0,0⟩:aA)]) rfl tyS25 rfl ⟨⟨trivial,rfl⟩,trivial⟩ rfl,fun G131 A=>kT (C:=aA.cod) (xs:=[.tmp 106]) (ps:=[.va ([pI .i64 0]++[pI .i64 0]++[pI .i64 0]++[pI .i64 0]++(eQ 0)++[pS aC.cod [(⟨v114,v3⟩:aC)]]++[pS aC.cod ([]:List aC)]++(eQ 0)++(eQ 0))]) (zs:=[(⟨0,0,0,0,0,[(⟨v114,v3⟩:aC)],([]:List aC),0,0⟩:aA)]) rfl tyS25 rfl ⟨⟨trivial,rfl⟩,trivial⟩ rfl,trivial⟩ (fun G131=>zU1)⟩,trivial⟩ (fun bs132 G131=>?_)
  obtain⟨x143,h144,hF⟩:=a8 hF
  refine lY 0 rfl tyS25 rfl rfl (bF h136 rfl) rfl rfl h144 (fun b145 c146 H147 e148=>?_)
  cases e148
  refine aX (lN (off:=0) (k:=3) rfl tyF27_3) zU1 ?_
  refine nZ (t_s 4 rfl rfl rfl tyO25.s) zU2 ?_
  refine bI (t9 (aP (aN (aU (xD 1 4 2 rfl (bF h125 (bF h119 rfl)) rfl rfl rfl rfl rfl ?_)))))
  refine xD 0 3 3 rfl (bF h144 (bF h136 rfl)) rfl rfl rfl rfl rfl ?_
  exact bQ
 refine go ?_ ?_
 refine aL hF rfl (fun h150 hF=>?_) (fun h150 hF=>?_)
 ·obtain⟨x155,h156,hF⟩:=a8 hF
  refine oV (HsM [(0,fun G151=>[⟨some b5,1,44,4,1,(eQ v3)⟩,⟨some b2,1,27,4,1,([pS aG.cod ([]:List aG)]++[pS cQ ([]:List Rat)]++[pS cQ ([]:List Rat)]++[pS aA.cod ([]:List aA)])⟩,⟨some b1,1,27,4,1,(aI.enc a0)⟩]),(1,fun G151=>[hO aA.cod ((G151 0).1) 0 51 0 ([]:List aA),⟨some b5,1,44,4,1,(eQ v3)⟩,⟨some b2,1,27,4,1,([pS aG.cod ([]:List aG)]++[pS cQ ([]:List Rat)]++[pS cQ ([]:List Rat)]++[pS aA.cod ([]:List aA)])⟩,⟨some b1,1,27,4,1,(aI.enc a0)⟩]),(3,fun G151=>[hO aA.cod ((G151 3).1) ((G151 3).2) 51 (0+a0.rows.length) x155,⟨some b5,1,44,4,1,(eQ v3)⟩,⟨some b2,1,27,4,1,([pS aG.cod ([]:List aG)]++[pS cQ ([]:List Rat)]++[pS cQ ([]:List Rat)]++[pS aA.cod ([]:List aA)])⟩,⟨some b1,1,27,4,1,(aI.enc a0)⟩])]) [0,3] [0,0,2,7,0,16,48,112,240,511,1023,2047] 9 3 [.g (fun b _=>.vc (pO b 0 0)),.v (.vc (pP (some b1) 3)),.v (.vc (pS aA.cod a0.rows)),.g (fun b c=>.vc (pO b (0+a0.rows.length) c)),.v (.va (eQ v3)),.v (.va ([pI .i64 (-1)]++(eQ v3))),.v (.vc (pS aC.cod [(⟨(-1),v3⟩:aC)])),.v (.va ([pI .i64 0]++[pI .i64 0]++[pI .i64 0]++[pI .i64 0]++(eQ 0)++[pS aC.cod [(⟨(-1),v3⟩:aC)]]++[pS aC.cod ([]:List aC)]++(eQ 0)++(eQ 0))),.v (.vc (pS aA.cod [(⟨0,0,0,0,0,[(⟨(-1),v3⟩:aC)],([]:List aC),0,0⟩:aA)]))] bA ⟨⟨rfl,.hvy (ins:=fun _=>[]) [0] ⟨fun G151 A=>yW (C:=aA.cod) (xs:=[]) (ps:=[]) (zs:=([]:List aA)) rfl tyS25 rfl trivial rfl,trivial⟩ (fun G151=>trivial)⟩,⟨rfl,.run (L:=[0,1]) ⟨fun G151 A=>lN (off:=0) (k:=3) rfl tyF27_3,fun G151 A=>lN (off:=0) (k:=3) rfl tyF27_3,trivial⟩ (fun G151=>zU1)⟩,⟨rfl,.run (L:=[0,1]) ⟨fun G151 A=>eV 2 1 rfl rfl rfl rfl (.one tyO25),fun G151 A=>eV 3 1 rfl rfl rfl rfl (.one tyO25),trivial⟩ (fun G151=>zU1)⟩,⟨rfl,.hvy [1] ⟨fun G151 A=>aCi 0 rfl tyS25 rfl rfl rfl h156,trivial⟩ (fun G151=>zU2)⟩,⟨rfl,.run (L:=[0,1,3]) ⟨fun G151 A=>eV 0 4 rfl rfl rfl rfl (.agg tyA44),fun G151 A=>eV 1 4 rfl rfl rfl rfl (.agg tyA44),fun G151 A=>eV 1 4 rfl rfl rfl rfl (.agg tyA44),trivial⟩ (fun G151=>zU1)⟩,⟨rfl,.run (L:=[0,1,3]) ⟨fun G151 A=>cR (is:=[0,1]) (xs:=[.const (.int .i64 (-1)),.tmp 116]) (ps:=[.vc (pI .i64 (-1)),.va (eQ v3)]) rfl tyB92q rfl rfl ⟨trivial,trivial,trivial⟩ rfl,fun G151 A=>cR (is:=[0,1]) (xs:=[.const (.int .i64 (-1)),.tmp 116]) (ps:=[.vc (pI .i64 (-1)),.va (eQ v3)]) rfl tyB92q rfl rfl ⟨trivial,trivial,trivial⟩ rfl,fun G151 A=>cR (is:=[0,1]) (xs:=[.const (.int .i64 (-1)),.tmp 116]) (ps:=[.vc (pI .i64 (-1)),.va (eQ v3)]) rfl tyB92q rfl rfl ⟨trivial,trivial,trivial⟩ rfl,trivial⟩ (fun G151=>⟨lC _ _,rfl,trivial⟩)⟩,⟨rfl,.run (L:=[0,1,3]) ⟨fun G151 A=>kT (C:=aC.cod) (xs:=[.tmp 117]) (ps:=[.va ([pI .i64 (-1)]++(eQ v3))]) (zs:=[(⟨(-1),v3⟩:aC)]) rfl tyS49 rfl ⟨⟨trivial,rfl⟩,trivial⟩ rfl,fun G151 A=>kT (C:=aC.cod) (xs:=[.tmp 117]) (ps:=[.va ([pI .i64 (-1)]++(eQ v3))]) (zs:=[(⟨(-1),v3⟩:aC)]) rfl tyS49 rfl ⟨⟨trivial,rfl⟩,trivial⟩ rfl,fun G151 A=>kT (C:=aC.cod) (xs:=[.tmp 117]) (ps:=[.va ([pI .i64 (-1)]++(eQ v3))]) (zs:=[(⟨(-1),v3⟩:aC)]) rfl tyS49 rfl ⟨⟨trivial,rfl⟩,trivial⟩ rfl,trivial⟩ (fun G151=>zU1)⟩,⟨rfl,.run (L:=[0,1,3]) ⟨fun G151 A=>cR (is:=[5]) (xs:=[.tmp 118]) (ps:=[.vc (pS aC.cod [(⟨(-1),v3⟩:aC)])]) rfl tyB51q rfl rfl ⟨trivial,trivial⟩ rfl,fun G151 A=>cR (is:=[5]) (xs:=[.tmp 118]) (ps:=[.vc (pS aC.cod [(⟨(-1),v3⟩:aC)])]) rfl tyB51q rfl rfl ⟨trivial,trivial⟩ rfl,fun G151 A=>cR (is:=[5]) (xs:=[.tmp 118]) (ps:=[.vc (pS aC.cod [(⟨(-1),v3⟩:aC)])]) rfl tyB51q rfl rfl ⟨trivial,trivial⟩ rfl,trivial⟩ (fun G151=>zU1)⟩,⟨rfl,.run (L:=[0,1,3]) ⟨fun G151 A=>kT (C:=aA.cod) (xs:=[.tmp 119]) (ps:=[.va ([pI .i64 0]++[pI .i64 0]++[pI .i64 0]++[pI .i64 0]++(eQ 0)++[pS aC.cod [(⟨(-1),v3⟩:aC)]]++[pS aC.cod ([]:List aC)]++(eQ 0)++(eQ 0))]) (zs:=[(⟨0,0,0,0,0,[(⟨(-1),v3⟩:aC)],([]:List aC),0,0⟩:aA)]) rfl tyS25 rfl ⟨⟨trivial,rfl⟩,trivial⟩ rfl,fun G151 A=>kT (C:=aA.cod) (xs:=[.tmp 119]) (ps:=[.va ([pI .i64 0]++[pI .i64 0]++[pI .i64 0]++[pI .i64 0]++(eQ 0)++[pS aC.cod [(⟨(-1),v3⟩:aC)]]++[pS aC.cod ([]:List aC)]++(eQ 0)++(eQ 0))]) (zs:=[(⟨0,0,0,0,0,[(⟨(-1),v3⟩:aC)],([]:List aC),0,0⟩:aA)]) rfl tyS25 rfl ⟨⟨trivial,rfl⟩,trivial⟩ rfl,fun G151 A=>kT (C:=aA.cod) (xs:=[.tmp 119]) (ps:=[.va ([pI .i64 0]++[pI .i64 0]++[pI .i64 0]++[pI .i64 0]++(eQ 0)++[pS aC.cod [(⟨(-1),v3⟩:aC)]]++[pS aC.cod ([]:List aC)]++(eQ 0)++(eQ 0))]) (zs:=[(⟨0,0,0,0,0,[(⟨(-1),v3⟩:aC)],([]:List aC),0,0⟩:aA)]) rfl tyS25 rfl ⟨⟨trivial,rfl⟩,trivial⟩ rfl,trivial⟩ (fun G151=>zU1)⟩,trivial⟩ (fun bs152 G151=>?_)
  obtain⟨x161,h162,hF⟩:=a8 hF
  refine lY 0 rfl tyS25 rfl rfl (bF h156 rfl) rfl rfl h162 (fun b163 c164 H165 e166=>?_)
  cases e166
  refine aX (lN (off:=0) (k:=3) rfl tyF27_3) zU1 ?_
  refine nZ (t_s 3 rfl rfl rfl tyO25.s) zU2 ?_
  refine bI (t9 (aP (aN (aU (xD 0 3 3 rfl (bF h162 (bF h156 rfl)) rfl rfl rfl rfl rfl ?_)))))
  exact bQ
 exact bQ
def mF (K:Nat):Option Int:=
 some (-1)
def fE (K:Nat) (a0:List aF) (a1:(aF→Option Bool)):Nat→Int→Option (LR Int Unit)
 |0,_=>none
 |k+1,x2=>bif(decide (x2<(a0.length:Int))) then((bT a0 x2).bind fun v6=>(a1 v6).bind fun v8=>bif v8 then(some (.ret x2)) else((aS (x2+1)).bind fun v11=>fE K a0 a1 k v11)) else(some (.go ()))
def oO (K:Nat) (a0:List aF) (a1:(aF→Option Bool)):Option Int:=
 (fE K a0 a1 K 0).bind fun o=>match o with| .ret r=>some r| .go _=>mF K
theorem z8 {K:Nat} {a0:List aF} {a1:(aF→Option Bool)} {r:Int} (hF:oO K a0 a1=some r):Ct Tryz.prog 163 [.vc (pS aF.cod a0),.vc (pFn Tryz.prog (fun x:aF=>[.va (aF.enc x)]) (fun r:Bool=>.vc (pB r)) a1)] (.vc (pI .i64 r)):=by
 unfold oO at hF
 refine aJ Tryz.func163 rfl (by kernel_rfl) Tryz.ntmps163 rfl (fun w0 M0=>?_)
 refine go ?_ ?_
 refine aQ (bY (fun H E=>mF K=some r∧H=[]∧E=[]) ?_ (fun Jj4=>?_))
 ·rintro _ _ ⟨hF,rfl,rfl⟩
  unfold mF at hF
  exact bQ
 obtain⟨ol3,hL,hRl3⟩:=a8 hF
 refine hY (fun k a w=>∃(x2:Int),fE K a0 a1 k x2=some ol3∧hs _ [] [(0,.vc (pS aF.cod a0)),(1,.vc (pFn Tryz.prog (fun x:aF=>[.va (aF.enc x)]) (fun r:Bool=>.vc (pB r)) a1)),(7,.vc (pI .i64 (a0.length:Int))),(8,.vc (pI .i64 x2))] a w) K (fun a w ⟨_,hF,_⟩=>by cases hF) (fun k a w ⟨x2,hF,hh⟩=>iA ?_ hh) (fun a w hh=>⟨0,hL,gJ [] hh⟩)
 rw [fE.eq_2] at hF
 refine go ?_ ?_
 refine aL hF rfl (fun h5 hF=>?_) (fun h5 hF=>?_)
 ·refine go ?_ ?_
  refine aQ ?_
  obtain⟨v6,h7,v8,h9,hF⟩:=wK hF
  refine go ?_ ?_
  refine aX (aDh (pre:=fun x:aF=>[.va (aF.enc x)]) (post:=fun r:Bool=>.vc (pB r)) (x:=v6) (r:=v8) rfl h9 rfl) zU2 ?_
  refine bI (aP (aL hF rfl (fun h10 hF=>?_) (fun h10 hF=>?_)))
  ·exact bQ
  obtain⟨v11,h12,hF⟩:=a8 hF
  refine go ?_ ?_
  exact aM (fun a w hh=>⟨v11,hF,gJ [] hh⟩)
 refine cU ?_
 obtain rfl:=oN hF
 exact p9 Jj4 ⟨hRl3,rfl,rfl⟩ []
def kA (K:Nat) (a0:List aF) (a1:(aF→Option Bool)):Option Bool:=
 (oO K a0 a1).bind fun v1=>some (decide (0≤v1))
theorem yO {K:Nat} {a0:List aF} {a1:(aF→Option Bool)} {r:Bool} (hF:kA K a0 a1=some r):Ct Tryz.prog 76 [.vc (pS aF.cod a0),.vc (pFn Tryz.prog (fun x:aF=>[.va (aF.enc x)]) (fun r:Bool=>.vc (pB r)) a1)] (.vc (pB r)):=by
 unfold kA at hF
 refine aJ Tryz.func76 rfl (by kernel_rfl) Tryz.ntmps76 rfl (fun w0 M0=>?_)
 obtain⟨v1,h2,hF⟩:=aY hF z8
 exact bQ
def o7 (a0:aF):Option Bool:=
 (aAV a0.n).bind fun v2=>bif(!v2) then(some true) else((aAV a0.f).bind fun v5=>some (!v5))
theorem aDJ {a0:aF} {r:Bool} (hF:o7 a0=some r):Ct Tryz.prog 77 [.va (aF.enc a0)] (.vc (pB r)):=by
 unfold o7 at hF
 refine aJ Tryz.func77 rfl (by kernel_rfl) Tryz.ntmps77 rfl (fun w0 M0=>?_)
 refine aN (aU (cE rfl rfl trivial (fun b1=>?_)))
 obtain⟨v2,h3,hF⟩:=aY hF rN
 refine go ?_ ?_
 refine dC hF (fun h4 hF=>?_) (fun h4 hF=>?_)
 ·exact bQ
 obtain⟨v5,h6,hF⟩:=aY hF rN
 exact bQ
def q9 (K:Nat):Option Bool:=
 some true
def eO (K:Nat) (a0:List Rat) (a1:List Rat) (a2:(Rat×Rat→Option Bool)):Nat→Int→Option (LR Bool Unit)
 |0,_=>none
 |k+1,x3=>bif(decide (x3<(a0.length:Int))) then((bT a0 x3).bind fun v7=>(bT a1 x3).bind fun v10=>(a2 (v7,v10)).bind fun v13=>bif(!v13) then(some (.ret false)) else((aS (x3+1)).bind fun v16=>eO K a0 a1 a2 k v16)) else(some (.go ()))
def mK (K:Nat) (a0:List Rat) (a1:List Rat) (a2:(Rat×Rat→Option Bool)):Option Bool:=
 bif((a0.length:Int) != (a1.length:Int)) then(some false) else((eO K a0 a1 a2 K 0).bind fun o=>match o with| .ret r=>some r| .go _=>q9 K)
theorem aAy {K:Nat} {a0:List Rat} {a1:List Rat} {a2:(Rat×Rat→Option Bool)} {r:Bool} (hF:mK K a0 a1 a2=some r):Ct Tryz.prog 79 [.vc (pS cQ a0),.vc (pS cQ a1),.vc (pFn Tryz.prog (fun x:Rat×Rat=>[.va (eQ x.1),.va (eQ x.2)]) (fun r:Bool=>.vc (pB r)) a2)] (.vc (pB r)):=by
 unfold mK at hF
 refine aJ Tryz.func79 rfl (by kernel_rfl) Tryz.ntmps79 rfl (fun w0 M0=>?_)
 refine go ?_ ?_
 refine aL hF rfl (fun h1 hF=>?_) (fun h1 hF=>?_)
 ·exact bQ
 refine go ?_ ?_
 refine aQ (bY (fun H E=>q9 K=some r∧H=[]∧E=[]) ?_ (fun Jj5=>?_))
 ·rintro _ _ ⟨hF,rfl,rfl⟩
  unfold q9 at hF
  exact bQ
 obtain⟨ol4,hL,hRl4⟩:=a8 hF
 refine hY (fun k a w=>∃(x3:Int),eO K a0 a1 a2 k x3=some ol4∧hs _ [] [(1,.vc (pS cQ a1)),(2,.vc (pFn Tryz.prog (fun x:Rat×Rat=>[.va (eQ x.1),.va (eQ x.2)]) (fun r:Bool=>.vc (pB r)) a2)),(15,.vc (pS cQ a0)),(16,.vc (pI .i64 (a0.length:Int))),(17,.vc (pI .i64 x3))] a w) K (fun a w ⟨_,hF,_⟩=>by cases hF) (fun k a w ⟨x3,hF,hh⟩=>iA ?_ hh) (fun a w hh=>⟨0,hL,gJ [] hh⟩)
 rw [eO.eq_2] at hF
 refine go ?_ ?_
 refine aL hF rfl (fun h6 hF=>?_) (fun h6 hF=>?_)
 ·refine go ?_ ?_
  refine aQ ?_
  obtain⟨v7,h8,hF⟩:=a8 hF
  refine go ?_ ?_
  refine aO rfl tyZ44q (fun b9=>?_)
  obtain⟨v10,h11,hF⟩:=a8 hF
  refine go ?_ ?_
  refine aO rfl tyZ44q (fun b12=>?_)
  obtain⟨v13,h14,hF⟩:=a8 hF
  refine go ?_ ?_
  refine aX (aDh (pre:=fun x:Rat×Rat=>[.va (eQ x.1),.va (eQ x.2)]) (post:=fun r:Bool=>.vc (pB r)) (x:=(v7,v10)) (r:=v13) rfl h14 rfl) ⟨rfl,rfl,rfl,trivial⟩ ?_
  refine go ?_ ?_
  refine aL hF rfl (fun h15 hF=>?_) (fun h15 hF=>?_)
  ·exact bQ
  obtain⟨v16,h17,hF⟩:=a8 hF
  refine go ?_ ?_
  exact aM (fun a w hh=>⟨v16,hF,gJ [] hh⟩)
 refine cU ?_
 obtain rfl:=oN hF
 exact p9 Jj5 ⟨hRl4,rfl,rfl⟩ []
def jL (K:Nat) (a1:aA) (a3:aF) (v6:Int) (v8:Rat) (x16:Int):Option Bool:=
 (uI a3.n).bind fun v18=>bif(decide (v18<0)) then(some false) else(bif(decide (v6<0)) then(some false) else(bif(decide (0<v6)) then((uI a3.n).bind fun v23=>bif(decide (0<v23)) then(some false) else(bif((a1.t.length:Int)==0) then((uI a3.f).bind fun v27=>some (v27==0)) else(bif(decide (0<x16)) then((aAk v8).bind fun v32=>(uB a3.f v32).bind fun v34=>some v34) else(bif(decide (x16<0)) then((uB a3.f v8).bind fun v37=>some v37) else((aC8 a3.f v8).bind fun v41=>bif(decide (v41≤0)) then((aAk a3.f).bind fun v44=>(aC8 v44 v8).bind fun v46=>some (decide (v46≤0))) else(some false)))))) else(bif((a1.t.length:Int)==0) then((uI a3.f).bind fun v49=>some (v49==0)) else(bif(decide (0<x16)) then((aAk v8).bind fun v54=>(uB a3.f v54).bind fun v56=>some v56) else(bif(decide (x16<0)) then((uB a3.f v8).bind fun v59=>some v59) else((aC8 a3.f v8).bind fun v63=>bif(decide (v63≤0)) then((aAk a3.f).bind fun v66=>(aC8 v66 v8).bind fun v68=>some (decide (v68≤0))) else(some false)))))))
def pL (K:Nat) (a0:aH) (a1:aA) (a2:List Rat) (a3:aF):Option Bool:=
 (iH K a1.j a2).bind fun v4=>(uI v4).bind fun v6=>(xU a1.mu a3.n).bind fun v8=>(iH K a1.t a2).bind fun v11=>(uI v11).bind fun v13=>(lP K a0 a1).bind fun v70=>bif(v70 != 0) then(jL K a1 a3 v6 v8 v70) else(jL K a1 a3 v6 v8 v13)
theorem aBA {K:Nat} {a0:aH} {a1:aA} {a2:List Rat} {a3:aF} {r:Bool} (hF:pL K a0 a1 a2 a3=some r):Ct Tryz.prog 80 [.va (aH.enc a0),.va (aA.enc a1),.vc (pS cQ a2),.va (aF.enc a3)] (.vc (pB r)):=by
 unfold pL at hF
 refine aJ Tryz.func80 rfl (by kernel_rfl) Tryz.ntmps80 rfl (fun w0 M0=>?_)
 refine aN (aU (cE rfl rfl trivial (fun b1=>?_)))
 refine cE rfl rfl trivial (fun b2=>?_)
 refine cE rfl rfl trivial (fun b3=>?_)
 obtain⟨v4,h5,hF⟩:=aY hF lK
 obtain⟨v6,h7,hF⟩:=aY hF lA
 obtain⟨v8,h9,hF⟩:=aY hF s7
 refine go ?_ ?_
 refine aO rfl tyZ44q (fun b10=>?_)
 refine nZ (t_s 0 rfl rfl rfl tyA44.s) zU2 ?_
 refine bI (aP (aN (aU (aX (lN (off:=0) (k:=9) rfl tyF51_6) zU1 ?_))))
 refine aX (eV 2 1 rfl rfl rfl rfl (.one tyO49)) zU1 ?_
 refine nC ?_
 obtain⟨v11,h12,hF⟩:=aY hF lK
 refine aX (bV rfl h12 rfl) zU2 ?_
 obtain⟨v13,h14,hF⟩:=aY hF lA
 refine aX (bV rfl h14 rfl) zU1 ?_
 refine aAm ?_
 refine bI (aP (aN (uU (fun H E=>∃(x16:Int),jL K a1 a3 v6 v8 x16=some r∧H=[⟨some b10,1,44,4,1,(eQ v8)⟩,⟨some b3,1,58,8,1,(aF.enc a3)⟩,⟨some b2,1,51,18,1,(aA.enc a1)⟩]∧E=[(5,.vc (pP (some b2) 0)),(7,.vc (pP (some b3) 0)),(9,.vc (pI .i64 v6)),(10,.vc (pP (some b10) 0)),(11,.vc (pI .i64 x16))]) ?_ (fun Jj17=>?_))))
 ·rintro _ _ ⟨x16,hF,rfl,rfl⟩
  unfold jL at hF
  refine aN (aQ ?_)
  obtain⟨v18,h19,hF⟩:=aY hF lA
  refine go ?_ ?_
  refine dC hF (fun h20 hF=>?_) (fun h20 hF=>?_)
  ·refine go ?_ ?_
   refine gV rfl ?_
   exact bQ
  refine go ?_ ?_
  refine dC hF (fun h21 hF=>?_) (fun h21 hF=>?_)
  ·refine go ?_ ?_
   refine gV rfl ?_
   exact bQ
  refine go ?_ ?_
  refine dC hF (fun h22 hF=>?_) (fun h22 hF=>?_)
  ·obtain⟨v23,h24,hF⟩:=aY hF lA
   refine go ?_ ?_
   refine aL hF rfl (fun h25 hF=>?_) (fun h25 hF=>?_)
   ·exact bQ
   refine go ?_ ?_
   refine aL hF rfl (fun h26 hF=>?_) (fun h26 hF=>?_)
   ·obtain⟨v27,h28,hF⟩:=aY hF lA
    exact bQ
   refine go ?_ ?_
   refine aL hF rfl (fun h29 hF=>?_) (fun h29 hF=>?_)
   ·refine aN ?_
    obtain⟨v32,h33,hF⟩:=aY hF rZ
    obtain⟨v34,h35,hF⟩:=aY hF rF
    refine dr [0,1,0,4,15,31] 6 0 ?_ (fun bs31 G30=>?_)
    refine bI (aP ?_)
    exact bQ
   refine go ?_ ?_
   refine aL hF rfl (fun h36 hF=>?_) (fun h36 hF=>?_)
   ·obtain⟨v37,h38,hF⟩:=aY hF rF
    exact bQ
   obtain⟨v41,h42,hF⟩:=aY hF uC
   refine go ?_ ?_
   rcases Bool.eq_false_or_eq_true (decide (v41≤0)) with h43|h43
   ·have hF:=sR h43 hF
    obtain⟨v44,h45,hF⟩:=aY hF rZ
    obtain⟨v46,h47,hF⟩:=aY hF uC
    refine drb [0,1,0,7,15,31,63,127,255,63,1023,2047,4095,8191] 14 0 ?_ (fun bs40 G39=>?_)
    refine bI (aP ?_)
    exact bQ
   have hF:=sP h43 hF
   refine drb [0,1,0,7,15,31,63,127,255,63,1023,2047,4095,8191] 14 0 ?_ (fun bs40 G39=>?_)
   refine bI (aP ?_)
   exact bQ
  refine go ?_ ?_
  refine sS rfl ?_
  refine go ?_ ?_
  refine aL hF rfl (fun h48 hF=>?_) (fun h48 hF=>?_)
  ·obtain⟨v49,h50,hF⟩:=aY hF lA
   exact bQ
  refine go ?_ ?_
  refine aL hF rfl (fun h51 hF=>?_) (fun h51 hF=>?_)
  ·refine aN ?_
   obtain⟨v54,h55,hF⟩:=aY hF rZ
   obtain⟨v56,h57,hF⟩:=aY hF rF
   refine dr [0,1,0,4,15,31] 6 0 ?_ (fun bs53 G52=>?_)
   refine bI (aP ?_)
   exact bQ
  refine go ?_ ?_
  refine aL hF rfl (fun h58 hF=>?_) (fun h58 hF=>?_)
  ·obtain⟨v59,h60,hF⟩:=aY hF rF
   exact bQ
  obtain⟨v63,h64,hF⟩:=aY hF uC
  refine go ?_ ?_
  rcases Bool.eq_false_or_eq_true (decide (v63≤0)) with h65|h65
  ·have hF:=sR h65 hF
   obtain⟨v66,h67,hF⟩:=aY hF rZ
   obtain⟨v68,h69,hF⟩:=aY hF uC
   refine drb [0,1,0,7,15,31,63,127,255,63,1023,2047,4095,8191] 14 0 ?_ (fun bs62 G61=>?_)
   refine bI (aP ?_)
   exact bQ
  have hF:=sP h65 hF
  refine drb [0,1,0,7,15,31,63,127,255,63,1023,2047,4095,8191] 14 0 ?_ (fun bs62 G61=>?_)
  refine bI (aP ?_)
  exact bQ
 obtain⟨v70,h71,hF⟩:=aY hF uT
 refine go ?_ ?_
 refine aL hF rfl (fun h72 hF=>?_) (fun h72 hF=>?_)
 ·refine aU (nC ?_)
  refine aAm ?_
  refine bI ?_
  exact p9 Jj17 ⟨v70,hF,rfl,rfl⟩ [0,1,2]
 refine iR ?_
 exact p9 Jj17 ⟨v13,hF,rfl,rfl⟩ [0,1,2]
def wT (K:Nat):Option Int:=
 some 0
def mU (K:Nat) (a0:List aG) (a1:List Rat) (a2:List Rat) (a3:List aA) (a4:List Rat) (a5:List aF):Nat→Int→Option (LR Int Unit)
 |0,_=>none
 |k+1,x19=>bif(decide (x19<(a3.length:Int))) then((bT a3 x19).bind fun v23=>(bT a5 x19).bind fun v28=>(pL K (⟨a0,a1,a2,a3⟩:aH) v23 a4 v28).bind fun v30=>bif(!v30) then(some (.ret 18)) else((aS (x19+1)).bind fun v33=>mU K a0 a1 a2 a3 a4 a5 k v33)) else(some (.go ()))
def gF (K:Nat) (a0:List aG) (a1:List Rat) (a2:List Rat) (a3:List aA) (a4:List Rat) (a5:List aF):Option Int:=
 (nU K (⟨a0,a1,a2,a3⟩:aH)).bind fun v2=>bif(!v2) then(some 1) else(bif((a4.length:Int) != (a0.length:Int)) then(some 18) else(bif((a5.length:Int) != (a3.length:Int)) then(some 18) else((pW K a4).bind fun v7=>bif(!v7) then(some 18) else((kA K a5 (o7)).bind fun v10=>bif v10 then(some 18) else((bM K (⟨a0,a1,a2,a3⟩:aH) a1 a5).bind fun v13=>(mK K a4 v13 (fun x=>uB x.1 x.2)).bind fun v15=>bif(!v15) then(some 18) else((mU K a0 a1 a2 a3 a4 a5 K 0).bind fun o=>match o with| .ret r=>some r| .go _=>wT K))))))
theorem qD {K:Nat} {a0:List aG} {a1:List Rat} {a2:List Rat} {a3:List aA} {a4:List Rat} {a5:List aF} {r:Int} (hF:gF K a0 a1 a2 a3 a4 a5=some r):Ct Tryz.prog 19 [.vc (pS aG.cod a0),.vc (pS cQ a1),.vc (pS cQ a2),.vc (pS aA.cod a3),.vc (pS cQ a4),.vc (pS aF.cod a5)] (.vc (pI .i64 r)):=by
 unfold gF at hF
 refine aJ Tryz.func19 rfl (by kernel_rfl) Tryz.ntmps19 rfl (fun w0 M0=>?_)
 refine go ?_ ?_
 refine aX (cR (is:=[0,1,2,3]) (xs:=[.tmp 16,.tmp 17,.tmp 18,.tmp 19]) (ps:=[.vc (pS aG.cod a0),.vc (pS cQ a1),.vc (pS cQ a2),.vc (pS aA.cod a3)]) rfl tyB113q rfl rfl ⟨trivial,trivial,trivial,trivial,trivial⟩ rfl) ⟨rfl,rfl,rfl,rfl,trivial⟩ ?_
 refine aO rfl tyZ113q (fun b1=>?_)
 refine go ?_ ?_
 refine aQ ?_
 obtain⟨v2,h3,hF⟩:=aY hF yG
 refine go ?_ ?_
 refine aL hF rfl (fun h4 hF=>?_) (fun h4 hF=>?_)
 ·exact bQ
 refine go ?_ ?_
 refine dC hF (fun h5 hF=>?_) (fun h5 hF=>?_)
 ·refine go ?_ ?_
  refine gV rfl ?_
  exact bQ
 refine go ?_ ?_
 refine dC hF (fun h6 hF=>?_) (fun h6 hF=>?_)
 ·refine go ?_ ?_
  refine gV rfl ?_
  exact bQ
 obtain⟨v7,h8,hF⟩:=aY hF z5
 refine go ?_ ?_
 refine aL hF rfl (fun h9 hF=>?_) (fun h9 hF=>?_)
 ·exact bQ
 obtain⟨v10,h11,hF⟩:=aY hF yO
 refine go ?_ ?_
 refine aX (bV rfl h11 rfl) ⟨rfl,(aOg (P:=Tryz.prog) (φ:=(o7)) (pre:=fun x:aF=>[.va (aF.enc x)]) (post:=fun r:Bool=>.vc (pB r)) (fun x r h=>aDJ h)),trivial⟩ ?_
 refine go ?_ ?_
 refine aL hF rfl (fun h12 hF=>?_) (fun h12 hF=>?_)
 ·exact bQ
 obtain⟨v13,h14,hF⟩:=aY hF cX
 obtain⟨v15,h16,hF⟩:=aY hF aAy
 refine go ?_ ?_
 refine aX (bV rfl h16 rfl) ⟨rfl,rfl,(aOg (P:=Tryz.prog) (φ:=(fun x=>uB x.1 x.2)) (pre:=fun x:Rat×Rat=>[.va (eQ x.1),.va (eQ x.2)]) (post:=fun r:Bool=>.vc (pB r)) (fun x r h=>rF h)),trivial⟩ ?_
 refine go ?_ ?_
 refine aL hF rfl (fun h17 hF=>?_) (fun h17 hF=>?_)
 ·exact bQ
 refine go ?_ ?_
 refine aQ (bY (fun H E=>wT K=some r∧H=[]∧E=[]) ?_ (fun Jj21=>?_))
 ·rintro _ _ ⟨hF,rfl,rfl⟩
  unfold wT at hF
  exact bQ
 obtain⟨ol20,hL,hRl20⟩:=a8 hF
 refine hY (fun k a w=>∃(x19:Int),mU K a0 a1 a2 a3 a4 a5 k x19=some ol20∧hs _ [⟨some b1,1,113,4,1,([pS aG.cod a0]++[pS cQ a1]++[pS cQ a2]++[pS aA.cod a3])⟩] [(4,.vc (pS cQ a4)),(5,.vc (pS aF.cod a5)),(13,.vc (pP (some b1) 0)),(54,.vc (pS aA.cod a3)),(55,.vc (pI .i64 (a3.length:Int))),(56,.vc (pI .i64 x19))] a w) K (fun a w ⟨_,hF,_⟩=>by cases hF) (fun k a w ⟨x19,hF,hh⟩=>iA ?_ hh) (fun a w hh=>⟨0,hL,gJ [0] hh⟩)
 rw [mU.eq_2] at hF
 refine go ?_ ?_
 refine aL hF rfl (fun h22 hF=>?_) (fun h22 hF=>?_)
 ·refine go ?_ ?_
  refine aQ ?_
  obtain⟨v23,h24,hF⟩:=a8 hF
  refine go ?_ ?_
  refine aO rfl tyZ51q (fun b25=>?_)
  obtain⟨v28,h29,hF⟩:=a8 hF
  obtain⟨v30,h31,hF⟩:=aY hF aBA
  refine go ?_ ?_
  refine dr [0,0,0,0,0,24,56,127,255] 9 0 ?_ (fun bs27 G26=>?_)
  refine bI (aP (aL hF rfl (fun h32 hF=>?_) (fun h32 hF=>?_)))
  ·exact bQ
  obtain⟨v33,h34,hF⟩:=a8 hF
  refine go ?_ ?_
  exact aM (fun a w hh=>⟨v33,hF,gJ [1] hh⟩)
 refine cU ?_
 obtain rfl:=oN hF
 exact p9 Jj21 ⟨hRl20,rfl,rfl⟩ []
def nY (a0:List Rat) (a1:List aF) (a2:Int) (a3:Int) (a4:Int):Option ((List Rat)×(List aF)):=
 (pA ([]:List Rat) a0).bind fun x4=>(pA ([]:List aF) a1).bind fun x14=>(dD a4 7).bind fun v21=>(aS (v21-3)).bind fun v23=>(w7 a4 7).bind fun v25=>(dD v25 3).bind fun v27=>(aS (1+v27)).bind fun v29=>(zK v23 v29).bind fun v31=>(dD a2 5).bind fun v34=>bif(v34==0) then(bif(decide (0<(x4.length:Int))) then((dD a3 (x4.length:Int)).bind fun v40=>(bT x4 v40).bind fun v42=>(pC x4 v40 v31).bind fun x44=>some (x44,x14)) else(some (x4,x14))) else(bif(v34==1) then(bif(decide (0<(x14.length:Int))) then((dD a3 (x14.length:Int)).bind fun v51=>(bT x14 v51).bind fun v53=>(pC x14 v51 (⟨v31,v53.f⟩:aF)).bind fun x55=>some (x4,x55)) else(some (x4,x14))) else(bif(v34==2) then(bif(decide (0<(x14.length:Int))) then((dD a3 (x14.length:Int)).bind fun v62=>(bT x14 v62).bind fun v64=>(pC x14 v62 (⟨v64.n,v31⟩:aF)).bind fun x66=>some (x4,x66)) else(some (x4,x14))) else(bif(v34==3) then((pA x4 [v31]).bind fun x70=>some (x70,x14)) else((pA x14 [(⟨0,0⟩:aF)]).bind fun x77=>some (x4,x77)))))
theorem yF {a0:List Rat} {a1:List aF} {a2:Int} {a3:Int} {a4:Int} {r:(List Rat)×(List aF)} (hF:nY a0 a1 a2 a3 a4=some r):Ct Tryz.prog 20 [.vc (pS cQ a0),.vc (pS aF.cod a1),.vc (pI .i64 a2),.vc (pI .i64 a3),.vc (pI .i64 a4)] (.t2 (.vc (pS cQ r.1)) (.vc (pS aF.cod r.2))):=by
 unfold nY at hF
 refine aJ Tryz.func20 rfl (by kernel_rfl) Tryz.ntmps20 rfl (fun w0 M0=>?_)
 refine aN (aU (aX (bP (.inr rfl)) ⟨d9 cQ,trivial⟩ ?_))
 refine aX (bP (.inr rfl)) ⟨d9 aF.cod,trivial⟩ ?_
 refine go ?_ ?_
 refine aEZ (yW (C:=cQ) (xs:=[]) (ps:=[]) (zs:=([]:List Rat)) rfl tyS24 rfl trivial rfl) trivial (fun b1 _=>?_)
 refine nC ?_
 obtain⟨x4,h5,hF⟩:=a8 hF
 refine lY 0 rfl tyS24 rfl rfl rfl rfl rfl h5 (fun b6 c7 H8 e9=>?_)
 cases e9
 refine go ?_ ?_
 refine aEZ (yW (C:=aF.cod) (xs:=[]) (ps:=[]) (zs:=([]:List aF)) rfl tyS29 rfl trivial rfl) trivial (fun b11 _=>?_)
 refine nC ?_
 obtain⟨x14,h15,hF⟩:=a8 hF
 refine lY 0 rfl tyS29 rfl rfl rfl rfl rfl h15 (fun b16 c17 H18 e19=>?_)
 cases e19
 obtain⟨v21,h22,hF⟩:=aY hF gL
 obtain⟨v23,h24,v25,h26,hF⟩:=wK hF
 obtain⟨v27,h28,hF⟩:=aY hF gL
 obtain⟨v29,h30,hF⟩:=a8 hF
 obtain⟨v31,h32,hF⟩:=aY hF bR
 refine go ?_ ?_
 refine aO rfl tyZ44q (fun b33=>?_)
 obtain⟨v34,h35,hF⟩:=aY hF gL
 refine go ?_ ?_
 refine aQ (go ?_ ?_)
 refine aL hF rfl (fun h36 hF=>?_) (fun h36 hF=>?_)
 ·refine go ?_ ?_
  refine aX (aA4 (C:=cQ) (xs:=x4) (T:=44) rfl tyS24 (bF h5 rfl)) zU1 ?_
  refine go ?_ ?_
  refine aL hF rfl (fun h37 hF=>?_) (fun h37 hF=>?_)
  ·obtain⟨v40,h41,hF⟩:=aY hF gL
   obtain⟨v42,h43,hF⟩:=a8 hF
   refine jJ [0,0,0,4,14,0,63,127] 7 1 [.v (.vc (pO b6 (0+a0.length) c7)),.v (.vc (pI .i64 a3)),.v (.vc (pO b6 (0+a0.length) c7)),.v (.vc (pI .i64 (x4.length:Int))),.v (.vc (pI .i64 v40)),.v (.va (eQ v31)),.v (.vc (pE b6 v40 cQ.n 0))] bA ⟨d0 (bP (.inl rfl)) zU1,d0 (bP (.inl rfl)) zU1,d0 (bP (.inl rfl)) zU1,d0 (aA4 (C:=cQ) (xs:=x4) (T:=44) rfl tyS24 (bF h5 rfl)) zU1,d0 (bV rfl h41 rfl) zU2,d0 (eV 0 4 rfl rfl rfl rfl (.agg tyA44)) zU1,d0 (l9 (C:=cQ) 2 rfl tyS24 rfl (bF h5 rfl) (aV h43).1 (aV h43).2.1) zU2,trivial⟩ (fun bs39 G38=>?_)
   obtain⟨x44,h45,hF⟩:=a8 hF
   refine go ?_ ?_
   refine pU (pG (oI 2 [10,12,17,37,40,42,79] rfl (bL h45 (bF h5 rfl)) ⟨rfl,rfl,rfl,rfl,rfl,rfl,rfl,trivial⟩ rfl ?_))
   refine oI 1 [11,13,20,80] rfl (bF h15 rfl) ⟨rfl,rfl,rfl,rfl,trivial⟩ rfl ?_
   obtain rfl:=oN hF
   exact mT (.inl rfl) Tryz.results20 (.tmp rfl (.tmp rfl .nil)) rfl rfl
  refine go ?_ ?_
  refine pU (pG (oI 2 [10,12,17,37,79] rfl (bF h5 rfl) ⟨rfl,rfl,rfl,rfl,rfl,trivial⟩ rfl ?_))
  refine oI 1 [11,13,20,80] rfl (bF h15 rfl) ⟨rfl,rfl,rfl,rfl,trivial⟩ rfl ?_
  obtain rfl:=oN hF
  exact mT (.inl rfl) Tryz.results20 (.tmp rfl (.tmp rfl .nil)) rfl rfl
 refine go ?_ ?_
 refine aL hF rfl (fun h47 hF=>?_) (fun h47 hF=>?_)
 ·refine go ?_ ?_
  refine aX (aA4 (C:=aF.cod) (xs:=x14) (T:=58) rfl tyS29 (bF h15 rfl)) zU1 ?_
  refine go ?_ ?_
  refine aL hF rfl (fun h48 hF=>?_) (fun h48 hF=>?_)
  ·obtain⟨v51,h52,hF⟩:=aY hF gL
   obtain⟨v53,h54,hF⟩:=a8 hF
   refine jJ [0,0,0,4,14,0,63,127,255] 8 1 [.v (.vc (pO b16 (0+a1.length) c17)),.v (.vc (pI .i64 a3)),.v (.vc (pO b16 (0+a1.length) c17)),.v (.vc (pI .i64 (x14.length:Int))),.v (.vc (pI .i64 v51)),.v (.va (eQ v31)),.v (.vc (pE b16 v51 aF.cod.n 0)),.v (.vc (pE b16 v51 aF.cod.n 0))] bA ⟨d0 (bP (.inl rfl)) zU1,d0 (bP (.inl rfl)) zU1,d0 (bP (.inl rfl)) zU1,d0 (aA4 (C:=aF.cod) (xs:=x14) (T:=58) rfl tyS29 (bF h15 rfl)) zU1,d0 (bV rfl h52 rfl) zU2,d0 (eV 0 4 rfl rfl rfl rfl (.agg tyA44)) zU1,d0 (l9 (C:=aF.cod) 1 rfl tyS29 rfl (bF h15 rfl) (aV h54).1 (aV h54).2.1) zU2,d0 (aHK (off:=0) (k:=0) rfl tyF58_0) zU1,trivial⟩ (fun bs50 G49=>?_)
   obtain⟨x55,h56,hF⟩:=a8 hF
   refine go ?_ ?_
   refine pU (pG (oI 2 [10,12,17,79] rfl (bF h5 rfl) ⟨rfl,rfl,rfl,rfl,trivial⟩ rfl ?_))
   refine oI 1 [11,13,20,49,52,54,80] rfl (bL h56 (bF h15 rfl)) ⟨rfl,rfl,rfl,rfl,rfl,rfl,rfl,trivial⟩ rfl ?_
   obtain rfl:=oN hF
   exact mT (.inl rfl) Tryz.results20 (.tmp rfl (.tmp rfl .nil)) rfl rfl
  refine go ?_ ?_
  refine pU (pG (oI 2 [10,12,17,79] rfl (bF h5 rfl) ⟨rfl,rfl,rfl,rfl,trivial⟩ rfl ?_))
  refine oI 1 [11,13,20,49,80] rfl (bF h15 rfl) ⟨rfl,rfl,rfl,rfl,rfl,trivial⟩ rfl ?_
  obtain rfl:=oN hF
  exact mT (.inl rfl) Tryz.results20 (.tmp rfl (.tmp rfl .nil)) rfl rfl
 refine go ?_ ?_
 refine aL hF rfl (fun h58 hF=>?_) (fun h58 hF=>?_)
 ·refine go ?_ ?_
  refine aX (aA4 (C:=aF.cod) (xs:=x14) (T:=58) rfl tyS29 (bF h15 rfl)) zU1 ?_
  refine go ?_ ?_
  refine aL hF rfl (fun h59 hF=>?_) (fun h59 hF=>?_)
  ·obtain⟨v62,h63,hF⟩:=aY hF gL
   obtain⟨v64,h65,hF⟩:=a8 hF
   refine jJ [0,0,0,4,14,0,63,127,255] 8 1 [.v (.vc (pO b16 (0+a1.length) c17)),.v (.vc (pI .i64 a3)),.v (.vc (pO b16 (0+a1.length) c17)),.v (.vc (pI .i64 (x14.length:Int))),.v (.vc (pI .i64 v62)),.v (.va (eQ v31)),.v (.vc (pE b16 v62 aF.cod.n 0)),.v (.vc (pE b16 v62 aF.cod.n 4))] bA ⟨d0 (bP (.inl rfl)) zU1,d0 (bP (.inl rfl)) zU1,d0 (bP (.inl rfl)) zU1,d0 (aA4 (C:=aF.cod) (xs:=x14) (T:=58) rfl tyS29 (bF h15 rfl)) zU1,d0 (bV rfl h63 rfl) zU2,d0 (eV 0 4 rfl rfl rfl rfl (.agg tyA44)) zU1,d0 (l9 (C:=aF.cod) 1 rfl tyS29 rfl (bF h15 rfl) (aV h65).1 (aV h65).2.1) zU2,d0 (aHK (off:=0) (k:=4) rfl tyF58_1) zU1,trivial⟩ (fun bs61 G60=>?_)
   obtain⟨x66,h67,hF⟩:=a8 hF
   refine go ?_ ?_
   refine pU (pG (oI 2 [10,12,17,79] rfl (bF h5 rfl) ⟨rfl,rfl,rfl,rfl,trivial⟩ rfl ?_))
   refine oI 1 [11,13,20,62,65,67,80] rfl (bL h67 (bF h15 rfl)) ⟨rfl,rfl,rfl,rfl,rfl,rfl,rfl,trivial⟩ rfl ?_
   obtain rfl:=oN hF
   exact mT (.inl rfl) Tryz.results20 (.tmp rfl (.tmp rfl .nil)) rfl rfl
  refine go ?_ ?_
  refine pU (pG (oI 2 [10,12,17,79] rfl (bF h5 rfl) ⟨rfl,rfl,rfl,rfl,trivial⟩ rfl ?_))
  refine oI 1 [11,13,20,62,80] rfl (bF h15 rfl) ⟨rfl,rfl,rfl,rfl,rfl,trivial⟩ rfl ?_
  obtain rfl:=oN hF
  exact mT (.inl rfl) Tryz.results20 (.tmp rfl (.tmp rfl .nil)) rfl rfl
 refine go ?_ ?_
 refine aL hF rfl (fun h69 hF=>?_) (fun h69 hF=>?_)
 ·refine go ?_ ?_
  refine aX (kT (C:=cQ) (xs:=[.tmp 76]) (ps:=[.va (eQ v31)]) (zs:=[v31]) rfl tyS24 rfl ⟨⟨trivial,rfl⟩,trivial⟩ rfl) zU1 ?_
  obtain⟨x70,h71,hF⟩:=a8 hF
  refine lY 2 rfl tyS24 rfl rfl (bF h5 rfl) rfl rfl h71 (fun b72 c73 H74 e75=>?_)
  cases e75
  refine go ?_ ?_
  refine pU (pG (oI 2 [10,12,78,79] rfl (bF h71 (bF h5 rfl)) ⟨rfl,rfl,rfl,rfl,trivial⟩ rfl ?_))
  refine oI 1 [11,13,20,80] rfl (bF h15 rfl) ⟨rfl,rfl,rfl,rfl,trivial⟩ rfl ?_
  obtain rfl:=oN hF
  exact mT (.inl rfl) Tryz.results20 (.tmp rfl (.tmp rfl .nil)) rfl rfl
 refine aU (nC ?_)
 refine aX (cR (is:=[]) (xs:=[]) (ps:=[]) rfl tyB58q rfl rfl trivial rfl) trivial ?_
 refine aX (kT (C:=aF.cod) (xs:=[.tmp 32]) (ps:=[.va ((eQ 0)++(eQ 0))]) (zs:=[(⟨0,0⟩:aF)]) rfl tyS29 rfl ⟨⟨trivial,rfl⟩,trivial⟩ rfl) zU1 ?_
 obtain⟨x77,h78,hF⟩:=a8 hF
 refine lY 1 rfl tyS29 rfl rfl (bF h15 rfl) rfl rfl h78 (fun b79 c80 H81 e82=>?_)
 cases e82
 refine go ?_ ?_
 refine pU (pG (oI 2 [10,12,17,79] rfl (bF h5 rfl) ⟨rfl,rfl,rfl,rfl,trivial⟩ rfl ?_))
 refine oI 1 [11,13,34,80] rfl (bF h78 (bF h15 rfl)) ⟨rfl,rfl,rfl,rfl,trivial⟩ rfl ?_
 obtain rfl:=oN hF
 exact mT (.inl rfl) Tryz.results20 (.tmp rfl (.tmp rfl .nil)) rfl rfl
def qX (K:Nat) (x26:List Rat):Option (List Rat):=
 some x26
def jA (K:Nat) (a1:List aC) (a2:Rat):Nat→(List Rat)→Int→Option (List Rat)
 |0,_,_=>none
 |k+1,x19,x25=>bif(decide (x25<(a1.length:Int))) then((bT a1 x25).bind fun v37=>(bT a1 x25).bind fun v39=>(bT x19 v39.dof).bind fun v41=>(bT a1 x25).bind fun v43=>(xU v43.k a2).bind fun v45=>(aCC v41 v45).bind fun v47=>(bT x19 v37.dof).bind fun v49=>(pC x19 v37.dof v47).bind fun x51=>(aS (x25+1)).bind fun v54=>jA K a1 a2 k x51 v54) else(some x19)
def oQ (K:Nat) (a0:List Rat) (a1:List aC) (a2:Rat):Option (List Rat):=
 (pA ([]:List Rat) a0).bind fun x5=>(jA K a1 a2 K x5 0).bind fun x26=>qX K x26
theorem y9 {K:Nat} {a0:List Rat} {a1:List aC} {a2:Rat} {r:List Rat} (hF:oQ K a0 a1 a2=some r):Ct Tryz.prog 174 [.vc (pS cQ a0),.vc (pS aC.cod a1),.va (eQ a2)] (.vc (pS cQ r)):=by
 unfold oQ at hF
 refine aJ Tryz.func174 rfl (by kernel_rfl) Tryz.ntmps174 rfl (fun w0 M0=>?_)
 refine aN (aU (cE rfl rfl trivial (fun b1=>?_)))
 refine aX (bP (.inr rfl)) ⟨d9 cQ,trivial⟩ ?_
 refine go ?_ ?_
 refine aEZ (yW (C:=cQ) (xs:=[]) (ps:=[]) (zs:=([]:List Rat)) rfl tyS24 rfl trivial rfl) trivial (fun b2 _=>?_)
 refine nC ?_
 obtain⟨x5,h6,hF⟩:=a8 hF
 refine lY 0 rfl tyS24 rfl rfl rfl rfl rfl h6 (fun b7 c8 H9 e10=>?_)
 cases e10
 refine go ?_ ?_
 refine aQ (bY (fun H E=>∃(x26:List Rat),qX K x26=some r∧x26.length=(0+a0.length)∧H=[hO cQ b7 c8 44 (0+a0.length) x26]∧E=[(7,.vc (pO b7 (0+a0.length) c8))]) ?_ (fun Jj33=>?_))
 ·rintro _ _ ⟨x26,hF,q30,rfl,rfl⟩
  unfold qX at hF
  refine go ?_ ?_
  refine pU (pG (oI 0 [6,7,41] rfl q30 ⟨rfl,rfl,rfl,trivial⟩ rfl ?_))
  obtain rfl:=oN hF
  exact mT (.inl rfl) Tryz.results174 (.tmp rfl .nil) rfl rfl
 obtain⟨x26',hL,hRl32⟩:=a8 hF
 refine hY (fun k a w=>∃(x19:List Rat),∃(x25:Int),jA K a1 a2 k x19 x25=some x26'∧x19.length=(0+a0.length)∧hs _ [hO cQ b7 c8 44 (0+a0.length) x19,⟨some b1,1,44,4,1,(eQ a2)⟩] [(1,.vc (pS aC.cod a1)),(5,.vc (pP (some b1) 0)),(7,.vc (pO b7 (0+a0.length) c8)),(8,.vc (pI .i64 x25))] a w) K (fun a w ⟨_,_,hF,_,_⟩=>by cases hF) (fun k a w ⟨x19,x25,hF,q23,hh⟩=>iA ?_ hh) (fun a w hh=>⟨x5,0,hL,(bF h6 rfl),gJ [0,1] hh⟩)
 rw [jA.eq_2] at hF
 refine go ?_ ?_
 refine aL hF rfl (fun h34 hF=>?_) (fun h34 hF=>?_)
 ·refine go ?_ ?_
  refine aQ ?_
  obtain⟨v37,h38,hF⟩:=a8 hF
  have hF:=r7 h38 hF
  obtain⟨v41,h42,hF⟩:=a8 hF
  have hF:=r7 h38 hF
  obtain⟨v45,h46,hF⟩:=aY hF lQ
  obtain⟨v47,h48,hF⟩:=aY hF vQ
  have hF:=r7 h42 hF
  refine dr [0,0,0,6,14,30,0,0,0,384,896,1920,4032,8128,0,0,49152,114688,245760,0,1032192,2097088,4194303,8388607] 23 1 ?_ (fun bs36 G35=>?_)
  obtain⟨x51,h52,v54,h55,hF⟩:=wK hF
  refine go ?_ ?_
  exact aM (fun a w hh=>⟨x51,v54,hF,(bL h52 q23),gJ [0,1] hh⟩)
 refine cU ?_
 obtain rfl:=oN hF
 exact p9 Jj33 ⟨x19,hRl32,q23,rfl,rfl⟩ [0]
def qU (K:Nat) (x10:List Rat):Option (List Rat):=
 some x10
def jB (K:Nat) (a1:List aA) (a2:List aF):Nat→(List Rat)→Int→Option (List Rat)
 |0,_,_=>none
 |k+1,x8,x9=>bif(decide (x9<(a1.length:Int))) then((bT a1 x9).bind fun v16=>(bT a2 x9).bind fun v18=>(oQ K x8 v16.j v18.n).bind fun v20=>(bT a1 x9).bind fun v22=>(bT a2 x9).bind fun v24=>(oQ K v20 v22.t v24.f).bind fun v26=>(aS (x9+1)).bind fun v28=>jB K a1 a2 k v26 v28) else(some x8)
def tY (K:Nat) (a0:Int) (a1:List aA) (a2:List aF):Option (List Rat):=
 (wJ a0 0).bind fun x1=>(jB K a1 a2 K x1 0).bind fun x10=>qU K x10
theorem aCz {K:Nat} {a0:Int} {a1:List aA} {a2:List aF} {r:List Rat} (hF:tY K a0 a1 a2=some r):Ct Tryz.prog 85 [.vc (pI .i64 a0),.vc (pS aA.cod a1),.vc (pS aF.cod a2)] (.vc (pS cQ r)):=by
 unfold tY at hF
 refine aJ Tryz.func85 rfl (by kernel_rfl) Tryz.ntmps85 rfl (fun w0 M0=>?_)
 refine aN (aU (aX (bP (.inr rfl)) ⟨d9 cQ,trivial⟩ ?_))
 obtain⟨x1,h2,hF⟩:=a8 hF
 refine go ?_ ?_
 refine tD (C:=cQ) rfl tyS24 rfl tyZ44q rfl h2 (fun b3=>?_)
 refine go ?_ ?_
 refine aQ (aFm 0 [7,10] rfl rfl zU2 rfl ?_)
 refine bY (fun H E=>∃(x10:List Rat),qU K x10=some r∧H=[]∧E=[(7,.vc (pS cQ x10))]) ?_ (fun Jj12=>?_)
 ·rintro _ _ ⟨x10,hF,rfl,rfl⟩
  unfold qU at hF
  exact bQ
 obtain⟨x10',hL,hRl11⟩:=a8 hF
 refine hY (fun k a w=>∃(x8:List Rat),∃(x9:Int),jB K a1 a2 k x8 x9=some x10'∧hs _ [] [(1,.vc (pS aA.cod a1)),(2,.vc (pS aF.cod a2)),(7,.vc (pS cQ x8)),(8,.vc (pI .i64 x9))] a w) K (fun a w ⟨_,_,hF,_⟩=>by cases hF) (fun k a w ⟨x8,x9,hF,hh⟩=>iA ?_ hh) (fun a w hh=>⟨x1,0,hL,gJ [] hh⟩)
 rw [jB.eq_2] at hF
 refine go ?_ ?_
 refine aL hF rfl (fun h13 hF=>?_) (fun h13 hF=>?_)
 ·refine go ?_ ?_
  refine aQ ?_
  obtain⟨v16,h17,hF⟩:=a8 hF
  obtain⟨v18,h19,hF⟩:=a8 hF
  obtain⟨v20,h21,hF⟩:=aY hF y9
  have hF:=r7 h17 hF
  have hF:=r7 h19 hF
  obtain⟨v26,h27,hF⟩:=aY hF y9
  refine dr [0,0,0,6,14,30,0,0,192,448,960,2047,0,0,12288,28672,61440,0,0,393216,917504,1966080,4194303,8388607] 24 0 ?_ (fun bs15 G14=>?_)
  obtain⟨v28,h29,hF⟩:=a8 hF
  refine go ?_ ?_
  exact aM (fun a w hh=>⟨v26,v28,hF,gJ [] hh⟩)
 refine cU ?_
 obtain rfl:=oN hF
 exact p9 Jj12 ⟨x8,hRl11,rfl,rfl⟩ []
def jP (K:Nat) (x19:List Rat):Option (List Rat):=
 some x19
def dP (K:Nat) (a0:List aG) (a1:List Rat) (v1:List Rat):Nat→(List Rat)→Int→Option (List Rat)
 |0,_,_=>none
 |k+1,x12,x18=>bif(decide (x18<(a0.length:Int))) then((bT a0 x18).bind fun v30=>(bT a1 x18).bind fun v32=>(bT v1 x18).bind fun v34=>(aCC v32 v34).bind fun v36=>(xU v30.inv v36).bind fun v38=>(pA x12 [v38]).bind fun x40=>(aS (x18+1)).bind fun v47=>dP K a0 a1 v1 k x40 v47) else(some x12)
def dH (K:Nat) (a0:List aG) (a1:List Rat) (a2:List aA) (a3:List aF):Option (List Rat):=
 (tY K (a0.length:Int) a2 a3).bind fun v1=>(dP K a0 a1 v1 K ([]:List Rat) 0).bind fun x19=>jP K x19
theorem o9 {K:Nat} {a0:List aG} {a1:List Rat} {a2:List aA} {a3:List aF} {r:List Rat} (hF:dH K a0 a1 a2 a3=some r):Ct Tryz.prog 22 [.vc (pS aG.cod a0),.vc (pS cQ a1),.vc (pS aA.cod a2),.vc (pS aF.cod a3)] (.vc (pS cQ r)):=by
 unfold dH at hF
 refine aJ Tryz.func22 rfl (by kernel_rfl) Tryz.ntmps22 rfl (fun w0 M0=>?_)
 refine aN (aU (aX (bP (.inr rfl)) ⟨d9 cQ,trivial⟩ ?_))
 refine bI (aP (aN (aU (nC ?_))))
 refine aX (vG rfl tyS23) zU1 ?_
 refine nC ?_
 refine nC ?_
 obtain⟨v1,h2,hF⟩:=aY hF aCz
 refine aX (bV rfl h2 rfl) ⟨rfl,rfl,rfl,trivial⟩ ?_
 refine aAm ?_
 refine bI (aP (aN (aU (yS cQ 44 rfl ?_))))
 refine go ?_ ?_
 refine aQ (bY (fun H E=>∃(x19:List Rat),∃(b20:Option Nat),∃(c21:Nat),∃(n22:Nat),jP K x19=some r∧x19.length=n22∧H=[hO cQ b20 c21 44 n22 x19]∧E=[(10,.vc (pO b20 n22 c21))]) ?_ (fun Jj26=>?_))
 ·rintro _ _ ⟨x19,b20,c21,n22,hF,q23,rfl,rfl⟩
  unfold jP at hF
  refine go ?_ ?_
  refine pU (pG (oI 0 [8,10,41] rfl q23 ⟨rfl,rfl,rfl,trivial⟩ rfl ?_))
  obtain rfl:=oN hF
  exact mT (.inl rfl) Tryz.results22 (.tmp rfl .nil) rfl rfl
 obtain⟨x19',hL,hRl25⟩:=a8 hF
 refine hY (fun k a w=>∃(x12:List Rat),∃(x18:Int),∃(b13:Option Nat),∃(c14:Nat),∃(n15:Nat),dP K a0 a1 v1 k x12 x18=some x19'∧x12.length=n15∧hs _ [hO cQ b13 c14 44 n15 x12] [(0,.vc (pS aG.cod a0)),(1,.vc (pS cQ a1)),(9,.vc (pS cQ v1)),(10,.vc (pO b13 n15 c14)),(11,.vc (pI .i64 x18))] a w) K (fun a w ⟨_,_,_,_,_,hF,_,_⟩=>by cases hF) (fun k a w ⟨x12,x18,b13,c14,n15,hF,q16,hh⟩=>iA ?_ hh) (fun a w hh=>⟨([]:List Rat),0,none,0,0,hL,rfl,gJ [0] hh⟩)
 rw [dP.eq_2] at hF
 refine go ?_ ?_
 refine aL hF rfl (fun h27 hF=>?_) (fun h27 hF=>?_)
 ·refine go ?_ ?_
  refine aQ ?_
  obtain⟨v30,h31,hF⟩:=a8 hF
  obtain⟨v32,h33,hF⟩:=a8 hF
  obtain⟨v34,h35,hF⟩:=a8 hF
  obtain⟨v36,h37,hF⟩:=aY hF vQ
  obtain⟨v38,h39,hF⟩:=aY hF lQ
  refine jJ [0,0,0,6,14,30,0,0,192,448,0,0,3072,7168,16320,32766,65534,131071,262143] 17 2 [.v (.vc (pO b13 n15 c14)),.v (.vc (pS aG.cod a0)),.v (.vc (pI .i64 x18)),.v (.vc (pM (aG.cod.e v30))),.v (.vc (pM (aG.cod.e v30))),.v (.va (eQ v30.inv)),.v (.vc (pS cQ a1)),.v (.vc (pI .i64 x18)),.v (.vc (pM (cQ.e v32))),.v (.va (eQ v32)),.v (.vc (pS cQ v1)),.v (.vc (pI .i64 x18)),.v (.vc (pM (cQ.e v34))),.v (.va (eQ v34)),.v (.va (eQ v36)),.v (.va (eQ v38)),.v (.vc (pS cQ [v38]))] bA ⟨d0 (bP (.inl rfl)) zU1,d0 (bP (.inl rfl)) zU1,d0 (bP (.inl rfl)) zU1,d0 (aIe rfl tyS23 h31) zU2,d0 (aNP (ps:=(aG.cod.e v30)) (k:=0) rfl tyF108_0) zU1,d0 (aDX 4 rfl rfl (.agg tyA44)) zU1,d0 (bP (.inl rfl)) zU1,d0 (bP (.inl rfl)) zU1,d0 (aIe rfl tyS24 h33) zU2,d0 (aDX 4 rfl rfl (.agg tyA44)) zU1,d0 (bP (.inl rfl)) zU1,d0 (bP (.inl rfl)) zU1,d0 (aIe rfl tyS24 h35) zU2,d0 (aDX 4 rfl rfl (.agg tyA44)) zU1,d0 (bV rfl h37 rfl) zU2,d0 (bV rfl h39 rfl) zU2,d0 (kT (C:=cQ) (xs:=[.tmp 38]) (ps:=[.va (eQ v38)]) (zs:=[v38]) rfl tyS24 rfl ⟨⟨trivial,rfl⟩,trivial⟩ rfl) zU1,trivial⟩ (fun bs29 G28=>?_)
  obtain⟨x40,h41,hF⟩:=a8 hF
  refine lY 0 rfl tyS24 rfl rfl q16 rfl rfl h41 (fun b42 c43 H44 e45=>?_)
  cases e45
  obtain⟨v47,h48,hF⟩:=a8 hF
  refine go ?_ ?_
  exact aM (fun a w hh=>⟨x40,v47,b42,c43,(n15+[v38].length),hF,(bF h41 q16),gJ [0] hh⟩)
 refine cU ?_
 obtain rfl:=oN hF
 exact p9 Jj26 ⟨x12,b13,c14,n15,hRl25,q16,rfl,rfl⟩ [0]
def rY (K:Nat):Option Bool:=
 some true
def eY (K:Nat) (a0:List Rat) (a1:List Rat):Nat→Int→Option (LR Bool Unit)
 |0,_=>none
 |k+1,x3=>bif(decide (x3<(a0.length:Int))) then((bT a0 x3).bind fun v9=>(bT a1 x3).bind fun v11=>(uB v9 v11).bind fun v13=>bif(!v13) then(some (.ret false)) else((aS (x3+1)).bind fun v16=>eY K a0 a1 k v16)) else(some (.go ()))
def nJ (K:Nat) (a0:List Rat) (a1:List Rat):Option Bool:=
 bif((a0.length:Int) != (a1.length:Int)) then(some false) else((eY K a0 a1 K 0).bind fun o=>match o with| .ret r=>some r| .go _=>rY K)
theorem aAJ {K:Nat} {a0:List Rat} {a1:List Rat} {r:Bool} (hF:nJ K a0 a1=some r):Ct Tryz.prog 29 [.vc (pS cQ a0),.vc (pS cQ a1)] (.vc (pB r)):=by
 unfold nJ at hF
 refine aJ Tryz.func29 rfl (by kernel_rfl) Tryz.ntmps29 rfl (fun w0 M0=>?_)
 refine go ?_ ?_
 refine aL hF rfl (fun h1 hF=>?_) (fun h1 hF=>?_)
 ·exact bQ
 refine go ?_ ?_
 refine aQ (bY (fun H E=>rY K=some r∧H=[]∧E=[]) ?_ (fun Jj5=>?_))
 ·rintro _ _ ⟨hF,rfl,rfl⟩
  unfold rY at hF
  exact bQ
 obtain⟨ol4,hL,hRl4⟩:=a8 hF
 refine hY (fun k a w=>∃(x3:Int),eY K a0 a1 k x3=some ol4∧hs _ [] [(0,.vc (pS cQ a0)),(1,.vc (pS cQ a1)),(5,.vc (pI .i64 x3))] a w) K (fun a w ⟨_,hF,_⟩=>by cases hF) (fun k a w ⟨x3,hF,hh⟩=>iA ?_ hh) (fun a w hh=>⟨0,hL,gJ [] hh⟩)
 rw [eY.eq_2] at hF
 refine go ?_ ?_
 refine aL hF rfl (fun h6 hF=>?_) (fun h6 hF=>?_)
 ·refine go ?_ ?_
  refine aQ (aN ?_)
  obtain⟨v9,h10,hF⟩:=a8 hF
  obtain⟨v11,h12,hF⟩:=a8 hF
  obtain⟨v13,h14,hF⟩:=aY hF kW
  refine dr [0,0,3,7,0,0,48,112,255,511] 10 0 ?_ (fun bs8 G7=>?_)
  refine bI (aP (aL hF rfl (fun h15 hF=>?_) (fun h15 hF=>?_)))
  ·exact bQ
  obtain⟨v16,h17,hF⟩:=a8 hF
  refine go ?_ ?_
  exact aM (fun a w hh=>⟨v16,hF,gJ [] hh⟩)
 refine cU ?_
 obtain rfl:=oN hF
 exact p9 Jj5 ⟨hRl4,rfl,rfl⟩ []
def qP (K:Nat) (x7:Rat):Option Rat:=
 some x7
def fL (K:Nat) (a0:List aC) (a1:List Rat):Nat→Rat→Int→Option Rat
 |0,_,_=>none
 |k+1,x5,x6=>bif(decide (x6<(a0.length:Int))) then((bT a0 x6).bind fun v11=>bif(decide (0≤v11.dof)) then((bT a0 x6).bind fun v14=>bif(decide (v14.dof<(a1.length:Int))) then((bT a0 x6).bind fun v19=>(bT a0 x6).bind fun v21=>(bT a1 (max v21.dof 0)).bind fun v23=>(xU v19.k v23).bind fun v25=>(aCC x5 v25).bind fun v27=>(aS (x6+1)).bind fun v29=>fL K a0 a1 k v27 v29) else((aS (x6+1)).bind fun v31=>fL K a0 a1 k x5 v31)) else((aS (x6+1)).bind fun v33=>fL K a0 a1 k x5 v33)) else(some x5)
def dW (K:Nat) (a0:List aC) (a1:List Rat):Option Rat:=
 (fL K a0 a1 K 0 0).bind fun x7=>qP K x7
theorem pJ {K:Nat} {a0:List aC} {a1:List Rat} {r:Rat} (hF:dW K a0 a1=some r):Ct Tryz.prog 92 [.vc (pS aC.cod a0),.vc (pS cQ a1)] (.va (eQ r)):=by
 unfold dW at hF
 refine aJ Tryz.func92 rfl (by kernel_rfl) Tryz.ntmps92 rfl (fun w0 M0=>?_)
 refine aN (aU (aO rfl tyZ44q (fun b1=>?_)))
 refine go ?_ ?_
 refine aO rfl tyZ44q (fun b2=>?_)
 refine go ?_ ?_
 refine aQ (bY (fun H E=>∃(x7:Rat),qP K x7=some r∧H=[⟨some b2,1,44,4,1,(eQ x7)⟩,⟨some b1,1,44,4,1,(eQ 0)⟩]∧E=[(4,.vc (pP (some b1) 0)),(5,.vc (pP (some b2) 0))]) ?_ (fun Jj9=>?_))
 ·rintro _ _ ⟨x7,hF,rfl,rfl⟩
  unfold qP at hF
  exact bQ
 obtain⟨x7',hL,hRl8⟩:=a8 hF
 refine hY (fun k a w=>∃(x5:Rat),∃(x6:Int),fL K a0 a1 k x5 x6=some x7'∧hs _ [⟨some b2,1,44,4,1,(eQ x5)⟩,⟨some b1,1,44,4,1,(eQ 0)⟩] [(0,.vc (pS aC.cod a0)),(1,.vc (pS cQ a1)),(4,.vc (pP (some b1) 0)),(5,.vc (pP (some b2) 0)),(6,.vc (pI .i64 x6))] a w) K (fun a w ⟨_,_,hF,_⟩=>by cases hF) (fun k a w ⟨x5,x6,hF,hh⟩=>iA ?_ hh) (fun a w hh=>⟨0,0,hL,gJ [0,1] hh⟩)
 rw [fL.eq_2] at hF
 refine go ?_ ?_
 refine aL hF rfl (fun h10 hF=>?_) (fun h10 hF=>?_)
 ·refine go ?_ ?_
  refine aQ ?_
  obtain⟨v11,h12,hF⟩:=a8 hF
  refine go ?_ ?_
  refine dC hF (fun h13 hF=>?_) (fun h13 hF=>?_)
  ·have hF:=r7 h12 hF
   refine go ?_ ?_
   refine aL hF rfl (fun h16 hF=>?_) (fun h16 hF=>?_)
   ·have hF:=r7 h12 hF
    have hF:=r7 h12 hF
    obtain⟨v23,h24,hF⟩:=a8 hF
    obtain⟨v25,h26,hF⟩:=aY hF lQ
    obtain⟨v27,h28,hF⟩:=aY hF vQ
    refine dr [0,0,0,6,14,30,0,0,0,384,896,1920,3968,8128,16320,32766,65535,131071] 17 1 ?_ (fun bs18 G17=>?_)
    obtain⟨v29,h30,hF⟩:=a8 hF
    refine go ?_ ?_
    exact aM (fun a w hh=>⟨v27,v29,hF,gJ [0,1] hh⟩)
   obtain⟨v31,h32,hF⟩:=a8 hF
   refine go ?_ ?_
   exact aM (fun a w hh=>⟨x5,v31,hF,gJ [0,1] hh⟩)
  refine go ?_ ?_
  refine sS rfl ?_
  obtain⟨v33,h34,hF⟩:=a8 hF
  refine go ?_ ?_
  exact aM (fun a w hh=>⟨x5,v33,hF,gJ [0,1] hh⟩)
 refine cU ?_
 obtain rfl:=oN hF
 exact p9 Jj9 ⟨x5,hRl8,rfl,rfl⟩ [0,1]
def nP (K:Nat):Option Bool:=
 some true
def eG (K:Nat) (a0:List Rat):Nat→Int→Option (LR Bool Unit)
 |0,_=>none
 |k+1,x2=>bif(decide (x2<(a0.length:Int))) then((bT a0 x2).bind fun v6=>(aAV v6).bind fun v8=>bif(!v8) then(some (.ret false)) else((aS (x2+1)).bind fun v11=>eG K a0 k v11)) else(some (.go ()))
def iL (K:Nat) (a0:List Rat):Option Bool:=
 (eG K a0 K 0).bind fun o=>match o with| .ret r=>some r| .go _=>nP K
theorem uY {K:Nat} {a0:List Rat} {r:Bool} (hF:iL K a0=some r):Ct Tryz.prog 82 [.vc (pS cQ a0)] (.vc (pB r)):=by
 unfold iL at hF
 refine aJ Tryz.func82 rfl (by kernel_rfl) Tryz.ntmps82 rfl (fun w0 M0=>?_)
 refine go ?_ ?_
 refine aQ (bY (fun H E=>nP K=some r∧H=[]∧E=[]) ?_ (fun Jj4=>?_))
 ·rintro _ _ ⟨hF,rfl,rfl⟩
  unfold nP at hF
  exact bQ
 obtain⟨ol3,hL,hRl3⟩:=a8 hF
 refine hY (fun k a w=>∃(x2:Int),eG K a0 k x2=some ol3∧hs _ [] [(0,.vc (pS cQ a0)),(3,.vc (pI .i64 x2))] a w) K (fun a w ⟨_,hF,_⟩=>by cases hF) (fun k a w ⟨x2,hF,hh⟩=>iA ?_ hh) (fun a w hh=>⟨0,hL,gJ [] hh⟩)
 rw [eG.eq_2] at hF
 refine go ?_ ?_
 refine aL hF rfl (fun h5 hF=>?_) (fun h5 hF=>?_)
 ·refine go ?_ ?_
  refine aQ ?_
  obtain⟨v6,h7,hF⟩:=a8 hF
  obtain⟨v8,h9,hF⟩:=aY hF l5
  refine go ?_ ?_
  refine aL hF rfl (fun h10 hF=>?_) (fun h10 hF=>?_)
  ·exact bQ
  obtain⟨v11,h12,hF⟩:=a8 hF
  refine go ?_ ?_
  exact aM (fun a w hh=>⟨v11,hF,gJ [] hh⟩)
 refine cU ?_
 obtain rfl:=oN hF
 exact p9 Jj4 ⟨hRl3,rfl,rfl⟩ []
def p8 (K:Nat):Option Bool:=
 some true
def gA (K:Nat) (a0:List aC) (a1:Int):Nat→Int→Option (LR Bool Unit)
 |0,_=>none
 |k+1,x2=>bif(decide (x2<(a0.length:Int))) then((bT a0 x2).bind fun v8=>(aAV v8.k).bind fun v10=>bif(!v10) then(some (.ret false)) else((bT a0 x2).bind fun v13=>bif(decide (v13.dof<0)) then(some (.ret false)) else((bT a0 x2).bind fun v16=>bif(decide (a1≤v16.dof)) then(some (.ret false)) else(bif(decide (0<x2)) then((bT a0 x2).bind fun v20=>(aS (x2-1)).bind fun v22=>(bT a0 (max v22 0)).bind fun v24=>bif(decide (v20.dof≤v24.dof)) then(some (.ret false)) else((aS (x2+1)).bind fun v27=>gA K a0 a1 k v27)) else((aS (x2+1)).bind fun v29=>gA K a0 a1 k v29))))) else(some (.go ()))
def mY (K:Nat) (a0:List aC) (a1:Int):Option Bool:=
 (gA K a0 a1 K 0).bind fun o=>match o with| .ret r=>some r| .go _=>p8 K
theorem xV {K:Nat} {a0:List aC} {a1:Int} {r:Bool} (hF:mY K a0 a1=some r):Ct Tryz.prog 227 [.vc (pS aC.cod a0),.vc (pI .i64 a1)] (.vc (pB r)):=by
 unfold mY at hF
 refine aJ Tryz.func227 rfl (by kernel_rfl) Tryz.ntmps227 rfl (fun w0 M0=>?_)
 refine go ?_ ?_
 refine aQ (bY (fun H E=>p8 K=some r∧H=[]∧E=[]) ?_ (fun Jj4=>?_))
 ·rintro _ _ ⟨hF,rfl,rfl⟩
  unfold p8 at hF
  exact bQ
 obtain⟨ol3,hL,hRl3⟩:=a8 hF
 refine hY (fun k a w=>∃(x2:Int),gA K a0 a1 k x2=some ol3∧hs _ [] [(0,.vc (pS aC.cod a0)),(1,.vc (pI .i64 a1)),(5,.vc (pI .i64 x2))] a w) K (fun a w ⟨_,hF,_⟩=>by cases hF) (fun k a w ⟨x2,hF,hh⟩=>iA ?_ hh) (fun a w hh=>⟨0,hL,gJ [] hh⟩)
 rw [gA.eq_2] at hF
 refine go ?_ ?_
 refine aL hF rfl (fun h5 hF=>?_) (fun h5 hF=>?_)
 ·refine go ?_ ?_
  refine aQ (aN ?_)
  obtain⟨v8,h9,hF⟩:=a8 hF
  obtain⟨v10,h11,hF⟩:=aY hF l5
  rcases Bool.eq_false_or_eq_true (!v10) with h12|h12
  ·have hF:=sR h12 hF
   refine drb (0::0::3::7::15::31::63::127::255::255::1023::2047::4095::8191::16383::32767::65535::65535::262143::524287::1048575::65535::4194303::8388607::16777215::33554431::67108863::134217727::268435455::268435455::1073741823::2147483647::4294967295::268435455::268435455::17448304639::51808043007::129117454335::266556407807::541434314751::1099511627775::2199023255551::4398046511103::[]) 43 0 ?_ (fun bs7 G6=>?_)
   refine bI (aP (gV rfl ?_))
   exact bQ
  have hF:=sP h12 hF
  have hF:=r7 h9 hF
  rcases Bool.eq_false_or_eq_true (decide (v8.dof<0)) with h15|h15
  ·have hF:=sR h15 hF
   refine drb (0::0::3::7::15::31::63::127::255::255::1023::2047::4095::8191::16383::32767::65535::65535::262143::524287::1048575::65535::4194303::8388607::16777215::33554431::67108863::134217727::268435455::268435455::1073741823::2147483647::4294967295::268435455::268435455::17448304639::51808043007::129117454335::266556407807::541434314751::1099511627775::2199023255551::4398046511103::[]) 43 0 ?_ (fun bs7 G6=>?_)
   refine bI (aP (gV rfl ?_))
   exact bQ
  have hF:=sP h15 hF
  have hF:=r7 h9 hF
  rcases Bool.eq_false_or_eq_true (decide (a1≤v8.dof)) with h18|h18
  ·have hF:=sR h18 hF
   refine drb (0::0::3::7::15::31::63::127::255::255::1023::2047::4095::8191::16383::32767::65535::65535::262143::524287::1048575::65535::4194303::8388607::16777215::33554431::67108863::134217727::268435455::268435455::1073741823::2147483647::4294967295::268435455::268435455::17448304639::51808043007::129117454335::266556407807::541434314751::1099511627775::2199023255551::4398046511103::[]) 43 0 ?_ (fun bs7 G6=>?_)
   refine bI (aP (gV rfl ?_))
   exact bQ
  have hF:=sP h18 hF
  rcases Bool.eq_false_or_eq_true (decide (0<x2)) with h19|h19
  ·have hF:=sR h19 hF
   have hF:=r7 h9 hF
   obtain⟨v22,h23,hF⟩:=a8 hF
   obtain⟨v24,h25,hF⟩:=a8 hF
   refine drb (0::0::3::7::15::31::63::127::255::255::1023::2047::4095::8191::16383::32767::65535::65535::262143::524287::1048575::65535::4194303::8388607::16777215::33554431::67108863::134217727::268435455::268435455::1073741823::2147483647::4294967295::268435455::268435455::17448304639::51808043007::129117454335::266556407807::541434314751::1099511627775::2199023255551::4398046511103::[]) 43 0 ?_ (fun bs7 G6=>?_)
   refine bI (aP (aL hF rfl (fun h26 hF=>?_) (fun h26 hF=>?_)))
   ·exact bQ
   obtain⟨v27,h28,hF⟩:=a8 hF
   refine go ?_ ?_
   exact aM (fun a w hh=>⟨v27,hF,gJ [] hh⟩)
  have hF:=sP h19 hF
  refine drb (0::0::3::7::15::31::63::127::255::255::1023::2047::4095::8191::16383::32767::65535::65535::262143::524287::1048575::65535::4194303::8388607::16777215::33554431::67108863::134217727::268435455::268435455::1073741823::2147483647::4294967295::268435455::268435455::17448304639::51808043007::129117454335::266556407807::541434314751::1099511627775::2199023255551::4398046511103::[]) 43 0 ?_ (fun bs7 G6=>?_)
  refine bI (aP (sS rfl ?_))
  obtain⟨v29,h30,hF⟩:=a8 hF
  refine go ?_ ?_
  exact aM (fun a w hh=>⟨v29,hF,gJ [] hh⟩)
 refine cU ?_
 obtain rfl:=oN hF
 exact p9 Jj4 ⟨hRl3,rfl,rfl⟩ []
def oC (K:Nat):Option Bool:=
 some true
def gE (K:Nat) (a0:List aG) (a3:List aA):Nat→Int→Option (LR Bool Unit)
 |0,_=>none
 |k+1,x15=>bif(decide (x15<(a3.length:Int))) then((bT a3 x15).bind fun v19=>(mY K v19.j (a0.length:Int)).bind fun v21=>bif(!v21) then(some (.ret false)) else((bT a3 x15).bind fun v24=>(mY K v24.t (a0.length:Int)).bind fun v26=>bif(!v26) then(some (.ret false)) else((bT a3 x15).bind fun v29=>(aAV v29.mu).bind fun v31=>bif(!v31) then(some (.ret false)) else((bT a3 x15).bind fun v34=>(uI v34.mu).bind fun v36=>bif(decide (v36<0)) then(some (.ret false)) else((aS (x15+1)).bind fun v39=>gE K a0 a3 k v39))))) else(some (.go ()))
def oE (K:Nat) (a0:List aG) (a3:List aA):Option Bool:=
 (gE K a0 a3 K 0).bind fun o=>match o with| .ret r=>some r| .go _=>oC K
def gH (K:Nat) (a0:List aG):Nat→Int→Option (LR Bool Unit)
 |0,_=>none
 |k+1,x11=>bif(decide (x11<(a0.length:Int))) then((bT a0 x11).bind fun v42=>(aAV v42.inv).bind fun v44=>bif(!v44) then(some (.ret false)) else((bT a0 x11).bind fun v47=>(uI v47.inv).bind fun v49=>bif(decide (v49≤0)) then(some (.ret false)) else((aS (x11+1)).bind fun v52=>gH K a0 k v52))) else(some (.go ()))
def rQ (K:Nat) (a0:List aG) (a1:List Rat) (a2:List Rat) (a3:List aA):Option Bool:=
 bif(decide (12<(a0.length:Int))) then(some false) else(bif((a1.length:Int) != (a0.length:Int)) then(some false) else(bif((a2.length:Int) != (a0.length:Int)) then(some false) else((iL K a1).bind fun v4=>bif(!v4) then(some false) else((iL K a2).bind fun v7=>bif(!v7) then(some false) else((gH K a0 K 0).bind fun o=>match o with| .ret r=>some r| .go _=>oE K a0 a3)))))
theorem aBa {K:Nat} {a0:List aG} {a1:List Rat} {a2:List Rat} {a3:List aA} {r:Bool} (hF:rQ K a0 a1 a2 a3=some r):Ct Tryz.prog 167 [.vc (pS aG.cod a0),.vc (pS cQ a1),.vc (pS cQ a2),.vc (pS aA.cod a3)] (.vc (pB r)):=by
 unfold rQ at hF
 refine aJ Tryz.func167 rfl (by kernel_rfl) Tryz.ntmps167 rfl (fun w0 M0=>?_)
 refine go ?_ ?_
 refine dC hF (fun h1 hF=>?_) (fun h1 hF=>?_)
 ·refine go ?_ ?_
  refine gV rfl ?_
  exact bQ
 refine go ?_ ?_
 refine dC hF (fun h2 hF=>?_) (fun h2 hF=>?_)
 ·refine go ?_ ?_
  refine gV rfl ?_
  exact bQ
 refine go ?_ ?_
 refine dC hF (fun h3 hF=>?_) (fun h3 hF=>?_)
 ·refine go ?_ ?_
  refine gV rfl ?_
  exact bQ
 obtain⟨v4,h5,hF⟩:=aY hF uY
 refine go ?_ ?_
 refine dC hF (fun h6 hF=>?_) (fun h6 hF=>?_)
 ·refine go ?_ ?_
  refine gV rfl ?_
  exact bQ
 obtain⟨v7,h8,hF⟩:=aY hF uY
 refine go ?_ ?_
 refine aL hF rfl (fun h9 hF=>?_) (fun h9 hF=>?_)
 ·exact bQ
 refine go ?_ ?_
 refine aQ (bY (fun H E=>oE K a0 a3=some r∧H=[]∧E=[(0,.vc (pS aG.cod a0)),(3,.vc (pS aA.cod a3))]) ?_ (fun Jj13=>?_))
 ·rintro _ _ ⟨hF,rfl,rfl⟩
  unfold oE at hF
  refine go ?_ ?_
  refine aQ (bY (fun H E=>oC K=some r∧H=[]∧E=[]) ?_ (fun Jj17=>?_))
  ·rintro _ _ ⟨hF,rfl,rfl⟩
   unfold oC at hF
   exact bQ
  obtain⟨ol16,hL,hRl16⟩:=a8 hF
  refine hY (fun k a w=>∃(x15:Int),gE K a0 a3 k x15=some ol16∧hs _ [] [(0,.vc (pS aG.cod a0)),(3,.vc (pS aA.cod a3)),(10,.vc (pI .i64 x15))] a w) K (fun a w ⟨_,hF,_⟩=>by cases hF) (fun k a w ⟨x15,hF,hh⟩=>iA ?_ hh) (fun a w hh=>⟨0,hL,gJ [] hh⟩)
  rw [gE.eq_2] at hF
  refine go ?_ ?_
  refine aL hF rfl (fun h18 hF=>?_) (fun h18 hF=>?_)
  ·refine go ?_ ?_
   refine aQ ?_
   obtain⟨v19,h20,hF⟩:=a8 hF
   obtain⟨v21,h22,hF⟩:=aY hF xV
   refine go ?_ ?_
   refine dC hF (fun h23 hF=>?_) (fun h23 hF=>?_)
   ·refine go ?_ ?_
    refine gV rfl ?_
    exact bQ
   have hF:=r7 h20 hF
   obtain⟨v26,h27,hF⟩:=aY hF xV
   refine go ?_ ?_
   refine dC hF (fun h28 hF=>?_) (fun h28 hF=>?_)
   ·refine go ?_ ?_
    refine gV rfl ?_
    exact bQ
   have hF:=r7 h20 hF
   obtain⟨v31,h32,hF⟩:=aY hF l5
   refine go ?_ ?_
   refine aL hF rfl (fun h33 hF=>?_) (fun h33 hF=>?_)
   ·exact bQ
   have hF:=r7 h20 hF
   obtain⟨v36,h37,hF⟩:=aY hF cZ
   refine go ?_ ?_
   refine aL hF rfl (fun h38 hF=>?_) (fun h38 hF=>?_)
   ·exact bQ
   obtain⟨v39,h40,hF⟩:=a8 hF
   refine go ?_ ?_
   exact aM (fun a w hh=>⟨v39,hF,gJ [] hh⟩)
  refine cU ?_
  obtain rfl:=oN hF
  exact p9 Jj17 ⟨hRl16,rfl,rfl⟩ []
 obtain⟨ol12,hL,hRl12⟩:=a8 hF
 refine hY (fun k a w=>∃(x11:Int),gH K a0 k x11=some ol12∧hs _ [] [(0,.vc (pS aG.cod a0)),(3,.vc (pS aA.cod a3)),(9,.vc (pI .i64 x11))] a w) K (fun a w ⟨_,hF,_⟩=>by cases hF) (fun k a w ⟨x11,hF,hh⟩=>iA ?_ hh) (fun a w hh=>⟨0,hL,gJ [] hh⟩)
 rw [gH.eq_2] at hF
 refine go ?_ ?_
 refine aL hF rfl (fun h41 hF=>?_) (fun h41 hF=>?_)
 ·refine go ?_ ?_
  refine aQ ?_
  obtain⟨v42,h43,hF⟩:=a8 hF
  obtain⟨v44,h45,hF⟩:=aY hF l5
  refine go ?_ ?_
  refine aL hF rfl (fun h46 hF=>?_) (fun h46 hF=>?_)
  ·exact bQ
  have hF:=r7 h43 hF
  obtain⟨v49,h50,hF⟩:=aY hF cZ
  refine go ?_ ?_
  refine aL hF rfl (fun h51 hF=>?_) (fun h51 hF=>?_)
  ·exact bQ
  obtain⟨v52,h53,hF⟩:=a8 hF
  refine go ?_ ?_
  exact aM (fun a w hh=>⟨v52,hF,gJ [] hh⟩)
 refine cU ?_
 obtain rfl:=oN hF
 exact p9 Jj13 ⟨hRl12,rfl,rfl⟩ []
def rT (K:Nat):Option Bool:=
 some true
def jZ (K:Nat) (a2:List Rat) (a3:List aA):Nat→Int→Option (LR Bool Unit)
 |0,_=>none
 |k+1,x5=>bif(decide (x5<(a3.length:Int))) then((bT a3 x5).bind fun v9=>(dW K v9.j a2).bind fun v11=>(uI v11).bind fun v13=>bif(v13 != 0) then(some (.ret false)) else((aS (x5+1)).bind fun v16=>jZ K a2 a3 k v16)) else(some (.go ()))
def mB (K:Nat) (a0:List aG) (a1:List Rat) (a2:List Rat) (a3:List aA):Option Bool:=
 (rQ K a0 a1 a2 a3).bind fun v1=>bif(!v1) then(some false) else((jZ K a2 a3 K 0).bind fun o=>match o with| .ret r=>some r| .go _=>rT K)
theorem aCw {K:Nat} {a0:List aG} {a1:List Rat} {a2:List Rat} {a3:List aA} {r:Bool} (hF:mB K a0 a1 a2 a3=some r):Ct Tryz.prog 81 [.vc (pS aG.cod a0),.vc (pS cQ a1),.vc (pS cQ a2),.vc (pS aA.cod a3)] (.vc (pB r)):=by
 unfold mB at hF
 refine aJ Tryz.func81 rfl (by kernel_rfl) Tryz.ntmps81 rfl (fun w0 M0=>?_)
 obtain⟨v1,h2,hF⟩:=aY hF aBa
 refine go ?_ ?_
 refine aL hF rfl (fun h3 hF=>?_) (fun h3 hF=>?_)
 ·exact bQ
 refine go ?_ ?_
 refine aQ (bY (fun H E=>rT K=some r∧H=[]∧E=[]) ?_ (fun Jj7=>?_))
 ·rintro _ _ ⟨hF,rfl,rfl⟩
  unfold rT at hF
  exact bQ
 obtain⟨ol6,hL,hRl6⟩:=a8 hF
 refine hY (fun k a w=>∃(x5:Int),jZ K a2 a3 k x5=some ol6∧hs _ [] [(2,.vc (pS cQ a2)),(3,.vc (pS aA.cod a3)),(9,.vc (pI .i64 x5))] a w) K (fun a w ⟨_,hF,_⟩=>by cases hF) (fun k a w ⟨x5,hF,hh⟩=>iA ?_ hh) (fun a w hh=>⟨0,hL,gJ [] hh⟩)
 rw [jZ.eq_2] at hF
 refine go ?_ ?_
 refine aL hF rfl (fun h8 hF=>?_) (fun h8 hF=>?_)
 ·refine go ?_ ?_
  refine aQ ?_
  obtain⟨v9,h10,hF⟩:=a8 hF
  obtain⟨v11,h12,hF⟩:=aY hF pJ
  obtain⟨v13,h14,hF⟩:=aY hF cZ
  refine go ?_ ?_
  refine aL hF rfl (fun h15 hF=>?_) (fun h15 hF=>?_)
  ·exact bQ
  obtain⟨v16,h17,hF⟩:=a8 hF
  refine go ?_ ?_
  exact aM (fun a w hh=>⟨v16,hF,gJ [] hh⟩)
 refine cU ?_
 obtain rfl:=oN hF
 exact p9 Jj7 ⟨hRl6,rfl,rfl⟩ []
def jT (K:Nat) (a0:aA) (a1:List Rat):Option Int:=
 (dW K a0.t a1).bind fun v2=>(uI v2).bind fun v4=>some v4
theorem yE {K:Nat} {a0:aA} {a1:List Rat} {r:Int} (hF:jT K a0 a1=some r):Ct Tryz.prog 171 [.va (aA.enc a0),.vc (pS cQ a1)] (.vc (pI .i64 r)):=by
 unfold jT at hF
 refine aJ Tryz.func171 rfl (by kernel_rfl) Tryz.ntmps171 rfl (fun w0 M0=>?_)
 refine aN (aU (cE rfl rfl trivial (fun b1=>?_)))
 obtain⟨v2,h3,hF⟩:=aY hF pJ
 obtain⟨v4,h5,hF⟩:=aY hF cZ
 exact bQ
def jY (K:Nat) (a0:aA) (a1:List Rat) (a2:List Rat) (a3:aF):Option Bool:=
 (dW K a0.j a2).bind fun v3=>(uI a3.n).bind fun v6=>bif(decide (v6<0)) then(some false) else((uI v3).bind fun v9=>bif(decide (v9<0)) then(some false) else((uI a3.n).bind fun v12=>bif(decide (0<v12)) then((uI v3).bind fun v15=>bif(decide (0<v15)) then(some false) else(bif((a0.t.length:Int)==0) then((uI a3.f).bind fun v19=>some (v19==0)) else((xU a0.mu a3.n).bind fun v21=>(jT K a0 a1).bind fun v24=>bif(v24 != 0) then((aS (-v24)).bind fun v29=>(zK v29 1).bind fun v31=>(xU v31 v21).bind fun v33=>(uB a3.f v33).bind fun v35=>some v35) else((dW K a0.t a2).bind fun v37=>(uI v37).bind fun v39=>bif(decide (0<v39)) then((aAk v21).bind fun v44=>(uB a3.f v44).bind fun v46=>some v46) else(bif(decide (v39<0)) then((uB a3.f v21).bind fun v49=>some v49) else((aC8 a3.f v21).bind fun v53=>bif(decide (v53≤0)) then((aAk a3.f).bind fun v56=>(aC8 v56 v21).bind fun v58=>some (decide (v58≤0))) else(some false))))))) else(bif((a0.t.length:Int)==0) then((uI a3.f).bind fun v61=>some (v61==0)) else((xU a0.mu a3.n).bind fun v63=>(jT K a0 a1).bind fun v66=>bif(v66 != 0) then((aS (-v66)).bind fun v71=>(zK v71 1).bind fun v73=>(xU v73 v63).bind fun v75=>(uB a3.f v75).bind fun v77=>some v77) else((dW K a0.t a2).bind fun v79=>(uI v79).bind fun v81=>bif(decide (0<v81)) then((aAk v63).bind fun v86=>(uB a3.f v86).bind fun v88=>some v88) else(bif(decide (v81<0)) then((uB a3.f v63).bind fun v91=>some v91) else((aC8 a3.f v63).bind fun v95=>bif(decide (v95≤0)) then((aAk a3.f).bind fun v98=>(aC8 v98 v63).bind fun v100=>some (decide (v100≤0))) else(some false))))))))
theorem aBf {K:Nat} {a0:aA} {a1:List Rat} {a2:List Rat} {a3:aF} {r:Bool} (hF:jY K a0 a1 a2 a3=some r):Ct Tryz.prog 84 [.va (aA.enc a0),.vc (pS cQ a1),.vc (pS cQ a2),.va (aF.enc a3)] (.vc (pB r)):=by
 unfold jY at hF
 refine aJ Tryz.func84 rfl (by kernel_rfl) Tryz.ntmps84 rfl (fun w0 M0=>?_)
 refine aN (aU (cE rfl rfl trivial (fun b1=>?_)))
 refine cE rfl rfl trivial (fun b2=>?_)
 obtain⟨v3,h4,hF⟩:=aY hF pJ
 refine go ?_ ?_
 refine aO rfl tyZ44q (fun b5=>?_)
 obtain⟨v6,h7,hF⟩:=aY hF cZ
 refine go ?_ ?_
 refine dC hF (fun h8 hF=>?_) (fun h8 hF=>?_)
 ·refine go ?_ ?_
  refine gV rfl ?_
  exact bQ
 obtain⟨v9,h10,hF⟩:=aY hF cZ
 refine go ?_ ?_
 refine dC hF (fun h11 hF=>?_) (fun h11 hF=>?_)
 ·refine go ?_ ?_
  refine gV rfl ?_
  exact bQ
 obtain⟨v12,h13,hF⟩:=aY hF cZ
 refine go ?_ ?_
 refine dC hF (fun h14 hF=>?_) (fun h14 hF=>?_)
 ·obtain⟨v15,h16,hF⟩:=aY hF cZ
  refine go ?_ ?_
  refine aL hF rfl (fun h17 hF=>?_) (fun h17 hF=>?_)
  ·exact bQ
  refine go ?_ ?_
  refine aL hF rfl (fun h18 hF=>?_) (fun h18 hF=>?_)
  ·obtain⟨v19,h20,hF⟩:=aY hF cZ
   exact bQ
  obtain⟨v21,h22,hF⟩:=aY hF lQ
  refine go ?_ ?_
  refine aO rfl tyZ44q (fun b23=>?_)
  obtain⟨v24,h25,hF⟩:=aY hF yE
  refine go ?_ ?_
  refine aL hF rfl (fun h26 hF=>?_) (fun h26 hF=>?_)
  ·refine aN ?_
   obtain⟨v29,h30,hF⟩:=a8 hF
   obtain⟨v31,h32,hF⟩:=aY hF bR
   obtain⟨v33,h34,hF⟩:=aY hF lQ
   obtain⟨v35,h36,hF⟩:=aY hF kW
   refine dr [0,1,0,4,12,0,60,127,255] 9 0 ?_ (fun bs28 G27=>?_)
   refine bI (aP ?_)
   exact bQ
  obtain⟨v37,h38,hF⟩:=aY hF pJ
  obtain⟨v39,h40,hF⟩:=aY hF cZ
  refine go ?_ ?_
  refine aL hF rfl (fun h41 hF=>?_) (fun h41 hF=>?_)
  ·refine aN ?_
   obtain⟨v44,h45,hF⟩:=aY hF tC
   obtain⟨v46,h47,hF⟩:=aY hF kW
   refine dr [0,1,0,4,15,31] 6 0 ?_ (fun bs43 G42=>?_)
   refine bI (aP ?_)
   exact bQ
  refine go ?_ ?_
  refine aL hF rfl (fun h48 hF=>?_) (fun h48 hF=>?_)
  ·obtain⟨v49,h50,hF⟩:=aY hF kW
   exact bQ
  obtain⟨v53,h54,hF⟩:=aY hF p7
  refine go ?_ ?_
  rcases Bool.eq_false_or_eq_true (decide (v53≤0)) with h55|h55
  ·have hF:=sR h55 hF
   obtain⟨v56,h57,hF⟩:=aY hF tC
   obtain⟨v58,h59,hF⟩:=aY hF p7
   refine drb [0,1,0,7,15,31,63,127,255,63,1023,2047,4095,8191] 14 0 ?_ (fun bs52 G51=>?_)
   refine bI (aP ?_)
   exact bQ
  have hF:=sP h55 hF
  refine drb [0,1,0,7,15,31,63,127,255,63,1023,2047,4095,8191] 14 0 ?_ (fun bs52 G51=>?_)
  refine bI (aP ?_)
  exact bQ
 refine go ?_ ?_
 refine sS rfl ?_
 refine go ?_ ?_
 refine aL hF rfl (fun h60 hF=>?_) (fun h60 hF=>?_)
 ·obtain⟨v61,h62,hF⟩:=aY hF cZ
  exact bQ
 obtain⟨v63,h64,hF⟩:=aY hF lQ
 refine go ?_ ?_
 refine aO rfl tyZ44q (fun b65=>?_)
 obtain⟨v66,h67,hF⟩:=aY hF yE
 refine go ?_ ?_
 refine aL hF rfl (fun h68 hF=>?_) (fun h68 hF=>?_)
 ·refine aN ?_
  obtain⟨v71,h72,hF⟩:=a8 hF
  obtain⟨v73,h74,hF⟩:=aY hF bR
  obtain⟨v75,h76,hF⟩:=aY hF lQ
  obtain⟨v77,h78,hF⟩:=aY hF kW
  refine dr [0,1,0,4,12,0,60,127,255] 9 0 ?_ (fun bs70 G69=>?_)
  refine bI (aP ?_)
  exact bQ
 obtain⟨v79,h80,hF⟩:=aY hF pJ
 obtain⟨v81,h82,hF⟩:=aY hF cZ
 refine go ?_ ?_
 refine aL hF rfl (fun h83 hF=>?_) (fun h83 hF=>?_)
 ·refine aN ?_
  obtain⟨v86,h87,hF⟩:=aY hF tC
  obtain⟨v88,h89,hF⟩:=aY hF kW
  refine dr [0,1,0,4,15,31] 6 0 ?_ (fun bs85 G84=>?_)
  refine bI (aP ?_)
  exact bQ
 refine go ?_ ?_
 refine aL hF rfl (fun h90 hF=>?_) (fun h90 hF=>?_)
 ·obtain⟨v91,h92,hF⟩:=aY hF kW
  exact bQ
 obtain⟨v95,h96,hF⟩:=aY hF p7
 refine go ?_ ?_
 rcases Bool.eq_false_or_eq_true (decide (v95≤0)) with h97|h97
 ·have hF:=sR h97 hF
  obtain⟨v98,h99,hF⟩:=aY hF tC
  obtain⟨v100,h101,hF⟩:=aY hF p7
  refine drb [0,1,0,7,15,31,63,127,255,63,1023,2047,4095,8191] 14 0 ?_ (fun bs94 G93=>?_)
  refine bI (aP ?_)
  exact bQ
 have hF:=sP h97 hF
 refine drb [0,1,0,7,15,31,63,127,255,63,1023,2047,4095,8191] 14 0 ?_ (fun bs94 G93=>?_)
 refine bI (aP ?_)
 exact bQ
def sM (K:Nat):Option Int:=
 some 0
def gQ (K:Nat) (a2:List Rat) (a3:List aA) (a4:List Rat) (a5:List aF):Nat→Int→Option (LR Int Unit)
 |0,_=>none
 |k+1,x19=>bif(decide (x19<(a3.length:Int))) then((bT a3 x19).bind fun v25=>(bT a5 x19).bind fun v27=>(jY K v25 a2 a4 v27).bind fun v29=>bif(!v29) then(some (.ret 18)) else((aS (x19+1)).bind fun v32=>gQ K a2 a3 a4 a5 k v32)) else(some (.go ()))
def oX (K:Nat) (a0:List aG) (a1:List Rat) (a2:List Rat) (a3:List aA) (a4:List Rat) (a5:List aF):Option Int:=
 (dH K a0 a1 a3 a5).bind fun v13=>(nJ K a4 v13).bind fun v15=>bif(!v15) then(some 18) else((gQ K a2 a3 a4 a5 K 0).bind fun o=>match o with| .ret r=>some r| .go _=>sM K)
def gR (K:Nat) (a5:List aF):Nat→Int→Option (LR Int Unit)
 |0,_=>none
 |k+1,x10=>bif(decide (x10<(a5.length:Int))) then((bT a5 x10).bind fun v35=>(aAV v35.n).bind fun v37=>bif(!v37) then(some (.ret 18)) else((bT a5 x10).bind fun v40=>(aAV v40.f).bind fun v42=>bif(!v42) then(some (.ret 18)) else((aS (x10+1)).bind fun v45=>gR K a5 k v45))) else(some (.go ()))
def fR (K:Nat) (a0:List aG) (a1:List Rat) (a2:List Rat) (a3:List aA) (a4:List Rat) (a5:List aF):Option Int:=
 (mB K a0 a1 a2 a3).bind fun v1=>bif(!v1) then(some 1) else(bif((a4.length:Int) != (a0.length:Int)) then(some 18) else(bif((a5.length:Int) != (a3.length:Int)) then(some 18) else((iL K a4).bind fun v6=>bif(!v6) then(some 18) else((gR K a5 K 0).bind fun o=>match o with| .ret r=>some r| .go _=>oX K a0 a1 a2 a3 a4 a5))))
theorem rM {K:Nat} {a0:List aG} {a1:List Rat} {a2:List Rat} {a3:List aA} {a4:List Rat} {a5:List aF} {r:Int} (hF:fR K a0 a1 a2 a3 a4 a5=some r):Ct Tryz.prog 21 [.vc (pS aG.cod a0),.vc (pS cQ a1),.vc (pS cQ a2),.vc (pS aA.cod a3),.vc (pS cQ a4),.vc (pS aF.cod a5)] (.vc (pI .i64 r)):=by
 unfold fR at hF
 refine aJ Tryz.func21 rfl (by kernel_rfl) Tryz.ntmps21 rfl (fun w0 M0=>?_)
 obtain⟨v1,h2,hF⟩:=aY hF aCw
 refine go ?_ ?_
 refine aL hF rfl (fun h3 hF=>?_) (fun h3 hF=>?_)
 ·exact bQ
 refine go ?_ ?_
 refine dC hF (fun h4 hF=>?_) (fun h4 hF=>?_)
 ·refine go ?_ ?_
  refine gV rfl ?_
  exact bQ
 refine go ?_ ?_
 refine dC hF (fun h5 hF=>?_) (fun h5 hF=>?_)
 ·refine go ?_ ?_
  refine gV rfl ?_
  exact bQ
 obtain⟨v6,h7,hF⟩:=aY hF uY
 refine go ?_ ?_
 refine aL hF rfl (fun h8 hF=>?_) (fun h8 hF=>?_)
 ·exact bQ
 refine go ?_ ?_
 refine aQ (bY (fun H E=>oX K a0 a1 a2 a3 a4 a5=some r∧H=[]∧E=[(0,.vc (pS aG.cod a0)),(1,.vc (pS cQ a1)),(2,.vc (pS cQ a2)),(3,.vc (pS aA.cod a3)),(4,.vc (pS cQ a4)),(5,.vc (pS aF.cod a5))]) ?_ (fun Jj12=>?_))
 ·rintro _ _ ⟨hF,rfl,rfl⟩
  unfold oX at hF
  obtain⟨v13,h14,hF⟩:=aY hF o9
  obtain⟨v15,h16,hF⟩:=aY hF aAJ
  refine go ?_ ?_
  refine aL hF rfl (fun h17 hF=>?_) (fun h17 hF=>?_)
  ·exact bQ
  refine go ?_ ?_
  refine aQ (bY (fun H E=>sM K=some r∧H=[]∧E=[]) ?_ (fun Jj21=>?_))
  ·rintro _ _ ⟨hF,rfl,rfl⟩
   unfold sM at hF
   exact bQ
  obtain⟨ol20,hL,hRl20⟩:=a8 hF
  refine hY (fun k a w=>∃(x19:Int),gQ K a2 a3 a4 a5 k x19=some ol20∧hs _ [] [(2,.vc (pS cQ a2)),(3,.vc (pS aA.cod a3)),(4,.vc (pS cQ a4)),(5,.vc (pS aF.cod a5)),(14,.vc (pI .i64 x19))] a w) K (fun a w ⟨_,hF,_⟩=>by cases hF) (fun k a w ⟨x19,hF,hh⟩=>iA ?_ hh) (fun a w hh=>⟨0,hL,gJ [] hh⟩)
  rw [gQ.eq_2] at hF
  refine go ?_ ?_
  refine aL hF rfl (fun h22 hF=>?_) (fun h22 hF=>?_)
  ·refine go ?_ ?_
   refine aQ (aN ?_)
   obtain⟨v25,h26,hF⟩:=a8 hF
   obtain⟨v27,h28,hF⟩:=a8 hF
   obtain⟨v29,h30,hF⟩:=aY hF aBf
   refine dr [0,0,3,7,0,0,0,0,192,448,1023,2047] 12 0 ?_ (fun bs24 G23=>?_)
   refine bI (aP (aL hF rfl (fun h31 hF=>?_) (fun h31 hF=>?_)))
   ·exact bQ
   obtain⟨v32,h33,hF⟩:=a8 hF
   refine go ?_ ?_
   exact aM (fun a w hh=>⟨v32,hF,gJ [] hh⟩)
  refine cU ?_
  obtain rfl:=oN hF
  exact p9 Jj21 ⟨hRl20,rfl,rfl⟩ []
 obtain⟨ol11,hL,hRl11⟩:=a8 hF
 refine hY (fun k a w=>∃(x10:Int),gR K a5 k x10=some ol11∧hs _ [] [(0,.vc (pS aG.cod a0)),(1,.vc (pS cQ a1)),(2,.vc (pS cQ a2)),(3,.vc (pS aA.cod a3)),(4,.vc (pS cQ a4)),(5,.vc (pS aF.cod a5)),(13,.vc (pI .i64 x10))] a w) K (fun a w ⟨_,hF,_⟩=>by cases hF) (fun k a w ⟨x10,hF,hh⟩=>iA ?_ hh) (fun a w hh=>⟨0,hL,gJ [] hh⟩)
 rw [gR.eq_2] at hF
 refine go ?_ ?_
 refine aL hF rfl (fun h34 hF=>?_) (fun h34 hF=>?_)
 ·refine go ?_ ?_
  refine aQ ?_
  obtain⟨v35,h36,hF⟩:=a8 hF
  obtain⟨v37,h38,hF⟩:=aY hF l5
  refine go ?_ ?_
  refine dC hF (fun h39 hF=>?_) (fun h39 hF=>?_)
  ·refine go ?_ ?_
   refine gV rfl ?_
   exact bQ
  have hF:=r7 h36 hF
  obtain⟨v42,h43,hF⟩:=aY hF l5
  refine go ?_ ?_
  refine aL hF rfl (fun h44 hF=>?_) (fun h44 hF=>?_)
  ·exact bQ
  obtain⟨v45,h46,hF⟩:=a8 hF
  refine go ?_ ?_
  exact aM (fun a w hh=>⟨v45,hF,gJ [] hh⟩)
 refine cU ?_
 obtain rfl:=oN hF
 exact p9 Jj12 ⟨hRl11,rfl,rfl⟩ []
def vN (K:Nat) (c0:List Rat) (c1:List Rat) (a0:aA):Option Bool:=
 (iH K a0.t c0).bind fun v2=>(iH K a0.t c1).bind fun v7=>(aCC v2 v7).bind fun v9=>(xU v2 v9).bind fun v11=>(uI v11).bind fun v13=>some (decide (v13<0))
theorem aDy {K:Nat} {c0:List Rat} {c1:List Rat} {a0:aA} {r:Bool} (hF:vN K c0 c1 a0=some r):Ct Tryz.prog 91 [.va (aA.enc a0),.vc (pM ((yP cQ).e c0)),.vc (pM ((yP cQ).e c1))] (.vc (pB r)):=by
 unfold vN at hF
 refine aJ Tryz.func91 rfl (by kernel_rfl) Tryz.ntmps91 rfl (fun w0 M0=>?_)
 refine aN (aU (cE rfl rfl trivial (fun b1=>?_)))
 obtain⟨v2,h3,hF⟩:=aY hF lK
 refine go ?_ ?_
 refine aO rfl tyZ44q (fun b4=>?_)
 obtain⟨v7,h8,hF⟩:=aY hF lK
 obtain⟨v9,h10,hF⟩:=aY hF xJ
 obtain⟨v11,h12,hF⟩:=aY hF s7
 obtain⟨v13,h14,hF⟩:=aY hF lA
 refine go ?_ ?_
 refine dr [0,0,0,4,0,28,62,127,255,511,1023] 11 0 ?_ (fun bs6 G5=>?_)
 refine bI (aP ?_)
 exact bQ
def zW (K:Nat) (a0:List Rat) (a1:List Rat) (a2:List aA):Option Bool:=
 (fY K a2 (vN K a0 a1)).bind fun v3=>some (!v3)
theorem aEv {K:Nat} {a0:List Rat} {a1:List Rat} {a2:List aA} {r:Bool} (hF:zW K a0 a1 a2=some r):Ct Tryz.prog 27 [.vc (pS cQ a0),.vc (pS cQ a1),.vc (pS aA.cod a2)] (.vc (pB r)):=by
 unfold zW at hF
 refine aJ Tryz.func27 rfl (by kernel_rfl) Tryz.ntmps27 rfl (fun w0 M0=>?_)
 refine aN (aU (cE rfl rfl trivial (fun b1=>?_)))
 refine cE rfl rfl trivial (fun b2=>?_)
 refine aX (bP (.inr rfl)) ⟨k_B _,trivial⟩ ?_
 refine bI (aP (aN (aU (nC ?_))))
 refine aKG 1 [(3,0)] rfl zU1 rfl ?_
 refine aKG 0 [(4,0)] rfl zU1 rfl ?_
 refine aX (aPO (φ:=(vN K a0 a1)) (pre:=fun x:aA=>[.va (aA.enc x)]) (post:=fun r:Bool=>.vc (pB r)) (xs:=[.tmp 3,.tmp 4]) (cs:=[pM ((yP cQ).e a0),pM ((yP cQ).e a1)]) rfl rfl (fun x r h=>aDy h)) zU2 ?_
 obtain⟨v3,h4,hF⟩:=aY hF t0
 exact bQ
def mZ (a0:Int) (a1:Int) (a2:Int) (a3:Int):Option aI:=
 (zK 1 2).bind fun v2=>(zK 1 1).bind fun v5=>(zK 1 2).bind fun v10=>(zK a0 a2).bind fun v14=>(zK a1 1).bind fun v16=>(zK a3 1).bind fun v18=>some (⟨[(⟨v2,0,false,0,0⟩:aG),(⟨v2,0,false,0,0⟩:aG)],[v14,v16],[v18,0],[(⟨0,0,0,0,0,[(⟨1,v5⟩:aC)],[(⟨0,v5⟩:aC)],v10,0⟩:aA)]⟩:aI)
theorem rR {a0:Int} {a1:Int} {a2:Int} {a3:Int} {r:aI} (hF:mZ a0 a1 a2 a3=some r):Ct Tryz.prog 88 [.vc (pI .i64 a0),.vc (pI .i64 a1),.vc (pI .i64 a2),.vc (pI .i64 a3)] (.va (aI.enc r)):=by
 unfold mZ at hF
 refine aJ Tryz.func88 rfl (by kernel_rfl) Tryz.ntmps88 rfl (fun w0 M0=>?_)
 refine aN (aU (aO rfl tyZ27q (fun b1=>?_)))
 obtain⟨v2,h3,hF⟩:=aY hF bR
 refine go ?_ ?_
 refine aX (cR (is:=[0]) (xs:=[.tmp 12]) (ps:=[.va (eQ v2)]) rfl tyB108q rfl rfl ⟨trivial,trivial⟩ rfl) zU1 ?_
 refine aO rfl tyZ108q (fun b4=>?_)
 obtain⟨v5,h6,hF⟩:=aY hF bR
 refine go ?_ ?_
 refine aO rfl tyZ44q (fun b7=>?_)
 obtain⟨v10,h11,hF⟩:=aY hF bR
 refine go ?_ ?_
 refine jJ [0,1,3,0,8,24,0,127,0,511] 9 1 [.v (.va (eQ v5)),.v (.va ([pI .i64 1]++(eQ v5))),.v (.vc (pS aC.cod [(⟨1,v5⟩:aC)])),.v (.va (eQ v5)),.v (.va ([pI .i64 0]++(eQ v5))),.v (.vc (pS aC.cod [(⟨0,v5⟩:aC)])),.v (.va (eQ v10)),.v (.va ([pI .i64 0]++[pI .i64 0]++[pI .i64 0]++[pI .i64 0]++(eQ 0)++[pS aC.cod [(⟨1,v5⟩:aC)]]++[pS aC.cod [(⟨0,v5⟩:aC)]]++(eQ v10)++(eQ 0))),.a 51 ([pI .i64 0]++[pI .i64 0]++[pI .i64 0]++[pI .i64 0]++(eQ 0)++[pS aC.cod ([]:List aC)]++[pS aC.cod ([]:List aC)]++(eQ 0)++(eQ 0))] bA ⟨d0 (eV 0 4 rfl rfl rfl rfl (.agg tyA44)) zU1,d0 (cR (is:=[0,1]) (xs:=[.const (.int .i64 (1)),.tmp 15]) (ps:=[.vc (pI .i64 1),.va (eQ v5)]) rfl tyB92q rfl rfl ⟨trivial,trivial,trivial⟩ rfl) ⟨lC _ _,rfl,trivial⟩,d0 (kT (C:=aC.cod) (xs:=[.tmp 16]) (ps:=[.va ([pI .i64 1]++(eQ v5))]) (zs:=[(⟨1,v5⟩:aC)]) rfl tyS49 rfl ⟨⟨trivial,rfl⟩,trivial⟩ rfl) zU1,d0 (eV 0 4 rfl rfl rfl rfl (.agg tyA44)) zU1,d0 (cR (is:=[0,1]) (xs:=[.const (.int .i64 (0)),.tmp 18]) (ps:=[.vc (pI .i64 0),.va (eQ v5)]) rfl tyB92q rfl rfl ⟨trivial,trivial,trivial⟩ rfl) ⟨lC _ _,rfl,trivial⟩,d0 (kT (C:=aC.cod) (xs:=[.tmp 19]) (ps:=[.va ([pI .i64 0]++(eQ v5))]) (zs:=[(⟨0,v5⟩:aC)]) rfl tyS49 rfl ⟨⟨trivial,rfl⟩,trivial⟩ rfl) zU1,d0 (bV rfl h11 rfl) ⟨lC _ _,lC _ _,trivial⟩,d0 (cR (is:=[5,6,7]) (xs:=[.tmp 17,.tmp 20,.tmp 21]) (ps:=[.vc (pS aC.cod [(⟨1,v5⟩:aC)]),.vc (pS aC.cod [(⟨0,v5⟩:aC)]),.va (eQ v10)]) rfl tyB51q rfl rfl ⟨trivial,trivial,trivial,trivial⟩ rfl) ⟨rfl,rfl,rfl,trivial⟩,⟨rfl,.alc tyZ51q⟩,trivial⟩ (fun bs9 G8=>?_)
 obtain⟨v14,h15,hF⟩:=aY hF bR
 obtain⟨v16,h17,hF⟩:=aY hF bR
 obtain⟨v18,h19,hF⟩:=aY hF bR
 refine go ?_ ?_
 refine jJ [0,0,3,0,0,24,0,120,248,0,760,0,3832,0,8192,32767,65535] 16 1 [.v (.va ((eQ v2)++(eQ 0)++[pB false]++(eQ 0)++(eQ 0))),.v (.va ((eQ v2)++(eQ 0)++[pB false]++(eQ 0)++(eQ 0))),.v (.vc (pS aG.cod [(⟨v2,0,false,0,0⟩:aG),(⟨v2,0,false,0,0⟩:aG)])),.v (.vc (pI .i64 a0)),.v (.vc (pI .i64 a2)),.v (.va (eQ v14)),.v (.vc (pI .i64 a1)),.v (.va (eQ v16)),.v (.vc (pS cQ [v14,v16])),.v (.vc (pI .i64 a3)),.v (.va (eQ v18)),.v (.va (eQ 0)),.v (.vc (pS cQ [v18,0])),.v (.va ([pI .i64 0]++[pI .i64 0]++[pI .i64 0]++[pI .i64 0]++(eQ 0)++[pS aC.cod [(⟨1,v5⟩:aC)]]++[pS aC.cod [(⟨0,v5⟩:aC)]]++(eQ v10)++(eQ 0))),.v (.vc (pS aA.cod [(⟨0,0,0,0,0,[(⟨1,v5⟩:aC)],[(⟨0,v5⟩:aC)],v10,0⟩:aA)])),.v (.va ([pS aG.cod [(⟨v2,0,false,0,0⟩:aG),(⟨v2,0,false,0,0⟩:aG)]]++[pS cQ [v14,v16]]++[pS cQ [v18,0]]++[pS aA.cod [(⟨0,0,0,0,0,[(⟨1,v5⟩:aC)],[(⟨0,v5⟩:aC)],v10,0⟩:aA)]]))] bA ⟨d0 (eV 2 17 rfl rfl rfl rfl (.agg tyA108)) zU1,d0 (eV 2 17 rfl rfl rfl rfl (.agg tyA108)) zU1,d0 (kT (C:=aG.cod) (xs:=[.tmp 23,.tmp 24]) (ps:=[.va ((eQ v2)++(eQ 0)++[pB false]++(eQ 0)++(eQ 0)),.va ((eQ v2)++(eQ 0)++[pB false]++(eQ 0)++(eQ 0))]) (zs:=[(⟨v2,0,false,0,0⟩:aG),(⟨v2,0,false,0,0⟩:aG)]) rfl tyS23 rfl ⟨⟨trivial,rfl⟩,⟨trivial,rfl⟩,trivial⟩ rfl) zU2,d0 (bP (.inl rfl)) zU1,d0 (bP (.inl rfl)) zU1,d0 (bV rfl h15 rfl) zU2,d0 (bP (.inl rfl)) zU1,d0 (bV rfl h17 rfl) ⟨rfl,lC _ _,trivial⟩,d0 (kT (C:=cQ) (xs:=[.tmp 28,.tmp 30]) (ps:=[.va (eQ v14),.va (eQ v16)]) (zs:=[v14,v16]) rfl tyS24 rfl ⟨⟨trivial,rfl⟩,⟨trivial,rfl⟩,trivial⟩ rfl) zU2,d0 (bP (.inl rfl)) zU1,d0 (bV rfl h19 rfl) ⟨rfl,lC _ _,trivial⟩,d0 (cR (is:=[]) (xs:=[]) (ps:=[]) rfl tyB44q rfl rfl trivial rfl) trivial,d0 (kT (C:=cQ) (xs:=[.tmp 33,.tmp 34]) (ps:=[.va (eQ v18),.va (eQ 0)]) (zs:=[v18,0]) rfl tyS24 rfl ⟨⟨trivial,rfl⟩,⟨trivial,rfl⟩,trivial⟩ rfl) zU2,d0 (eV 0 18 rfl rfl rfl rfl (.agg tyA51)) zU1,d0 (kT (C:=aA.cod) (xs:=[.tmp 36]) (ps:=[.va ([pI .i64 0]++[pI .i64 0]++[pI .i64 0]++[pI .i64 0]++(eQ 0)++[pS aC.cod [(⟨1,v5⟩:aC)]]++[pS aC.cod [(⟨0,v5⟩:aC)]]++(eQ v10)++(eQ 0))]) (zs:=[(⟨0,0,0,0,0,[(⟨1,v5⟩:aC)],[(⟨0,v5⟩:aC)],v10,0⟩:aA)]) rfl tyS25 rfl ⟨⟨trivial,rfl⟩,trivial⟩ rfl) zU1,d0 (cR (is:=[0,1,2,3]) (xs:=[.tmp 25,.tmp 31,.tmp 35,.tmp 37]) (ps:=[.vc (pS aG.cod [(⟨v2,0,false,0,0⟩:aG),(⟨v2,0,false,0,0⟩:aG)]),.vc (pS cQ [v14,v16]),.vc (pS cQ [v18,0]),.vc (pS aA.cod [(⟨0,0,0,0,0,[(⟨1,v5⟩:aC)],[(⟨0,v5⟩:aC)],v10,0⟩:aA)])]) rfl tyB27q rfl rfl ⟨trivial,trivial,trivial,trivial,trivial⟩ rfl) ⟨rfl,rfl,rfl,rfl,trivial⟩,trivial⟩ (fun bs13 G12=>?_)
 exact bQ
def mX (K:Nat) (a0:aI) (a1:Rat) (a2:Rat) (a3:Rat) (a4:Rat):Option Bool:=
 (qA K a0.dofs a0.load a0.v a0.rows).bind fun v6=>bif(v6.2.2 != 0) then(some false) else(bif((v6.1.length:Int) != 2) then(some false) else(bif((v6.2.1.length:Int) != 1) then(some false) else((bT v6.1 0).bind fun v13=>(uB v13 a1).bind fun v15=>bif v15 then((bT v6.1 1).bind fun v18=>(uB v18 a2).bind fun v20=>bif v20 then((bT v6.2.1 0).bind fun v23=>(uB v23.n a3).bind fun v25=>bif v25 then((bT v6.2.1 0).bind fun v28=>(uB v28.f a4).bind fun v30=>some v30) else(some false)) else(some false)) else(some false))))
theorem rG {K:Nat} {a0:aI} {a1:Rat} {a2:Rat} {a3:Rat} {a4:Rat} {r:Bool} (hF:mX K a0 a1 a2 a3 a4=some r):Ct Tryz.prog 89 [.va (aI.enc a0),.va (eQ a1),.va (eQ a2),.va (eQ a3),.va (eQ a4)] (.vc (pB r)):=by
 unfold mX at hF
 refine aJ Tryz.func89 rfl (by kernel_rfl) Tryz.ntmps89 rfl (fun w0 M0=>?_)
 refine aN (aU (cE rfl rfl trivial (fun b1=>?_)))
 refine cE rfl rfl trivial (fun b2=>?_)
 refine cE rfl rfl trivial (fun b3=>?_)
 refine cE rfl rfl trivial (fun b4=>?_)
 refine cE rfl rfl trivial (fun b5=>?_)
 obtain⟨v6,h7,hF⟩:=aY hF yX
 refine go ?_ ?_
 refine dC hF (fun h8 hF=>?_) (fun h8 hF=>?_)
 ·refine go ?_ ?_
  refine gV rfl ?_
  exact bQ
 refine go ?_ ?_
 refine dC hF (fun h9 hF=>?_) (fun h9 hF=>?_)
 ·refine go ?_ ?_
  refine gV rfl ?_
  exact bQ
 refine go ?_ ?_
 refine aL hF rfl (fun h10 hF=>?_) (fun h10 hF=>?_)
 ·exact bQ
 obtain⟨v13,h14,hF⟩:=a8 hF
 obtain⟨v15,h16,hF⟩:=aY hF rF
 refine go ?_ ?_
 rcases Bool.eq_false_or_eq_true v15 with h17|h17
 ·have hF:=sR h17 hF
  obtain⟨v18,h19,hF⟩:=a8 hF
  obtain⟨v20,h21,hF⟩:=aY hF rF
  rcases Bool.eq_false_or_eq_true v20 with h22|h22
  ·have hF:=sR h22 hF
   obtain⟨v23,h24,hF⟩:=a8 hF
   obtain⟨v25,h26,hF⟩:=aY hF rF
   rcases Bool.eq_false_or_eq_true v25 with h27|h27
   ·have hF:=sR h27 hF
    have hF:=r7 h24 hF
    obtain⟨v30,h31,hF⟩:=aY hF rF
    refine drb (0::1::3::0::15::31::63::127::255::63::1023::2047::4095::8191::16383::32767::65535::8191::262143::524287::1048575::2097151::4194303::8388607::16777215::2097151::67108863::134217727::268435455::[]) 29 0 ?_ (fun bs12 G11=>?_)
    refine bI (aP ?_)
    exact bQ
   have hF:=sP h27 hF
   refine drb (0::1::3::0::15::31::63::127::255::63::1023::2047::4095::8191::16383::32767::65535::8191::262143::524287::1048575::2097151::4194303::8388607::16777215::2097151::67108863::134217727::268435455::[]) 29 0 ?_ (fun bs12 G11=>?_)
   refine bI (aP ?_)
   exact bQ
  have hF:=sP h22 hF
  refine drb (0::1::3::0::15::31::63::127::255::63::1023::2047::4095::8191::16383::32767::65535::8191::262143::524287::1048575::2097151::4194303::8388607::16777215::2097151::67108863::134217727::268435455::[]) 29 0 ?_ (fun bs12 G11=>?_)
  refine bI (aP ?_)
  exact bQ
 have hF:=sP h17 hF
 refine drb (0::1::3::0::15::31::63::127::255::63::1023::2047::4095::8191::16383::32767::65535::8191::262143::524287::1048575::2097151::4194303::8388607::16777215::2097151::67108863::134217727::268435455::[]) 29 0 ?_ (fun bs12 G11=>?_)
 refine bI (aP ?_)
 exact bQ
def iY (K:Nat):Option Bool:=
 (zK 1 1).bind fun v2=>(zK (-1) 2).bind fun v5=>(mZ 0 (-1) 1 1).bind fun v8=>(qA K v8.dofs v8.load v8.v v8.rows).bind fun v11=>(mZ 1 (-1) 4 0).bind fun v15=>(zK (-1) 4).bind fun v17=>(mX K v15 0 0 v2 v17).bind fun v19=>bif v19 then((mZ 1 (-1) 1 0).bind fun v22=>(zK 1 4).bind fun v24=>(mX K v22 v24 0 v2 v5).bind fun v26=>bif v26 then((mZ 0 1 1 0).bind fun v29=>(zK 1 2).bind fun v31=>(mX K v29 0 v31 0 0).bind fun v33=>bif v33 then((zK (-1) 4).bind fun v36=>(mX K v8 v36 0 v2 v5).bind fun v38=>bif v38 then(bif(v11.2.2==0) then((zW K v8.v v11.1 v8.rows).bind fun v42=>bif v42 then((gF K v8.dofs v8.load v8.v v8.rows v11.1 v11.2.1).bind fun v45=>some (v45==0)) else(some false)) else(some false)) else(some false)) else(some false)) else(some false)) else(some false)
theorem rV {K:Nat} {r:Bool} (hF:iY K=some r):Ct Tryz.prog 23 [] (.vc (pB r)):=by
 unfold iY at hF
 refine aJ Tryz.func23 rfl (by kernel_rfl) Tryz.ntmps23 rfl (fun w0 M0=>?_)
 refine go ?_ ?_
 refine aO rfl tyZ44q (fun b1=>?_)
 obtain⟨v2,h3,hF⟩:=aY hF bR
 refine go ?_ ?_
 refine aO rfl tyZ44q (fun b4=>?_)
 obtain⟨v5,h6,hF⟩:=aY hF bR
 refine go ?_ ?_
 refine aO rfl tyZ44q (fun b7=>?_)
 obtain⟨v8,h9,hF⟩:=aY hF rR
 refine go ?_ ?_
 refine aO rfl tyZ27q (fun b10=>?_)
 obtain⟨v11,h12,hF⟩:=aY hF yX
 obtain⟨v15,h16,hF⟩:=aY hF rR
 obtain⟨v17,h18,hF⟩:=aY hF bR
 obtain⟨v19,h20,hF⟩:=aY hF rG
 refine go ?_ ?_
 rcases Bool.eq_false_or_eq_true v19 with h21|h21
 ·have hF:=sR h21 hF
  obtain⟨v22,h23,hF⟩:=aY hF rR
  obtain⟨v24,h25,hF⟩:=aY hF bR
  obtain⟨v26,h27,hF⟩:=aY hF rG
  rcases Bool.eq_false_or_eq_true v26 with h28|h28
  ·have hF:=sR h28 hF
   obtain⟨v29,h30,hF⟩:=aY hF rR
   obtain⟨v31,h32,hF⟩:=aY hF bR
   obtain⟨v33,h34,hF⟩:=aY hF rG
   rcases Bool.eq_false_or_eq_true v33 with h35|h35
   ·have hF:=sR h35 hF
    obtain⟨v36,h37,hF⟩:=aY hF bR
    obtain⟨v38,h39,hF⟩:=aY hF rG
    refine jJ (0::0::0::0::1::31::63::127::255::127::127::127::4095::8191::16383::32767::32767::65535::32767::32767::1048575::2097151::4194303::8388607::8388607::8388607::8388607::8388607::268435455::536870911::1073741823::[]) 31 0 (.v (.va (aI.enc v15))::.v (.va (eQ 0))::.v (.va (eQ 0))::.v (.va (eQ v2))::.v (.va (eQ v17))::.v (.vc (pB v19))::.v (.vc (pB true))::.v (.va (aI.enc v22))::.v (.va (eQ v24))::.v (.va (eQ 0))::.v (.va (eQ v2))::.v (.va (eQ v5))::.v (.vc (pB v26))::.v (.vc (pB v26))::.v (.vc (pB true))::.v (.va (aI.enc v29))::.v (.va (eQ 0))::.v (.va (eQ v31))::.v (.va (eQ 0))::.v (.va (eQ 0))::.v (.vc (pB v33))::.v (.vc (pB v33))::.v (.vc (pB true))::.v (.va (aI.enc v8))::.v (.va (eQ v36))::.v (.va (eQ 0))::.v (.va (eQ v2))::.v (.va (eQ v5))::.v (.vc (pB v38))::.v (.vc (pB v38))::.v (.vc (pB v38))::[]) bA ⟨d0 (bV rfl h16 rfl) ⟨lC _ _,lC _ _,lC _ _,lC _ _,trivial⟩,d0 (eV 3 4 rfl rfl rfl rfl (.agg tyA44)) zU1,d0 (eV 3 4 rfl rfl rfl rfl (.agg tyA44)) zU1,d0 (eV 2 4 rfl rfl rfl rfl (.agg tyA44)) zU1,d0 (bV rfl h18 rfl) ⟨lC _ _,lC _ _,trivial⟩,d0 (bV rfl h20 rfl) ⟨rfl,rfl,rfl,rfl,rfl,trivial⟩,d0 (l6 (bP (.inl rfl)) h21) zU1,g0 (bV rfl h23 rfl) ⟨lC _ _,lC _ _,lC _ _,lC _ _,trivial⟩,g0 (bV rfl h25 rfl) ⟨lC _ _,lC _ _,trivial⟩,g0 (eV 3 4 rfl rfl rfl rfl (.agg tyA44)) zU1,g0 (eV 2 4 rfl rfl rfl rfl (.agg tyA44)) zU1,g0 (eV 1 4 rfl rfl rfl rfl (.agg tyA44)) zU1,g0 (bV rfl h27 rfl) ⟨rfl,rfl,rfl,rfl,rfl,trivial⟩,d0 (xQ rfl) zU2,d0 (l6 (bP (.inl rfl)) h28) zU1,g0 (bV rfl h30 rfl) ⟨lC _ _,lC _ _,lC _ _,lC _ _,trivial⟩,g0 (eV 3 4 rfl rfl rfl rfl (.agg tyA44)) zU1,g0 (bV rfl h32 rfl) ⟨lC _ _,lC _ _,trivial⟩,g0 (eV 3 4 rfl rfl rfl rfl (.agg tyA44)) zU1,g0 (eV 3 4 rfl rfl rfl rfl (.agg tyA44)) zU1,g0 (bV rfl h34 rfl) ⟨rfl,rfl,rfl,rfl,rfl,trivial⟩,d0 (xQ rfl) zU2,d0 (l6 (bP (.inl rfl)) h35) zU1,g0 (eV 0 4 rfl rfl rfl rfl (.agg tyA27)) zU1,g0 (bV rfl h37 rfl) ⟨lC _ _,lC _ _,trivial⟩,g0 (eV 3 4 rfl rfl rfl rfl (.agg tyA44)) zU1,g0 (eV 2 4 rfl rfl rfl rfl (.agg tyA44)) zU1,g0 (eV 1 4 rfl rfl rfl rfl (.agg tyA44)) zU1,g0 (bV rfl h39 rfl) ⟨rfl,rfl,rfl,rfl,rfl,trivial⟩,d0 (xQ rfl) zU2,d0 (bP (.inr rfl)) zU1,trivial⟩ (fun bs14 G13=>?_)
    refine go ?_ ?_
    refine dC hF (fun h40 hF=>?_) (fun h40 hF=>?_)
    ·refine go ?_ ?_
     refine dC hF (fun h41 hF=>?_) (fun h41 hF=>?_)
     ·obtain⟨v42,h43,hF⟩:=aY hF aEv
      refine go ?_ ?_
      refine dC hF (fun h44 hF=>?_) (fun h44 hF=>?_)
      ·obtain⟨v45,h46,hF⟩:=aY hF qD
       exact bQ
      exact bQ
     exact bQ
    exact bQ
   have hF:=sP h35 hF
   refine jJ (0::0::0::0::1::31::63::127::255::127::127::127::4095::8191::16383::32767::32767::65535::32767::32767::1048575::2097151::4194303::8388607::8388607::8388607::8388607::8388607::268435455::536870911::1073741823::[]) 31 0 (.v (.va (aI.enc v15))::.v (.va (eQ 0))::.v (.va (eQ 0))::.v (.va (eQ v2))::.v (.va (eQ v17))::.v (.vc (pB v19))::.v (.vc (pB true))::.v (.va (aI.enc v22))::.v (.va (eQ v24))::.v (.va (eQ 0))::.v (.va (eQ v2))::.v (.va (eQ v5))::.v (.vc (pB v26))::.v (.vc (pB v26))::.v (.vc (pB true))::.v (.va (aI.enc v29))::.v (.va (eQ 0))::.v (.va (eQ v31))::.v (.va (eQ 0))::.v (.va (eQ 0))::.v (.vc (pB v33))::.v (.vc (pB v33))::.v (.vc (pB false))::.v .un::.v .un::.v .un::.v .un::.v .un::.v .un::.v (.vc (pB false))::.v (.vc (pB false))::[]) bA ⟨d0 (bV rfl h16 rfl) ⟨lC _ _,lC _ _,lC _ _,lC _ _,trivial⟩,d0 (eV 3 4 rfl rfl rfl rfl (.agg tyA44)) zU1,d0 (eV 3 4 rfl rfl rfl rfl (.agg tyA44)) zU1,d0 (eV 2 4 rfl rfl rfl rfl (.agg tyA44)) zU1,d0 (bV rfl h18 rfl) ⟨lC _ _,lC _ _,trivial⟩,d0 (bV rfl h20 rfl) ⟨rfl,rfl,rfl,rfl,rfl,trivial⟩,d0 (l6 (bP (.inl rfl)) h21) zU1,g0 (bV rfl h23 rfl) ⟨lC _ _,lC _ _,lC _ _,lC _ _,trivial⟩,g0 (bV rfl h25 rfl) ⟨lC _ _,lC _ _,trivial⟩,g0 (eV 3 4 rfl rfl rfl rfl (.agg tyA44)) zU1,g0 (eV 2 4 rfl rfl rfl rfl (.agg tyA44)) zU1,g0 (eV 1 4 rfl rfl rfl rfl (.agg tyA44)) zU1,g0 (bV rfl h27 rfl) ⟨rfl,rfl,rfl,rfl,rfl,trivial⟩,d0 (xQ rfl) zU2,d0 (l6 (bP (.inl rfl)) h28) zU1,g0 (bV rfl h30 rfl) ⟨lC _ _,lC _ _,lC _ _,lC _ _,trivial⟩,g0 (eV 3 4 rfl rfl rfl rfl (.agg tyA44)) zU1,g0 (bV rfl h32 rfl) ⟨lC _ _,lC _ _,trivial⟩,g0 (eV 3 4 rfl rfl rfl rfl (.agg tyA44)) zU1,g0 (eV 3 4 rfl rfl rfl rfl (.agg tyA44)) zU1,g0 (bV rfl h34 rfl) ⟨rfl,rfl,rfl,rfl,rfl,trivial⟩,d0 (xQ rfl) zU2,d0 (l6 (bP (.inl rfl)) h35) zU1,⟨rfl,.skipN⟩,⟨rfl,.skipN⟩,⟨rfl,.skipN⟩,⟨rfl,.skipN⟩,⟨rfl,.skipN⟩,⟨rfl,.skipN⟩,d0 (yN rfl) ⟨rfl,k_B _,trivial⟩,d0 (bP (.inr rfl)) zU1,trivial⟩ (fun bs14 G13=>?_)
   exact bQ
  have hF:=sP h28 hF
  refine jJ (0::0::0::0::1::31::63::127::255::127::127::127::4095::8191::16383::32767::32767::65535::32767::32767::1048575::2097151::4194303::8388607::8388607::8388607::8388607::8388607::268435455::536870911::1073741823::[]) 31 0 (.v (.va (aI.enc v15))::.v (.va (eQ 0))::.v (.va (eQ 0))::.v (.va (eQ v2))::.v (.va (eQ v17))::.v (.vc (pB v19))::.v (.vc (pB true))::.v (.va (aI.enc v22))::.v (.va (eQ v24))::.v (.va (eQ 0))::.v (.va (eQ v2))::.v (.va (eQ v5))::.v (.vc (pB v26))::.v (.vc (pB v26))::.v (.vc (pB false))::.v .un::.v .un::.v .un::.v .un::.v .un::.v .un::.v (.vc (pB false))::.v (.vc (pB false))::.v .un::.v .un::.v .un::.v .un::.v .un::.v .un::.v (.vc (pB false))::.v (.vc (pB false))::[]) bA ⟨d0 (bV rfl h16 rfl) ⟨lC _ _,lC _ _,lC _ _,lC _ _,trivial⟩,d0 (eV 3 4 rfl rfl rfl rfl (.agg tyA44)) zU1,d0 (eV 3 4 rfl rfl rfl rfl (.agg tyA44)) zU1,d0 (eV 2 4 rfl rfl rfl rfl (.agg tyA44)) zU1,d0 (bV rfl h18 rfl) ⟨lC _ _,lC _ _,trivial⟩,d0 (bV rfl h20 rfl) ⟨rfl,rfl,rfl,rfl,rfl,trivial⟩,d0 (l6 (bP (.inl rfl)) h21) zU1,g0 (bV rfl h23 rfl) ⟨lC _ _,lC _ _,lC _ _,lC _ _,trivial⟩,g0 (bV rfl h25 rfl) ⟨lC _ _,lC _ _,trivial⟩,g0 (eV 3 4 rfl rfl rfl rfl (.agg tyA44)) zU1,g0 (eV 2 4 rfl rfl rfl rfl (.agg tyA44)) zU1,g0 (eV 1 4 rfl rfl rfl rfl (.agg tyA44)) zU1,g0 (bV rfl h27 rfl) ⟨rfl,rfl,rfl,rfl,rfl,trivial⟩,d0 (xQ rfl) zU2,d0 (l6 (bP (.inl rfl)) h28) zU1,⟨rfl,.skipN⟩,⟨rfl,.skipN⟩,⟨rfl,.skipN⟩,⟨rfl,.skipN⟩,⟨rfl,.skipN⟩,⟨rfl,.skipN⟩,d0 (yN rfl) ⟨rfl,k_B _,trivial⟩,d0 (bP (.inl rfl)) zU1,⟨rfl,.skipN⟩,⟨rfl,.skipN⟩,⟨rfl,.skipN⟩,⟨rfl,.skipN⟩,⟨rfl,.skipN⟩,⟨rfl,.skipN⟩,d0 (yN rfl) ⟨rfl,k_B _,trivial⟩,d0 (bP (.inr rfl)) zU1,trivial⟩ (fun bs14 G13=>?_)
  exact bQ
 have hF:=sP h21 hF
 refine jJ (0::0::0::0::1::31::63::127::255::127::127::127::4095::8191::16383::32767::32767::65535::32767::32767::1048575::2097151::4194303::8388607::8388607::8388607::8388607::8388607::268435455::536870911::1073741823::[]) 31 0 (.v (.va (aI.enc v15))::.v (.va (eQ 0))::.v (.va (eQ 0))::.v (.va (eQ v2))::.v (.va (eQ v17))::.v (.vc (pB v19))::.v (.vc (pB false))::.v .un::.v .un::.v .un::.v .un::.v .un::.v .un::.v (.vc (pB false))::.v (.vc (pB false))::.v .un::.v .un::.v .un::.v .un::.v .un::.v .un::.v (.vc (pB false))::.v (.vc (pB false))::.v .un::.v .un::.v .un::.v .un::.v .un::.v .un::.v (.vc (pB false))::.v (.vc (pB false))::[]) bA ⟨d0 (bV rfl h16 rfl) ⟨lC _ _,lC _ _,lC _ _,lC _ _,trivial⟩,d0 (eV 3 4 rfl rfl rfl rfl (.agg tyA44)) zU1,d0 (eV 3 4 rfl rfl rfl rfl (.agg tyA44)) zU1,d0 (eV 2 4 rfl rfl rfl rfl (.agg tyA44)) zU1,d0 (bV rfl h18 rfl) ⟨lC _ _,lC _ _,trivial⟩,d0 (bV rfl h20 rfl) ⟨rfl,rfl,rfl,rfl,rfl,trivial⟩,d0 (l6 (bP (.inl rfl)) h21) zU1,⟨rfl,.skipN⟩,⟨rfl,.skipN⟩,⟨rfl,.skipN⟩,⟨rfl,.skipN⟩,⟨rfl,.skipN⟩,⟨rfl,.skipN⟩,d0 (yN rfl) ⟨rfl,k_B _,trivial⟩,d0 (bP (.inl rfl)) zU1,⟨rfl,.skipN⟩,⟨rfl,.skipN⟩,⟨rfl,.skipN⟩,⟨rfl,.skipN⟩,⟨rfl,.skipN⟩,⟨rfl,.skipN⟩,d0 (yN rfl) ⟨rfl,k_B _,trivial⟩,d0 (bP (.inl rfl)) zU1,⟨rfl,.skipN⟩,⟨rfl,.skipN⟩,⟨rfl,.skipN⟩,⟨rfl,.skipN⟩,⟨rfl,.skipN⟩,⟨rfl,.skipN⟩,d0 (yN rfl) ⟨rfl,k_B _,trivial⟩,d0 (bP (.inr rfl)) zU1,trivial⟩ (fun bs14 G13=>?_)
 exact bQ
def iE (K:Nat) (v1:aI) (x26:List aF):Option Bool:=
 (slL x26 0 (min (x26.length:Int) (v1.rows.length:Int))).bind fun x31=>(dH K v1.dofs v1.load v1.rows x31).bind fun v33=>bif((x26.length:Int)==(v1.rows.length:Int)) then((gF K v1.dofs v1.load v1.v v1.rows v33 x26).bind fun v38=>(fR K v1.dofs v1.load v1.v v1.rows v33 x26).bind fun v40=>bif(v38 != v40) then(some false) else((iY K).bind fun v43=>some v43)) else((iY K).bind fun v45=>some v45)
def d7 (K:Nat) (a2:Int) (a3:Int) (a4:Int) (v1:aI):Nat→(List Rat)→(List aF)→Int→Option (LR Bool (List aF))
 |0,_,_,_=>none
 |k+1,x23,x24,x25=>bif(decide (x25<2)) then((aS (4*x25)).bind fun v48=>(aS (1+v48)).bind fun v50=>(w7 a2 v50).bind fun v52=>(nY x23 x24 v52 a3 a4).bind fun v54=>(gF K v1.dofs v1.load v1.v v1.rows v54.1 v54.2).bind fun v58=>(fR K v1.dofs v1.load v1.v v1.rows v54.1 v54.2).bind fun v60=>bif(v58 != v60) then(some (.ret false)) else((aS (x25+1)).bind fun v63=>d7 K a2 a3 a4 v1 k v54.1 v54.2 v63)) else(some (.go x24))
def iF (K:Nat) (a2:Int) (a3:Int) (a4:Int) (v1:aI) (x17:List Rat) (x18:List aF):Option Bool:=
 (d7 K a2 a3 a4 v1 K x17 x18 0).bind fun o=>match o with| .ret r=>some r| .go x26=>iE K v1 x26
def iI (K:Nat) (v1:aI) (x86:List aF):Option Bool:=
 (slL x86 0 (min (x86.length:Int) (v1.rows.length:Int))).bind fun x91=>(dH K v1.dofs v1.load v1.rows x91).bind fun v93=>bif((x86.length:Int)==(v1.rows.length:Int)) then((gF K v1.dofs v1.load v1.v v1.rows v93 x86).bind fun v98=>(fR K v1.dofs v1.load v1.v v1.rows v93 x86).bind fun v100=>bif(v98 != v100) then(some false) else((iY K).bind fun v103=>some v103)) else((iY K).bind fun v105=>some v105)
def d6 (K:Nat) (a2:Int) (a3:Int) (a4:Int) (v1:aI):Nat→(List Rat)→(List aF)→Int→Option (LR Bool (List aF))
 |0,_,_,_=>none
 |k+1,x83,x84,x85=>bif(decide (x85<2)) then((aS (4*x85)).bind fun v108=>(aS (1+v108)).bind fun v110=>(w7 a2 v110).bind fun v112=>(nY x83 x84 v112 a3 a4).bind fun v114=>(gF K v1.dofs v1.load v1.v v1.rows v114.1 v114.2).bind fun v118=>(fR K v1.dofs v1.load v1.v v1.rows v114.1 v114.2).bind fun v120=>bif(v118 != v120) then(some (.ret false)) else((aS (x85+1)).bind fun v123=>d6 K a2 a3 a4 v1 k v114.1 v114.2 v123)) else(some (.go x84))
def iG (K:Nat) (a2:Int) (a3:Int) (a4:Int) (v1:aI) (x77:List Rat) (x78:List aF):Option Bool:=
 (d6 K a2 a3 a4 v1 K x77 x78 0).bind fun o=>match o with| .ret r=>some r| .go x86=>iI K v1 x86
def kO (K:Nat) (a0:List Int) (a1:Bool) (a2:Int) (a3:Int) (a4:Int):Option Bool:=
 (lO K a0 a1).bind fun v1=>(qA K v1.dofs v1.load v1.v v1.rows).bind fun v4=>(pT v1 a3).bind fun v6=>(gF K v6.dofs v6.load v6.v v6.rows v4.1 v4.2.1).bind fun v9=>bif(v9 != 1) then(some false) else(bif(v4.2.2==0) then((gF K v1.dofs v1.load v1.v v1.rows v4.1 v4.2.1).bind fun v13=>bif(v13 != 0) then(some false) else(bif(v4.2.2 != 0) then((wJ (v1.dofs.length:Int) 0).bind fun x66=>(wJ (v1.rows.length:Int) (⟨0,0⟩:aF)).bind fun x71=>iF K a2 a3 a4 v1 x66 x71) else(iF K a2 a3 a4 v1 v4.1 v4.2.1))) else(bif(v4.2.2 != 0) then((wJ (v1.dofs.length:Int) 0).bind fun x126=>(wJ (v1.rows.length:Int) (⟨0,0⟩:aF)).bind fun x131=>iG K a2 a3 a4 v1 x126 x131) else(iG K a2 a3 a4 v1 v4.1 v4.2.1)))
theorem zF {K:Nat} {a0:List Int} {a1:Bool} {a2:Int} {a3:Int} {a4:Int} {r:Bool} (hF:kO K a0 a1 a2 a3 a4=some r):Ct Tryz.prog 3 [.vc (pS cI a0),.vc (pB a1),.vc (pI .i64 a2),.vc (pI .i64 a3),.vc (pI .i64 a4)] (.vc (pB r)):=by
 unfold kO at hF
 refine aJ Tryz.func3 rfl (by kernel_rfl) Tryz.ntmps3 rfl (fun w0 M0=>?_)
 obtain⟨v1,h2,hF⟩:=aY hF aB4
 refine go ?_ ?_
 refine aO rfl tyZ27q (fun b3=>?_)
 obtain⟨v4,h5,hF⟩:=aY hF yX
 obtain⟨v6,h7,hF⟩:=aY hF aBr
 refine go ?_ ?_
 refine aO rfl tyZ27q (fun b8=>?_)
 obtain⟨v9,h10,hF⟩:=aY hF qD
 refine go ?_ ?_
 refine aL hF rfl (fun h11 hF=>?_) (fun h11 hF=>?_)
 ·exact bQ
 refine go ?_ ?_
 refine dC hF (fun h12 hF=>?_) (fun h12 hF=>?_)
 ·obtain⟨v13,h14,hF⟩:=aY hF qD
  refine go ?_ ?_
  refine aL hF rfl (fun h15 hF=>?_) (fun h15 hF=>?_)
  ·exact bQ
  refine iR (aP (aN (uU (fun H E=>∃(x17:List Rat),∃(x18:List aF),iF K a2 a3 a4 v1 x17 x18=some r∧H=[⟨some b3,1,27,4,1,(aI.enc v1)⟩]∧E=[(2,.vc (pI .i64 a2)),(3,.vc (pI .i64 a3)),(4,.vc (pI .i64 a4)),(11,.vc (pP (some b3) 0)),(12,.vc (pS cQ x17)),(13,.vc (pS aF.cod x18))]) ?_ (fun Jj19=>?_))))
  ·rintro _ _ ⟨x17,x18,hF,rfl,rfl⟩
   unfold iF at hF
   refine go ?_ ?_
   refine aQ (bY (fun H E=>∃(x26:List aF),iE K v1 x26=some r∧H=[⟨some b3,1,27,4,1,(aI.enc v1)⟩]∧E=[(11,.vc (pP (some b3) 0)),(13,.vc (pS aF.cod x26))]) ?_ (fun Jj28=>?_))
   ·rintro _ _ ⟨x26,hF,rfl,rfl⟩
    unfold iE at hF
    refine aP (aN ?_)
    obtain⟨x31,h32,hF⟩:=a8 hF
    obtain⟨v33,h34,hF⟩:=aY hF o9
    refine dr [0,1,0,4,0,16,0,0,128,0,512,1536,3968,8128,16383,32767] 16 0 ?_ (fun bs30 G29=>?_)
    refine go ?_ ?_
    rcases Bool.eq_false_or_eq_true ((x26.length:Int)==(v1.rows.length:Int)) with h37|h37
    ·have hF:=sR h37 hF
     obtain⟨v38,h39,hF⟩:=aY hF qD
     obtain⟨v40,h41,hF⟩:=aY hF rM
     refine drb (0::1::0::4::12::31::63::127::255::127::639::127::2175::127::8319::127::127::131071::127::262271::127::1048703::127::4194431::127::16777343::127::127::268435455::536870911::1073741823::[]) 31 0 ?_ (fun bs36 G35=>?_)
     refine bI (aP (aL hF rfl (fun h42 hF=>?_) (fun h42 hF=>?_)))
     ·exact bQ
     obtain⟨v43,h44,hF⟩:=aY hF rV
     exact bQ
    have hF:=sP h37 hF
    refine drb (0::1::0::4::12::31::63::127::255::127::639::127::2175::127::8319::127::127::131071::127::262271::127::1048703::127::4194431::127::16777343::127::127::268435455::536870911::1073741823::[]) 31 0 ?_ (fun bs36 G35=>?_)
    refine bI (aP (sS rfl ?_))
    obtain⟨v45,h46,hF⟩:=aY hF rV
    exact bQ
   obtain⟨ol27,hL,hRl27⟩:=a8 hF
   refine hY (fun k a w=>∃(x23:List Rat),∃(x24:List aF),∃(x25:Int),d7 K a2 a3 a4 v1 k x23 x24 x25=some ol27∧hs _ [⟨some b3,1,27,4,1,(aI.enc v1)⟩] [(2,.vc (pI .i64 a2)),(3,.vc (pI .i64 a3)),(4,.vc (pI .i64 a4)),(11,.vc (pP (some b3) 0)),(12,.vc (pS cQ x23)),(13,.vc (pS aF.cod x24)),(16,.vc (pI .i64 x25))] a w) K (fun a w ⟨_,_,_,hF,_⟩=>by cases hF) (fun k a w ⟨x23,x24,x25,hF,hh⟩=>iA ?_ hh) (fun a w hh=>⟨x17,x18,0,hL,gJ [0] hh⟩)
   rw [d7.eq_2] at hF
   refine go ?_ ?_
   refine aL hF rfl (fun h47 hF=>?_) (fun h47 hF=>?_)
   ·refine go ?_ ?_
    refine aQ ?_
    obtain⟨v48,h49,v50,h51,v52,h53,hF⟩:=bn3 hF
    obtain⟨v54,h55,hF⟩:=aY hF yF
    obtain⟨v58,h59,hF⟩:=aY hF qD
    obtain⟨v60,h61,hF⟩:=aY hF rM
    refine go ?_ ?_
    refine dr [0,1,0,4,0,16,0,64,0,0,1023,0,2048,0,8192,0,32768,0,131072,0,0,2097151,4194303] 23 0 ?_ (fun bs57 G56=>?_)
    refine bI (aP (aL hF rfl (fun h62 hF=>?_) (fun h62 hF=>?_)))
    ·exact bQ
    obtain⟨v63,h64,hF⟩:=a8 hF
    refine go ?_ ?_
    exact aM (fun a w hh=>⟨v54.1,v54.2,v63,hF,gJ [0] hh⟩)
   refine cU ?_
   obtain rfl:=oN hF
   exact p9 Jj28 ⟨x24,hRl27,rfl,rfl⟩ [0]
  refine go ?_ ?_
  refine aL hF rfl (fun h65 hF=>?_) (fun h65 hF=>?_)
  ·obtain⟨x66,h67,hF⟩:=a8 hF
   refine go ?_ ?_
   refine tD (C:=cQ) rfl tyS24 rfl tyZ44q rfl h67 (fun b68=>?_)
   obtain⟨x71,h72,hF⟩:=a8 hF
   refine go ?_ ?_
   refine tD (C:=aF.cod) (z:=(⟨0,0⟩:aF)) rfl tyS29 rfl tyZ58q rfl h72 (fun b73=>?_)
   refine aAm ?_
   refine bI (oI 1 [12,70] rfl rfl zU2 rfl ?_)
   refine oI 0 [13,74] rfl rfl zU2 rfl ?_
   exact p9 Jj19 ⟨x66,x71,hF,rfl,rfl⟩ [1]
  refine iR ?_
  exact p9 Jj19 ⟨v4.1,v4.2.1,hF,rfl,rfl⟩ [1]
 refine go ?_ ?_
 refine sS rfl ?_
 refine iR (aP (aN (uU (fun H E=>∃(x77:List Rat),∃(x78:List aF),iG K a2 a3 a4 v1 x77 x78=some r∧H=[⟨some b3,1,27,4,1,(aI.enc v1)⟩]∧E=[(2,.vc (pI .i64 a2)),(3,.vc (pI .i64 a3)),(4,.vc (pI .i64 a4)),(11,.vc (pP (some b3) 0)),(12,.vc (pS cQ x77)),(13,.vc (pS aF.cod x78))]) ?_ (fun Jj79=>?_))))
 ·rintro _ _ ⟨x77,x78,hF,rfl,rfl⟩
  unfold iG at hF
  refine go ?_ ?_
  refine aQ (bY (fun H E=>∃(x86:List aF),iI K v1 x86=some r∧H=[⟨some b3,1,27,4,1,(aI.enc v1)⟩]∧E=[(11,.vc (pP (some b3) 0)),(13,.vc (pS aF.cod x86))]) ?_ (fun Jj88=>?_))
  ·rintro _ _ ⟨x86,hF,rfl,rfl⟩
   unfold iI at hF
   refine aP (aN ?_)
   obtain⟨x91,h92,hF⟩:=a8 hF
   obtain⟨v93,h94,hF⟩:=aY hF o9
   refine dr [0,1,0,4,0,16,0,0,128,0,512,1536,3968,8128,16383,32767] 16 0 ?_ (fun bs90 G89=>?_)
   refine go ?_ ?_
   rcases Bool.eq_false_or_eq_true ((x86.length:Int)==(v1.rows.length:Int)) with h97|h97
   ·have hF:=sR h97 hF
    obtain⟨v98,h99,hF⟩:=aY hF qD
    obtain⟨v100,h101,hF⟩:=aY hF rM
    refine drb (0::1::0::4::12::31::63::127::255::127::639::127::2175::127::8319::127::127::131071::127::262271::127::1048703::127::4194431::127::16777343::127::127::268435455::536870911::1073741823::[]) 31 0 ?_ (fun bs96 G95=>?_)
    refine bI (aP (aL hF rfl (fun h102 hF=>?_) (fun h102 hF=>?_)))
    ·exact bQ
    obtain⟨v103,h104,hF⟩:=aY hF rV
    exact bQ
   have hF:=sP h97 hF
   refine drb (0::1::0::4::12::31::63::127::255::127::639::127::2175::127::8319::127::127::131071::127::262271::127::1048703::127::4194431::127::16777343::127::127::268435455::536870911::1073741823::[]) 31 0 ?_ (fun bs96 G95=>?_)
   refine bI (aP (sS rfl ?_))
   obtain⟨v105,h106,hF⟩:=aY hF rV
   exact bQ
  obtain⟨ol87,hL,hRl87⟩:=a8 hF
  refine hY (fun k a w=>∃(x83:List Rat),∃(x84:List aF),∃(x85:Int),d6 K a2 a3 a4 v1 k x83 x84 x85=some ol87∧hs _ [⟨some b3,1,27,4,1,(aI.enc v1)⟩] [(2,.vc (pI .i64 a2)),(3,.vc (pI .i64 a3)),(4,.vc (pI .i64 a4)),(11,.vc (pP (some b3) 0)),(12,.vc (pS cQ x83)),(13,.vc (pS aF.cod x84)),(16,.vc (pI .i64 x85))] a w) K (fun a w ⟨_,_,_,hF,_⟩=>by cases hF) (fun k a w ⟨x83,x84,x85,hF,hh⟩=>iA ?_ hh) (fun a w hh=>⟨x77,x78,0,hL,gJ [0] hh⟩)
  rw [d6.eq_2] at hF
  refine go ?_ ?_
  refine aL hF rfl (fun h107 hF=>?_) (fun h107 hF=>?_)
  ·refine go ?_ ?_
   refine aQ ?_
   obtain⟨v108,h109,v110,h111,v112,h113,hF⟩:=bn3 hF
   obtain⟨v114,h115,hF⟩:=aY hF yF
   obtain⟨v118,h119,hF⟩:=aY hF qD
   obtain⟨v120,h121,hF⟩:=aY hF rM
   refine go ?_ ?_
   refine dr [0,1,0,4,0,16,0,64,0,0,1023,0,2048,0,8192,0,32768,0,131072,0,0,2097151,4194303] 23 0 ?_ (fun bs117 G116=>?_)
   refine bI (aP (aL hF rfl (fun h122 hF=>?_) (fun h122 hF=>?_)))
   ·exact bQ
   obtain⟨v123,h124,hF⟩:=a8 hF
   refine go ?_ ?_
   exact aM (fun a w hh=>⟨v114.1,v114.2,v123,hF,gJ [0] hh⟩)
  refine cU ?_
  obtain rfl:=oN hF
  exact p9 Jj88 ⟨x84,hRl87,rfl,rfl⟩ [0]
 refine go ?_ ?_
 refine aL hF rfl (fun h125 hF=>?_) (fun h125 hF=>?_)
 ·obtain⟨x126,h127,hF⟩:=a8 hF
  refine go ?_ ?_
  refine tD (C:=cQ) rfl tyS24 rfl tyZ44q rfl h127 (fun b128=>?_)
  obtain⟨x131,h132,hF⟩:=a8 hF
  refine go ?_ ?_
  refine tD (C:=aF.cod) (z:=(⟨0,0⟩:aF)) rfl tyS29 rfl tyZ58q rfl h132 (fun b133=>?_)
  refine aAm ?_
  refine bI (oI 1 [12,70] rfl rfl zU2 rfl ?_)
  refine oI 0 [13,74] rfl rfl zU2 rfl ?_
  exact p9 Jj79 ⟨x126,x131,hF,rfl,rfl⟩ [1]
 refine iR ?_
 exact p9 Jj79 ⟨v4.1,v4.2.1,hF,rfl,rfl⟩ [1]
end Go.Proofs.YtcjdedkdoagifaaGreat
set_option linter.unusedVariables false
set_option maxRecDepth 100000
namespace Go.Proofs.YtcjdedkdoagifaaGreat
def uF (K:Nat) (x17:List aZ):Option (List aZ):=
 some x17
def fG (K:Nat) (a0:List Rat) (a1:List aA):Nat→(List aZ)→Int→Option (List aZ)
 |0,_,_=>none
 |k+1,x10,x16=>bif(decide (x16<(a1.length:Int))) then((pA x10 [(⟨x16,0⟩:aZ)]).bind fun x26=>(bT a1 x16).bind fun v33=>bif(decide (0<(v33.t.length:Int))) then((bT a1 x16).bind fun v36=>(jT K v36 a0).bind fun v38=>bif(v38==0) then((pA x26 [(⟨x16,1⟩:aZ),(⟨x16,2⟩:aZ),(⟨x16,3⟩:aZ)]).bind fun x41=>(aS (x16+1)).bind fun v48=>fG K a0 a1 k x41 v48) else((aS (x16+1)).bind fun v50=>fG K a0 a1 k x26 v50)) else((aS (x16+1)).bind fun v52=>fG K a0 a1 k x26 v52)) else(some x10)
def kK (K:Nat) (a0:List Rat) (a1:List aA):Option (List aZ):=
 (fG K a0 a1 K ([]:List aZ) 0).bind fun x17=>uF K x17
def u6 (K:Nat) (a0:aA) (a1:List Rat) (a2:List Rat):Option aF:=
 (jT K a0 a1).bind fun v3=>bif((a0.t.length:Int)==0) then((bT a2 0).bind fun v6=>some (⟨v6,0⟩:aF)) else(bif(v3 != 0) then((bT a2 0).bind fun v11=>(aS (-v3)).bind fun v13=>(zK v13 1).bind fun v15=>(bT a2 0).bind fun v17=>(xU a0.mu v17).bind fun v19=>(xU v15 v19).bind fun v21=>some (⟨v11,v21⟩:aF)) else((bT a2 0).bind fun v25=>(bT a2 1).bind fun v27=>(bT a2 2).bind fun v29=>(aFB v27 v29).bind fun v31=>some (⟨v25,v31⟩:aF)))
def vC (K:Nat) (x19:List aF):Option (List aF):=
 some x19
def vA (K:Nat) (a0:List Rat) (a1:List aA) (x12:List aF) (x18:Int) (recl25:(List aF)→Int→Option (List aF)) (x47:List Rat):Option (List aF):=
 (bT a1 x18).bind fun v55=>(u6 K v55 a0 x47).bind fun v57=>(pA x12 [v57]).bind fun x59=>(aS (x18+1)).bind fun v66=>recl25 x59 v66
def iV (K:Nat) (a2:List Rat) (v3:List aZ) (x18:Int):Nat→(List Rat)→Int→Option (List Rat)
 |0,_,_=>none
 |k+1,x40,x46=>bif(decide (x46<(v3.length:Int))) then((bT v3 x46).bind fun v69=>bif(v69.row==x18) then((bT v3 x46).bind fun v74=>(bT a2 x46).bind fun v76=>(bT x40 v74.kind).bind fun v78=>(pC x40 v74.kind v76).bind fun x80=>(aS (x46+1)).bind fun v83=>iV K a2 v3 x18 k x80 v83) else((aS (x46+1)).bind fun v85=>iV K a2 v3 x18 k x40 v85)) else(some x40)
def lJ (K:Nat) (a0:List Rat) (a1:List aA) (a2:List Rat) (v3:List aZ):Nat→(List aF)→Int→Option (List aF)
 |0,_,_=>none
 |k+1,x12,x18=>bif(decide (x18<(a1.length:Int))) then((wJ 4 0).bind fun x28=>(iV K a2 v3 x18 K x28 0).bind fun x47=>vA K a0 a1 x12 x18 (lJ K a0 a1 a2 v3 k) x47) else(some x12)
def rK (K:Nat) (a0:List Rat) (a1:List aA) (a2:List Rat):Option (List aF):=
 (kK K a0 a1).bind fun v3=>(lJ K a0 a1 a2 v3 K ([]:List aF) 0).bind fun x19=>vC K x19
def vK (K:Nat) (x23:List Rat):Option (List Rat):=
 some x23
def eW (K:Nat) (a3:List aA) (a4:List Rat) (v3:List Rat) (v5:List aZ):Nat→(List Rat)→Int→Option (List Rat)
 |0,_,_=>none
 |k+1,x16,x22=>bif(decide (x22<(v5.length:Int))) then((bT v5 x22).bind fun v32=>(bT a3 v32.row).bind fun v34=>(bT v5 x22).bind fun v37=>bif(v37.kind==0) then((dW K v34.j v3).bind fun v40=>(pA x16 [v40]).bind fun x42=>(aS (x22+1)).bind fun v49=>eW K a3 a4 v3 v5 k x42 v49) else(bif(v37.kind==1) then((dW K v34.t v3).bind fun v54=>(aS (x22+2)).bind fun v56=>(bT a4 v56).bind fun v58=>(aCC v54 v58).bind fun v60=>(pA x16 [v60]).bind fun x62=>(aS (x22+1)).bind fun v69=>eW K a3 a4 v3 v5 k x62 v69) else(bif(v37.kind==2) then((aS (x22+1)).bind fun v74=>(bT a4 v74).bind fun v76=>(dW K v34.t v3).bind fun v78=>(aFB v76 v78).bind fun v80=>(pA x16 [v80]).bind fun x82=>(aS (x22+1)).bind fun v89=>eW K a3 a4 v3 v5 k x82 v89) else((aS (x22-3)).bind fun v93=>(bT a4 v93).bind fun v95=>(xU v34.mu v95).bind fun v97=>(aS (x22-2)).bind fun v99=>(bT a4 v99).bind fun v101=>(aS (x22-1)).bind fun v103=>(bT a4 v103).bind fun v105=>(aCC v101 v105).bind fun v107=>(aFB v97 v107).bind fun v109=>(pA x16 [v109]).bind fun x111=>(aS (x22+1)).bind fun v118=>eW K a3 a4 v3 v5 k x111 v118)))) else(some x16)
def oJ (K:Nat) (a0:List aG) (a1:List Rat) (a2:List Rat) (a3:List aA) (a4:List Rat):Option (List Rat):=
 (rK K a2 a3 a4).bind fun v1=>(dH K a0 a1 a3 v1).bind fun v3=>(kK K a2 a3).bind fun v5=>(eW K a3 a4 v3 v5 K ([]:List Rat) 0).bind fun x23=>vK K x23
def vS (a0:List (List Rat)):Option Int:=
 bif((a0.length:Int)==0) then(some 0) else((bT a0 0).bind fun v2=>some (v2.length:Int))
def wS (K:Nat) (x17:List (List Rat)):Option (List (List Rat)):=
 some x17
def wO (K:Nat) (x10:List (List Rat)) (x16:Int) (recl23:(List (List Rat))→Int→Option (List (List Rat))) (x44:List Rat):Option (List (List Rat)):=
 (pA x10 [x44]).bind fun x52=>(aS (x16+1)).bind fun v59=>recl23 x52 v59
def mR (K:Nat) (a0:List (List Rat)) (x16:Int):Nat→(List Rat)→Int→Option (List Rat)
 |0,_,_=>none
 |k+1,x37,x43=>bif(decide (x43<(a0.length:Int))) then((bT a0 x43).bind fun v62=>(bT v62 x16).bind fun v64=>(pA x37 [v64]).bind fun x66=>(aS (x43+1)).bind fun v73=>mR K a0 x16 k x66 v73) else(some x37)
def mI (K:Nat) (a0:List (List Rat)):Nat→(List (List Rat))→Int→Option (List (List Rat))
 |0,_,_=>none
 |k+1,x10,x16=>(vS a0).bind fun v25=>bif(decide (x16<v25)) then((mR K a0 x16 K ([]:List Rat) 0).bind fun x44=>wO K x10 x16 (mI K a0 k) x44) else(some x10)
def vV (K:Nat) (a0:List (List Rat)):Option (List (List Rat)):=
 (mI K a0 K ([]:List (List Rat)) 0).bind fun x17=>wS K x17
def uR (K:Nat) (v11:List Rat) (x29:List (List Rat)):Option ((List (List Rat))×(List Rat)):=
 (vV K x29).bind fun v37=>some (v37,v11)
def uP (K:Nat) (x22:List (List Rat)) (x28:Int) (recl35:(List (List Rat))→Int→Option (List (List Rat))) (x70:List Rat):Option (List (List Rat)):=
 (pA x22 [x70]).bind fun x78=>(aS (x28+1)).bind fun v85=>recl35 x78 v85
def kR (K:Nat) (v4:List aZ) (v11:List Rat) (v52:List Rat):Nat→(List Rat)→Int→Option (List Rat)
 |0,_,_=>none
 |k+1,x63,x69=>bif(decide (x69<(v4.length:Int))) then((bT v52 x69).bind fun v90=>(bT v11 x69).bind fun v92=>(aFB v90 v92).bind fun v94=>(pA x63 [v94]).bind fun x96=>(aS (x69+1)).bind fun v103=>kR K v4 v11 v52 k x96 v103) else(some x63)
def kU (K:Nat) (a0:List aG) (a1:List Rat) (a2:List Rat) (a3:List aA) (v4:List aZ) (v11:List Rat):Nat→(List (List Rat))→Int→Option (List (List Rat))
 |0,_,_=>none
 |k+1,x22,x28=>bif(decide (x28<(v4.length:Int))) then((wJ (v4.length:Int) 0).bind fun x40=>(zK 1 1).bind fun v45=>(bT x40 x28).bind fun v47=>(pC x40 x28 v45).bind fun x49=>(oJ K a0 a1 a2 a3 x49).bind fun v52=>(kR K v4 v11 v52 K ([]:List Rat) 0).bind fun x70=>uP K x22 x28 (kU K a0 a1 a2 a3 v4 v11 k) x70) else(some x22)
def tP (K:Nat) (a0:List aG) (a1:List Rat) (a2:List Rat) (a3:List aA):Option ((List (List Rat))×(List Rat)):=
 (mB K a0 a1 a2 a3).bind fun v1=>bif(!v1) then(some ([],[])) else((kK K a2 a3).bind fun v4=>(wJ (v4.length:Int) 0).bind fun x6=>(oJ K a0 a1 a2 a3 x6).bind fun v11=>(kU K a0 a1 a2 a3 v4 v11 K ([]:List (List Rat)) 0).bind fun x29=>uR K v11 x29)
def xC (K:Nat):Option Bool:=
 some true
def nM (K:Nat) (a0:List Rat):Nat→Int→Option (LR Bool Unit)
 |0,_=>none
 |k+1,x2=>bif(decide (x2<(a0.length:Int))) then((bT a0 x2).bind fun v6=>(aAV v6).bind fun v8=>bif(!v8) then(some (.ret false)) else((aS (x2+1)).bind fun v11=>nM K a0 k v11)) else(some (.go ()))
def tB (K:Nat) (a0:List Rat):Option Bool:=
 (nM K a0 K 0).bind fun o=>match o with| .ret r=>some r| .go _=>xC K
def w5 (K:Nat):Option Bool:=
 some true
def mG (K:Nat) (a0:List (List Rat)) (a1:List Rat):Nat→Int→Option (LR Bool Unit)
 |0,_=>none
 |k+1,x7=>bif(decide (x7<(a0.length:Int))) then((bT a0 x7).bind fun v11=>bif((v11.length:Int) != (a1.length:Int)) then(some (.ret false)) else((bT a0 x7).bind fun v14=>(tB K v14).bind fun v16=>bif(!v16) then(some (.ret false)) else((aS (x7+1)).bind fun v19=>mG K a0 a1 k v19))) else(some (.go ()))
def uX (K:Nat) (a0:List (List Rat)) (a1:List Rat):Option Bool:=
 bif((a0.length:Int) != (a1.length:Int)) then(some false) else(bif(decide (32<(a1.length:Int))) then(some false) else((tB K a1).bind fun v3=>bif(!v3) then(some false) else((mG K a0 a1 K 0).bind fun o=>match o with| .ret r=>some r| .go _=>w5 K)))
def uQ (K:Nat):Option Bool:=
 some false
def kQ (K:Nat) (a0:List Rat):Nat→Int→Option (LR Bool Unit)
 |0,_=>none
 |k+1,x2=>bif(decide (x2<(a0.length:Int))) then((bT a0 x2).bind fun v6=>(uI v6).bind fun v8=>bif(decide (v8<0)) then(some (.ret true)) else((aS (x2+1)).bind fun v11=>kQ K a0 k v11)) else(some (.go ()))
def sT (K:Nat) (a0:List Rat):Option Bool:=
 (kQ K a0 K 0).bind fun o=>match o with| .ret r=>some r| .go _=>uQ K
def wC (K:Nat):Option Bool:=
 some false
def jM (K:Nat) (a0:List Rat) (a1:List Rat):Nat→Int→Option (LR Bool Unit)
 |0,_=>none
 |k+1,x2=>bif(decide (x2<(a0.length:Int))) then(bif(decide (x2<(a1.length:Int))) then((bT a0 x2).bind fun v9=>(bT a1 x2).bind fun v11=>(aC8 v9 v11).bind fun v13=>bif(v13 != 0) then(some (.ret (decide (v13<0)))) else((aS (x2+1)).bind fun v16=>jM K a0 a1 k v16)) else(some (.go ()))) else(some (.go ()))
def oK (K:Nat) (a0:List Rat) (a1:List Rat):Option Bool:=
 (jM K a0 a1 K 0).bind fun o=>match o with| .ret r=>some r| .go _=>wC K
def xB (K:Nat) (x29:List Rat):Option (List Rat):=
 some x29
def nL (K:Nat) (a0:List Rat) (a1:Int) (a2:Rat):Nat→(List Rat)→Int→Option (List Rat)
 |0,_,_=>none
 |k+1,x22,x28=>bif(decide (x28<a1)) then((bT a0 x28).bind fun v40=>(aGT v40 a2).bind fun v42=>(pA x22 [v42]).bind fun x44=>(aS (x28+1)).bind fun v51=>nL K a0 a1 a2 k x44 v51) else(some x22)
def oR (K:Nat) (a0:List Rat) (a1:Int) (a2:Rat):Option (List Rat):=
 (aS (2*a1)).bind fun v4=>(aS (v4+1)).bind fun v6=>(bT a0 v6).bind fun v8=>(aGT v8 a2).bind fun v10=>(nL K a0 a1 a2 K [v10] 0).bind fun x29=>xB K x29
def wB (K:Nat) (x41:List (List Rat)):Option (List (List Rat)):=
 some x41
def wG (K:Nat) (x34:List (List Rat)) (x40:Int) (recl47:(List (List Rat))→Int→Option (List (List Rat))) (x76:List Rat):Option (List (List Rat)):=
 (pA x34 [x76]).bind fun x84=>(aS (x40+1)).bind fun v91=>recl47 x84 v91
def lX (K:Nat) (a0:List (List Rat)) (a2:Int) (x17:List Rat) (x40:Int):Nat→(List Rat)→Int→Option (List Rat)
 |0,_,_=>none
 |k+1,x69,x75=>bif(decide (x75<(x17.length:Int))) then((bT a0 x40).bind fun v96=>(bT v96 x75).bind fun v98=>(bT a0 x40).bind fun v100=>(bT v100 a2).bind fun v102=>(bT x17 x75).bind fun v104=>(xU v102 v104).bind fun v106=>(aFB v98 v106).bind fun v108=>(pA x69 [v108]).bind fun x110=>(aS (x75+1)).bind fun v117=>lX K a0 a2 x17 x40 k x110 v117) else(some x69)
def gT (K:Nat) (a0:List (List Rat)) (a1:Int) (a2:Int) (x17:List Rat):Nat→(List (List Rat))→Int→Option (List (List Rat))
 |0,_,_=>none
 |k+1,x34,x40=>bif(decide (x40<(a0.length:Int))) then(bif(x40==a1) then((pA x34 [x17]).bind fun x51=>(aS (x40+1)).bind fun v58=>gT K a0 a1 a2 x17 k x51 v58) else((lX K a0 a2 x17 x40 K ([]:List Rat) 0).bind fun x76=>wG K x34 x40 (gT K a0 a1 a2 x17 k) x76)) else(some x34)
def wD (K:Nat) (a0:List (List Rat)) (a1:Int) (a2:Int) (x17:List Rat):Option (List (List Rat)):=
 (gT K a0 a1 a2 x17 K ([]:List (List Rat)) 0).bind fun x41=>wB K x41
def lW (K:Nat) (a0:List (List Rat)) (a1:Int) (a2:Int):Nat→(List Rat)→Int→Option (List Rat)
 |0,_,_=>none
 |k+1,x10,x16=>(bT a0 a1).bind fun v119=>bif(decide (x16<(v119.length:Int))) then((bT a0 a1).bind fun v124=>(bT v124 x16).bind fun v126=>(bT a0 a1).bind fun v128=>(bT v128 a2).bind fun v130=>(aGT v126 v130).bind fun v132=>(pA x10 [v132]).bind fun x134=>(aS (x16+1)).bind fun v141=>lW K a0 a1 a2 k x134 v141) else(some x10)
def uZ (K:Nat) (a0:List (List Rat)) (a1:Int) (a2:Int):Option (List (List Rat)):=
 (lW K a0 a1 a2 K ([]:List Rat) 0).bind fun x17=>wD K a0 a1 a2 x17
def aAr (K:Nat):Option (aT×Int):=
 none
def vB (K:Nat) (v95:Int) (x155:List Rat) (x161:List Rat):Option (LR (aT×Int) Unit):=
 some (.ret ((⟨x161,x155,v95⟩:aT),0))
def gD (K:Nat) (a1:List Rat) (v93:List (List Rat)) (x101:List Int):Nat→(List Rat)→(List Rat)→Int→Option ((List Rat)×(List Rat))
 |0,_,_,_=>none
 |k+1,x142,x148,x154=>bif(decide (x154<(a1.length:Int))) then((bT x101 x154).bind fun v170=>bif(decide (v170<(a1.length:Int))) then((bT x101 x154).bind fun v175=>(bT v93 x154).bind fun v177=>(aS (2*(a1.length:Int))).bind fun v179=>(aS (v179+1)).bind fun v181=>(bT v177 v181).bind fun v183=>(bT x142 v175).bind fun v185=>(pC x142 v175 v183).bind fun x187=>(aS (x154+1)).bind fun v190=>gD K a1 v93 x101 k x187 x148 v190) else((bT x101 x154).bind fun v194=>(aS (v194-(a1.length:Int))).bind fun v196=>(bT v93 x154).bind fun v198=>(aS (2*(a1.length:Int))).bind fun v200=>(aS (v200+1)).bind fun v202=>(bT v198 v202).bind fun v204=>(bT x148 v196).bind fun v206=>(pC x148 v196 v204).bind fun x208=>(aS (x154+1)).bind fun v211=>gD K a1 v93 x101 k x142 x208 v211)) else(some (x142,x148))
def vH (K:Nat) (v93:List (List Rat)) (v95:Int) (x101:List Int) (v217:Int) (recl90:(List Int)→(List (List Rat))→Int→Int→Int→Option (LR (aT×Int) Unit)) (x223:Int):Option (LR (aT×Int) Unit):=
 bif(decide (x223<0)) then(some (.ret ((⟨([]:List Rat),([]:List Rat),0⟩:aT),15))) else(recl90 x101 v93 x223 v217 v95)
def eZ (K:Nat) (a1:List Rat) (v93:List (List Rat)) (v217:Int):Nat→Int→Int→Option Int
 |0,_,_=>none
 |k+1,x221,x222=>bif(decide (x222<(a1.length:Int))) then((bT v93 x222).bind fun v228=>(bT v228 v217).bind fun v230=>(uI v230).bind fun v232=>bif(decide (v232≤0)) then((aS (x222+1)).bind fun v235=>eZ K a1 v93 v217 k x221 v235) else(bif(decide (x221<0)) then((aS (x222+1)).bind fun v240=>eZ K a1 v93 v217 k x222 v240) else((bT v93 x222).bind fun v242=>(bT v93 x222).bind fun v244=>(bT v244 v217).bind fun v246=>(oR K v242 (a1.length:Int) v246).bind fun v248=>(bT v93 x221).bind fun v250=>(bT v93 x221).bind fun v252=>(bT v252 v217).bind fun v254=>(oR K v250 (a1.length:Int) v254).bind fun v256=>(oK K v248 v256).bind fun v258=>bif v258 then((aS (x222+1)).bind fun v261=>eZ K a1 v93 v217 k x222 v261) else((aS (x222+1)).bind fun v263=>eZ K a1 v93 v217 k x221 v263)))) else(some x221)
def lZ (K:Nat) (a1:List Rat) (a2:Int):Nat→(List Int)→(List (List Rat))→Int→Int→Int→Option (LR (aT×Int) Unit)
 |0,_,_,_,_,_=>none
 |k+1,x80,x86,x87,x88,x89=>bif(x89==a2) then(some (.ret ((⟨([]:List Rat),([]:List Rat),0⟩:aT),16))) else((uZ K x86 x87 x88).bind fun v93=>(aS (x89+1)).bind fun v95=>(bT x80 x87).bind fun v97=>(bT x80 x87).bind fun v99=>(pC x80 x87 x88).bind fun x101=>(aS (2*(a1.length:Int))).bind fun v104=>bif(v97==v104) then((wJ (a1.length:Int) 0).bind fun x109=>(wJ (a1.length:Int) 0).bind fun x113=>(gD K a1 v93 x101 K x113 x109 0).bind fun(x155,x161)=>vB K v95 x155 x161) else((aS (v97+(a1.length:Int))).bind fun v213=>(aS (2*(a1.length:Int))).bind fun v215=>(xG v213 v215).bind fun v217=>(eZ K a1 v93 v217 K (-1) 0).bind fun x223=>vH K v93 v95 x101 v217 (lZ K a1 a2 k) x223))
def wH (K:Nat) (a1:List Rat) (a2:Int) (x47:List Int) (x53:List (List Rat)) (x65:Int):Option (aT×Int):=
 (aS (2*(a1.length:Int))).bind fun v68=>(lZ K a1 a2 K x47 x53 x65 v68 0).bind fun o=>match o with| .ret r=>some r| .go _=>aAr K
def jN (K:Nat) (a1:List Rat) (v14:Rat) (x53:List (List Rat)):Nat→Int→Int→Option Int
 |0,_,_=>none
 |k+1,x63,x64=>bif(decide (x64<(a1.length:Int))) then((bT x53 x64).bind fun v268=>(oR K v268 (a1.length:Int) v14).bind fun v270=>(bT x53 x63).bind fun v272=>(oR K v272 (a1.length:Int) v14).bind fun v274=>(oK K v270 v274).bind fun v276=>bif v276 then((aS (x64+1)).bind fun v279=>jN K a1 v14 x53 k x64 v279) else((aS (x64+1)).bind fun v281=>jN K a1 v14 x53 k x63 v281)) else(some x63)
def wF (K:Nat) (a1:List Rat) (a2:Int) (v14:Rat) (x47:List Int) (x53:List (List Rat)):Option (aT×Int):=
 (jN K a1 v14 x53 K 0 1).bind fun x65=>wH K a1 a2 x47 x53 x65
def u9 (K:Nat) (a1:List Rat) (x34:List Int) (x40:List (List Rat)) (x46:Int) (recl59:(List Int)→(List (List Rat))→Int→Option ((List Int)×(List (List Rat)))) (x312:List Rat):Option ((List Int)×(List (List Rat))):=
 (aS (2*(a1.length:Int))).bind fun v320=>(zK (-1) 1).bind fun v322=>(bT x312 v320).bind fun v324=>(pC x312 v320 v322).bind fun x326=>(aS (2*(a1.length:Int))).bind fun v329=>(aS (v329+1)).bind fun v331=>(bT a1 x46).bind fun v333=>(bT x326 v331).bind fun v335=>(pC x326 v331 v333).bind fun x337=>(pA x40 [x337]).bind fun x340=>(pA x34 [x46]).bind fun x347=>(aS (x46+1)).bind fun v354=>recl59 x347 x340 v354
def lH (K:Nat) (a0:List (List Rat)) (a1:List Rat) (x46:Int):Nat→(List Rat)→Int→Option (List Rat)
 |0,_,_=>none
 |k+1,x305,x311=>bif(decide (x311<(a1.length:Int))) then((aS ((a1.length:Int)+x311)).bind fun v357=>(bT a0 x46).bind fun v359=>(bT v359 x311).bind fun v361=>(aAk v361).bind fun v363=>(bT x305 v357).bind fun v365=>(pC x305 v357 v363).bind fun x367=>(aS (x311+1)).bind fun v370=>lH K a0 a1 x46 k x367 v370) else(some x305)
def lS (K:Nat) (a0:List (List Rat)) (a1:List Rat) (v14:Rat):Nat→(List Int)→(List (List Rat))→Int→Option ((List Int)×(List (List Rat)))
 |0,_,_,_=>none
 |k+1,x34,x40,x46=>bif(decide (x46<(a1.length:Int))) then((aS (2*(a1.length:Int))).bind fun v284=>(aS (v284+2)).bind fun v286=>(wJ v286 0).bind fun x288=>(bT x288 x46).bind fun v293=>(pC x288 x46 v14).bind fun x295=>(lH K a0 a1 x46 K x295 0).bind fun x312=>u9 K a1 x34 x40 x46 (lS K a0 a1 v14 k) x312) else(some (x34,x40))
def sA (K:Nat) (a0:List (List Rat)) (a1:List Rat) (a2:Int):Option (aT×Int):=
 (uX K a0 a1).bind fun v2=>bif(!v2) then(some ((⟨([]:List Rat),([]:List Rat),0⟩:aT),1)) else(bif(decide (a2<0)) then(some ((⟨([]:List Rat),([]:List Rat),0⟩:aT),1)) else((sT K a1).bind fun v6=>bif(!v6) then((wJ (a1.length:Int) 0).bind fun x9=>some ((⟨x9,a1,0⟩:aT),0)) else((zK 1 1).bind fun v14=>(lS K a0 a1 v14 K ([]:List Int) ([]:List (List Rat)) 0).bind fun(x47,x53)=>wF K a1 a2 v14 x47 x53)))
def uV (K:Nat) (a0:List aG) (a1:List Rat) (a2:List Rat) (a3:List aA):Option ((List Rat)×(List aF)×Int):=
 (mB K a0 a1 a2 a3).bind fun v1=>bif(!v1) then(some ([],[],1)) else((kK K a2 a3).bind fun v4=>bif(decide (32<(v4.length:Int))) then(some ([],[],4)) else((tP K a0 a1 a2 a3).bind fun v7=>(sA K v7.1 v7.2 4096).bind fun v9=>bif(v9.2 != 0) then(some ([],[],v9.2)) else((rK K a2 a3 v9.1.z).bind fun v13=>(dH K a0 a1 a3 v13).bind fun v15=>some (v15,v13,0))))
end Go.Proofs.YtcjdedkdoagifaaGreat
set_option linter.unusedVariables false
set_option maxRecDepth 100000
namespace Go.Proofs.YtcjdedkdoagifaaGreat
end Go.Proofs.YtcjdedkdoagifaaGreat
set_option linter.unusedVariables false
namespace Go.Proofs.YtcjdedkdoagifaaGreat
theorem xK {x m:Int} (hx:-9223372036854775808≤x∧x≤9223372036854775807) (hm:0<m):∃r,dD x m=some r∧0≤r∧r<m:=by
 unfold dD
 by_cases h:x<0
 ·refine⟨(-(x+1))%m,?_,Int.emod_nonneg _ (by omega),Int.emod_lt_of_pos _ hm⟩
  rw [dT h,bS,lI (by omega),oB,lI (by omega),oB,oG (by omega) hm,oB]
 ·refine⟨x%m,?_,Int.emod_nonneg _ (by omega),Int.emod_lt_of_pos _ hm⟩
  rw [dF h,bJ,oG (by omega) hm,oB]
theorem aCc {l:List Int} (hl:aHV l) (i:Int) {m:Int} (hm:0<m):∃r,bO l i m=some r∧0≤r∧r<m:=by
 unfold bO
 by_cases h:i<0
 ·exact⟨0,by rw [dT h,bS],by omega,hm⟩
 ·rw [dF h,bJ]
  by_cases h2:(l.length:Int)≤i
  ·exact⟨0,by rw [dT h2,bS],by omega,hm⟩
  ·rw [dF h2,bJ]
   obtain⟨n,rfl⟩:∃n:Nat,i=n:=⟨i.toNat,by omega⟩
   obtain⟨x,hx,_,hr⟩:=rdM (xs:=l) (i:=n) (by omega)
   obtain⟨r,h3,h4,h5⟩:=xK (hl x hx) hm
   exact⟨r,by rw [hr,oB,h3,oB],h4,h5⟩
theorem aDH {a m:Int} (h:0≤a) (hm:0<m):0≤a%m∧a%m<m:=⟨Int.emod_nonneg _ (by omega),Int.emod_lt_of_pos _ hm⟩
def uD (k:Nat) (xs:List Rat):Prop:=∀x∈xs,Bd k x
theorem uD.snoc {k:Nat} {xs:List Rat} {x:Rat} (h:uD k xs) (hx:Bd k x):uD k (xs++[x]):=fun y hy=>by
 rcases List.mem_append.1 hy with h1|h1
 ·exact h y h1
 ·rw [List.mem_singleton.1 h1];exact hx
theorem apS {α:Type} {xs:List α} {x:α} (h:xs.length≤60000000000):pA xs [x]=some (xs++[x]):=xL (by simp;omega)
theorem aQ1 {p q:Int} (hp:p≠0) (hq:q≠0):(p:Rat)/q≠0:=by
 rw [←Rat.divInt_eq_div]
 intro h
 have:=congrArg Rat.num h
 rw [Rat.num_divInt] at this
 have e:(0:Rat).num=0:=rfl
 rw [e] at this
 obtain⟨c,hc⟩:=Int.gcd_dvd_right (a:=q) (b:=p)
 have hg:0<Int.gcd q p:=Int.gcd_pos_of_ne_zero_left p hq
 have h2:q.sign*p/((Int.gcd q p:Nat):Int)=q.sign*c:=by
  conv=>lhs;rw [hc]
  rw [←Int.mul_assoc,Int.mul_comm q.sign,Int.mul_assoc]
  have:((q.gcd (((q.gcd p:Nat):Int)*c):Nat):Int)=((q.gcd p:Nat):Int):=by rw [←hc]
  rw [this]
  exact Int.mul_ediv_cancel_left _ (by omega)
 rw [h2] at this
 rcases Int.mul_eq_zero.1 this with h3|h3
 ·exact hq (Int.sign_eq_zero_iff_zero.1 h3)
 ·subst h3;rw [Int.mul_zero] at hc;exact hp hc
theorem rdD {α:Type} {xs:List α} {i:Nat} (d:α) (h:i<xs.length):bT xs (i:Int)=some (xs.getD i d):=by
 rw [rdG (x:=xs.getD i d)]
 simp [List.getD_eq_getElem?_getD,h]
def qB (l:List Rat) (i:Nat):Rat:=l.getD i 0
theorem aA8 {l:List Rat} {i:Nat} (h:i<l.length):bT l (i:Int)=some (qB l i):=rdD _ h
theorem u8 {l:List Rat} {i:Nat} (h:i<l.length):qB l i∈l:=by
 have:qB l i=l[i]:=by unfold qB;simp [List.getD_eq_getElem?_getD,h]
 rw [this];exact List.getElem_mem h
theorem aRl:((1:Int):Rat)/((1:Int):Rat)=1:=by decide+kernel
def mp {α:Type} (g:Nat→α) (n:Nat):List α:=(List.range n).map g
theorem aAX {α:Type} (g:Nat→α):mp g 0=[]:=rfl
theorem aEl {α:Type} (g:Nat→α) (n:Nat):mp g (n+1)=mp g n++[g n]:=by unfold mp;rw [List.range_succ,List.map_append];rfl
theorem bX {α:Type} (g:Nat→α) (n:Nat):(mp g n).length=n:=by simp [mp]
theorem aBI {α:Type} {g:Nat→α} {n i:Nat} (h:i<n):(mp g n)[i]?=some (g i):=by simp [mp,h]
theorem aBx {g:Nat→Rat} {n i:Nat} (h:i<n):qB (mp g n) i=g i:=by
 unfold qB mp
 simp [List.getD_eq_getElem?_getD,h]
theorem aBy {g:Nat→Rat} {n k:Nat} (h:∀i,i<n→Bd k (g i)):uD k (mp g n):=fun x hx=>by
 obtain⟨i,hi,rfl⟩:=List.mem_map.1 hx
 exact h i (List.mem_range.1 hi)
theorem apM {α:Type} {g:Nat→α} {i:Nat} (h:i≤1000000):pA (mp g i) [g i]=some (mp g (i+1)):=by rw [aEl];exact apS (by rw [bX];omega)
theorem cF {α:Type} {f g:Nat→α} {n:Nat} (h:∀i,i<n→f i=g i):mp f n=mp g n:=by
 unfold mp
 exact List.map_congr_left fun i hi=>h i (List.mem_range.1 hi)
def kE {α:Type} (f:Nat→α) (i:Nat) (v:α) (j:Nat):α:=if j=i then v else f j
theorem bD {α:Type} {f:Nat→α} {i:Nat} {v:α}:kE f i v i=v:=if_pos rfl
theorem cP {α:Type} {f:Nat→α} {i j:Nat} {v:α} (h:j≠i):kE f i v j=f j:=if_neg h
theorem aM0 {α:Type} {f:Nat→α} {n i:Nat} {v:α}:(mp f n).set i v=mp (kE f i v) n:=by
 apply List.ext_getElem?
 intro j
 by_cases hj:j<n
 ·rw [List.getElem?_set,aBI hj,bX,aBI hj]
  by_cases he:i=j
  ·subst he;rw [if_pos rfl,if_pos hj,bD]
  ·rw [if_neg he,cP (by omega)]
 ·rw [List.getElem?_eq_none (by simp [mp];omega),List.getElem?_eq_none (by simp [mp];omega)]
theorem eH {α:Type} {f:Nat→α} {n i:Nat} (h:i<n):bT (mp f n) (i:Int)=some (f i):=rdG (aBI h)
theorem tN {α:Type} {f:Nat→α} {n i:Nat} {v:α} (h:i<n):pC (mp f n) (i:Int) v=some (mp (kE f i v) n):=by
 rw [stG (by rw [bX];exact h),aM0]
theorem aMD {α:Type} (z:α):∀n,List.replicate n z=mp (fun _=>z) n
 |0=>rfl
 |n+1=>by rw [aEl,←aMD z n,List.replicate_succ']
theorem aBb {α:Type} {n:Nat} {z:α} (h:n≤68719476736):wJ (n:Int) z=some (mp (fun _=>z) n):=by rw [aAH h,aMD]
theorem aNH (l:List Rat):l=mp (qB l) l.length:=by
 apply List.ext_getElem?
 intro j
 by_cases hj:j<l.length
 ·rw [aBI hj];simp [qB,hj]
 ·rw [List.getElem?_eq_none (by omega),List.getElem?_eq_none (by simp [mp];omega)]
theorem m6 {i:Nat} (h:i≤1000000000):aS ((i:Int)+1)=some ((i+1:Nat):Int):=ckN (m:=0) (n:=i+1) (by omega) (by omega)
theorem aBh {a:Rat}:a.num.sign=0↔a=0:=by rw [Int.sign_eq_zero_iff_zero,Rat.num_eq_zero]
def sm (f:Nat→Rat):Nat→Rat
 |0=>0
 |n+1=>sm f n+f n
end Go.Proofs.YtcjdedkdoagifaaGreat
set_option linter.unusedVariables false
namespace Go.Proofs.YtcjdedkdoagifaaGreat
/-- A matrix of h rows and w columns. -/
def mx (g:Nat→Nat→Rat) (h w:Nat):List (List Rat):=mp (fun i=>mp (g i) w) h
theorem aMT {g g':Nat→Nat→Rat} {h w:Nat} (e:∀i c,i<h→c<w→g i c=g' i c):mx g h w=mx g' h w:=
 cF fun i hi=>cF fun c hc=>e i c hi hc
theorem aRo {g:Nat→Nat→Rat} {h w i:Nat} {f:Nat→Rat}:mp (kE (fun i=>mp (g i) w) i (mp f w)) h=mx (kE g i f) h w:=by
 refine cF fun j _=>?_
 unfold kE
 split<;>rfl
theorem aCp {g:Nat→Nat→Rat} {h w i:Nat} (hi:i<h):bT (mx g h w) (i:Int)=some (mp (g i) w):=eH hi
theorem vU {g:Nat→Nat→Rat} {h w:Nat}:(mx g h w).length=h:=bX _ _
def Bdx (h w b:Nat) (g:Nat→Nat→Rat):Prop:=∀i c,i<h→c<w→Bd b (g i c)
theorem Bdx.mono {h w b b':Nat} {g:Nat→Nat→Rat} (hg:Bdx h w b g) (hb:b≤b'):Bdx h w b' g:=fun i c hi hc=>(hg i c hi hc).mono hb
def piv (g:Nat→Nat→Rat) (k:Nat):Nat→Nat→Nat
 |0,i=>i
 |t+1,i=>if g i k=0 then piv g k t (i+1) else i
theorem aJy {g:Nat→Nat→Rat} {k:Nat}:∀(t i:Nat),i≤piv g k t i∧piv g k t i≤i+t
 |0,i=>⟨Nat.le_refl _,Nat.le_refl _⟩
 |t+1,i=>by
  have h:=aJy (g:=g) (k:=k) t (i+1)
  unfold piv
  split<;>omega
theorem aP0 {g:Nat→Nat→Rat} {k:Nat}:∀(t i j:Nat),i≤j→j<piv g k t i→g j k=0
 |0,i,j,h1,h2=>by simp only [piv] at h2;omega
 |t+1,i,j,h1,h2=>by
  unfold piv at h2
  split at h2
  ·rename_i hz
   by_cases he:j=i
   ·rw [he];exact hz
   ·exact aP0 t (i+1) j (by omega) h2
  ·omega
theorem aM5 {g:Nat→Nat→Rat} {k:Nat}:∀(t i:Nat),piv g k t i<i+t→g (piv g k t i) k≠0
 |0,i,h=>by simp only [piv] at h;omega
 |t+1,i,h=>by
  unfold piv at h ⊢
  split at h
  ·rename_i hz
   rw [if_pos hz]
   exact aM5 t (i+1) (by omega)
  ·rename_i hz
   rw [if_neg hz];exact hz
def swp (g:Nat→Nat→Rat) (n at0 i:Nat):Nat→Rat:=g (if i=n then at0 else if i=at0 then n else i)
def pr (g:Nat→Nat→Rat) (at0 k c:Nat):Rat:=g at0 c/g at0 k
def stp (g:Nat→Nat→Rat) (n at0 k i c:Nat):Rat:=if i=n then pr g at0 k c else swp g n at0 i c-swp g n at0 i k*pr g at0 k c
structure RS where
 ps:List Nat
 g:Nat→Nat→Rat
 d:Rat
def aG8 (h k:Nat) (s:RS):RS:=
 if piv s.g k (h-s.ps.length) s.ps.length=h then s
 else⟨s.ps++[k],stp s.g s.ps.length (piv s.g k (h-s.ps.length) s.ps.length) k,(if piv s.g k (h-s.ps.length) s.ps.length=s.ps.length then s.d else -s.d)*s.g (piv s.g k (h-s.ps.length) s.ps.length) k⟩
def red (g:Nat→Nat→Rat) (h:Nat):Nat→RS
 |0=>⟨[],g,1⟩
 |k+1=>aG8 h k (red g h k)
theorem aHc {h n at0 i:Nat} (hn:n<h) (ha:at0<h) (hi:i<h):(if i=n then at0 else if i=at0 then n else i)<h:=by split;exact ha;split;exact hn;exact hi
end Go.Proofs.YtcjdedkdoagifaaGreat
set_option linter.unusedVariables false
namespace Go.Proofs.YtcjdedkdoagifaaGreat
/-- The rows that the list of indices names, in a pool of rows. -/
structure Rep (ι:Nat→Nat) (pool:List (List Rat)) (g:Nat→Nat→Rat) (h w:Nat):Prop where
 inj:∀i j,i<h→j<h→ι i=ι j→i=j
 lt:∀i,i<h→ι i<pool.length
 el:∀i,i<h→pool.getD (ι i) []=mp (g i) w
theorem Rep.set {ι:Nat→Nat} {pool:List (List Rat)} {g:Nat→Nat→Rat} {h w i:Nat} (r:Rep ι pool g h w) (hi:i<h) (f:Nat→Rat):Rep ι (pool.set (ι i) (mp f w)) (kE g i f) h w:=by
 refine⟨r.inj,fun j hj=>by rw [List.length_set];exact r.lt j hj,fun j hj=>?_⟩
 rw [List.getD_eq_getElem?_getD,List.getElem?_set]
 by_cases he:j=i
 ·subst he
  rw [if_pos rfl,if_pos (r.lt j hj),bD];rfl
 ·rw [if_neg (fun h=>he (r.inj j i hj hi h.symm)),←List.getD_eq_getElem?_getD,r.el j hj,cP he]
theorem Rep.congr {ι:Nat→Nat} {pool:List (List Rat)} {g g':Nat→Nat→Rat} {h w:Nat} (r:Rep ι pool g h w) (e:∀i c,i<h→c<w→g i c=g' i c):Rep ι pool g' h w:=
 ⟨r.inj,r.lt,fun i hi=>by rw [r.el i hi];exact cF fun c hc=>e i c hi hc⟩
theorem Rep.sel {ι:Nat→Nat} {pool:List (List Rat)} {g:Nat→Nat→Rat} {h w:Nat} (r:Rep ι pool g h w):aFK pool (mp ι h)=mx g h w:=by
 unfold aFK mx
 apply List.ext_getElem?
 intro j
 by_cases hj:j<h
 ·rw [List.getElem?_map,aBI hj,aBI hj,←r.el j hj];rfl
 ·rw [List.getElem?_map,List.getElem?_eq_none (by simp [mp];omega),List.getElem?_eq_none (by simp [mp];omega)];rfl
theorem Rep.swap {ι:Nat→Nat} {pool:List (List Rat)} {g:Nat→Nat→Rat} {h w n a:Nat} (r:Rep ι pool g h w) (hn:n<h) (ha:a<h) (hne:n≠a):Rep (kE (kE ι n (ι a)) a (ι n)) pool (swp g n a) h w:=by
 have key:∀i,kE (kE ι n (ι a)) a (ι n) i=ι (if i=n then a else if i=a then n else i):=fun i=>by
  unfold kE
  by_cases h1:i=n
  ·rw [if_pos h1,if_neg (by omega),if_pos h1]
  ·rw [if_neg h1]
   by_cases h2:i=a
   ·rw [if_pos h2,if_pos h2,if_neg h1]
   ·rw [if_neg h2,if_neg h1,if_neg h2]
 refine⟨fun i j hi hj e=>?_,fun i hi=>?_,fun i hi=>?_⟩
 ·rw [key,key] at e
  have:=r.inj _ _ (aHc hn ha hi) (aHc hn ha hj) e
  split at this<;>split at this<;>(try split at this)<;>(try split at this)<;>omega
 ·rw [key];exact r.lt _ (aHc hn ha hi)
 ·rw [key];exact r.el _ (aHc hn ha hi)
def mid (f e:Nat→Rat) (c j:Nat):Rat:=if j<c then f j else e j
theorem aOY {α:Type} {g:Nat→α} {i:Nat} {x y:α}:kE (kE g i x) i y=kE g i y:=by
 funext j
 unfold kE
 split<;>rfl
end Go.Proofs.YtcjdedkdoagifaaGreat
set_option linter.unusedVariables false
namespace Go.Proofs.YtcjdedkdoagifaaGreat
/-- A list of numbers read by index. -/
def pat (ps:List Nat) (i:Nat):Nat:=ps.getD i 0
def Cok (h w:Nat):Prop:=h=0→w=0
theorem aIV {g:Nat→Nat→Rat} {h w:Nat} (hc:Cok h w):vS (mx g h w)=some (w:Int):=by
 by_cases h0:h=0
 ·subst h0
  rw [hc rfl];rfl
 ·have r0:=aCp (g:=g) (w:=w) (show 0<h by omega)
  simp only [Int.natCast_zero] at r0
  simp only [vS,vU,qF (show¬(h:Int)=0 by omega),bJ,r0,oB,bX]
end Go.Proofs.YtcjdedkdoagifaaGreat
set_option linter.unusedVariables false
namespace Go.Proofs.YtcjdedkdoagifaaGreat
theorem aEq (f g:Nat→Rat) (a:Rat):∀n,sm (fun c=>f c-a*g c) n=sm f n-a*sm g n
 |0=>by simp only [sm];grind
 |n+1=>by
  have ih:=aEq f g a n
  simp only [sm]
  rw [ih];grind
theorem aIg (f:Nat→Rat) (a:Rat):∀n,sm (fun c=>f c*a) n=sm f n*a
 |0=>by simp only [sm];grind
 |n+1=>by
  have ih:=aIg f a n
  simp only [sm]
  rw [ih];grind
theorem fU {f g:Nat→Rat}:∀{n:Nat},(∀i,i<n→f i=g i)→sm f n=sm g n
 |0,_=>rfl
 |n+1,h=>by
  simp only [sm]
  rw [fU fun i hi=>h i (by omega),h n (by omega)]
theorem aBJ {f:Nat→Rat} {n:Nat} (h:∀i,i<n→f i=0):sm f n=0:=by
 rw [fU (g:=fun _=>0) h]
 induction n with
 |zero=>rfl
 |succ n ih=>simp only [sm];rw [ih fun i hi=>h i (by omega)];grind
theorem aDx {f:Nat→Rat} {n p:Nat} (hp:p<n) (h:∀i,i<n→i≠p→f i=0):sm f n=f p:=by
 induction n with
 |zero=>omega
 |succ n ih=>
  simp only [sm]
  by_cases he:p=n
  ·rw [aBJ fun i hi=>h i (by omega) (by omega),he];grind
  ·rw [ih (by omega) fun i hi hne=>h i (by omega) hne,h n (by omega) (by omega)];grind
theorem aG3 (f g:Nat→Rat):∀n,sm (fun c=>f c+g c) n=sm f n+sm g n
 |0=>by simp only [sm];grind
 |n+1=>by
  have ih:=aG3 f g n
  simp only [sm]
  rw [ih];grind
structure RJ (h k:Nat) (s:RS):Prop where
 ph:s.ps.length≤h
 pk:∀i,i<s.ps.length→pat s.ps i<k
 z:∀i c,s.ps.length≤i→i<h→c<k→s.g i c=0
 one:∀i i',i<s.ps.length→i'<h→s.g i' (pat s.ps i)=if i'=i then 1 else 0
 lead:∀i c,i<s.ps.length→c<pat s.ps i→s.g i c=0
 inc:∀i j,i<j→j<s.ps.length→pat s.ps i<pat s.ps j
 gap:∀c,c<k→c∉s.ps→∀i,i<s.ps.length→c<pat s.ps i→s.g i c=0
theorem aBK {ps:List Nat} {k i:Nat} (h:i<ps.length):pat (ps++[k]) i=pat ps i:=by
 unfold pat
 rw [List.getD_eq_getElem?_getD,List.getD_eq_getElem?_getD,List.getElem?_append_left h]
theorem aD7 {ps:List Nat} {k:Nat}:pat (ps++[k]) ps.length=k:=by
 unfold pat
 rw [List.getD_eq_getElem?_getD,List.getElem?_append_right (Nat.le_refl _),Nat.sub_self];rfl
theorem aNG {h k:Nat} {s:RS} (hs:RJ h k s):RJ h (k+1) (aG8 h k s):=by
 have hp:=aJy (g:=s.g) (k:=k) (h-s.ps.length) s.ps.length
 have hph:=hs.ph
 unfold aG8
 split
 ·rename_i hat
  refine⟨hs.ph,fun i hi=>Nat.lt_succ_of_lt (hs.pk i hi),fun i c hi hh hc=>?_,hs.one,hs.lead,hs.inc,fun c _ _ i hi hlt=>hs.lead i c hi hlt⟩
  by_cases he:c=k
  ·subst he;exact aP0 (h-s.ps.length) s.ps.length i hi (by omega)
  ·exact hs.z i c hi hh (by omega)
 ·rename_i hat
  have hlt:piv s.g k (h-s.ps.length) s.ps.length<h:=by omega
  have hne:=aM5 (g:=s.g) (k:=k) (h-s.ps.length) s.ps.length (by omega)
  generalize ha:piv s.g k (h-s.ps.length) s.ps.length=at0 at *
  have hz:∀c,c<k→s.g at0 c=0:=fun c hc=>hs.z at0 c hp.1 hlt hc
  have hpr:∀c,c<k→pr s.g at0 k c=0:=fun c hc=>by unfold pr;rw [hz c hc,Rat.div_def,Rat.zero_mul]
  have hprk:pr s.g at0 k k=1:=by unfold pr;rw [Rat.div_def,Rat.mul_inv_cancel _ hne]
  have hswz:∀i c,s.ps.length<i→i<h→c<k→swp s.g s.ps.length at0 i c=0:=fun i c hi hih hc=>by
   unfold swp
   rw [if_neg (by omega)]
   split
   ·exact hs.z _ c (Nat.le_refl _) (by omega) hc
   ·exact hs.z _ c (by omega) hih hc
  have hsw:∀i c,i<s.ps.length→swp s.g s.ps.length at0 i c=s.g i c:=fun i c hi=>by
   unfold swp
   rw [if_neg (by omega),if_neg (by omega)]
  have hlead:∀i c,i<s.ps.length+1→c<pat (s.ps++[k]) i→stp s.g s.ps.length at0 k i c=0:=fun i c hi hc=>by
   by_cases he:i=s.ps.length
   ·subst he
    rw [aD7] at hc
    unfold stp
    rw [if_pos rfl];exact hpr c hc
   ·have hi':i<s.ps.length:=by omega
    rw [aBK hi'] at hc
    unfold stp
    rw [if_neg he,hsw i c hi',hsw i k hi',hs.lead i c hi' hc,hpr c (by have:=hs.pk i hi';omega)]
    grind
  refine⟨by simp only [List.length_append,List.length_singleton];omega,fun i hi=>?_,fun i c hi hh hc=>?_,fun i i' hi hi'=>?_,fun i c hi hc=>hlead i c (by simpa using hi) hc,fun i j hij hj=>?_,fun c _ _ i hi hlt=>hlead i c (by simpa using hi) hlt⟩
  ·simp only [List.length_append,List.length_singleton] at hi
   by_cases he:i=s.ps.length
   ·subst he;simp only [aD7];omega
   ·simp only [aBK (show i<s.ps.length by omega)]
    have:=hs.pk i (by omega);omega
  ·simp only [List.length_append,List.length_singleton] at hi
   show stp s.g s.ps.length at0 k i c=0
   unfold stp
   rw [if_neg (by omega)]
   by_cases he:c=k
   ·subst he
    rw [hprk,Rat.mul_one,Rat.sub_self]
   ·rw [hswz i c (by omega) hh (by omega),hpr c (by omega)]
    grind
  ·simp only [List.length_append,List.length_singleton] at hi
   show stp s.g s.ps.length at0 k i' (pat (s.ps++[k]) i)=_
   unfold stp
   by_cases he:i=s.ps.length
   ·subst he
    rw [aD7]
    by_cases e2:i'=s.ps.length
    ·rw [if_pos e2,if_pos e2,hprk]
    ·rw [if_neg e2,if_neg e2,hprk,Rat.mul_one,Rat.sub_self]
   ·have hi2:i<s.ps.length:=by omega
    rw [aBK hi2,hpr _ (hs.pk i hi2)]
    by_cases e2:i'=s.ps.length
    ·rw [if_pos e2,if_neg (by omega)]
    ·rw [if_neg e2]
     by_cases e3:i'<s.ps.length
     ·rw [hsw i' _ e3,hs.one i i' hi2 (by omega)]
      grind
     ·rw [hswz i' _ (by omega) hi' (hs.pk i hi2),if_neg (by omega)]
      grind
  ·simp only [List.length_append,List.length_singleton] at hj
   by_cases he:j=s.ps.length
   ·subst he
    simp only [aD7,aBK (show i<s.ps.length by omega)]
    exact hs.pk i (by omega)
   ·simp only [aBK (show i<s.ps.length by omega),aBK (show j<s.ps.length by omega)]
    exact hs.inc i j hij (by omega)
theorem aKv {g:Nat→Nat→Rat} {h:Nat}:∀k,RJ h k (red g h k)
 |0=>⟨Nat.zero_le _,fun i hi=>absurd hi (by simp [red]),fun i c _ _ hc=>absurd hc (by omega),fun i i' hi _=>absurd hi (by simp [red]),fun i c hi _=>absurd hi (by simp [red]),fun i j _ hj=>absurd hj (by simp [red]),fun c hc=>absurd hc (by omega)⟩
 |k+1=>aNG (aKv k)
end Go.Proofs.YtcjdedkdoagifaaGreat
set_option linter.unusedVariables false
namespace Go.Proofs.YtcjdedkdoagifaaGreat
theorem aHo (F:Nat→Nat→Rat) (m:Nat):∀n,sm (fun i=>sm (F i) m) n=sm (fun j=>sm (fun i=>F i j) n) m
 |0=>by
  simp only [sm]
  exact(aBJ fun i _=>rfl).symm
 |n+1=>by
  simp only [sm]
  rw [aHo F m n,aG3]
theorem zU (f:Nat→Rat) (a:Rat) (n:Nat):sm (fun c=>a*f c) n=a*sm f n:=by
 rw [Rat.mul_comm,←aIg]
 exact fU fun i _=>Rat.mul_comm _ _
theorem aEO (f:Nat→Rat) (n:Nat):sm (fun c=>-(f c)) n=-(sm f n):=by
 have:=zU f (-1) n
 rw [fU (g:=fun c=>-1*f c) fun i _=>by grind,this];grind
def skp (k c:Nat):Nat:=if c<k then c else c+1
theorem aML (F:Nat→Rat) {k:Nat}:∀{n:Nat},k≤n→sm (fun l=>F (skp k l)) n=sm (fun m=>if m=k then 0 else F m) (n+1)
 |0,h=>by
  have:k=0:=by omega
  subst this
  simp only [sm];grind
 |n+1,h=>by
  by_cases hk:k≤n
  ·have ih:=aML F hk
   rw [sm,ih,sm,sm,sm]
   have e1:skp k n=n+1:=by unfold skp;rw [if_neg (by omega)]
   rw [e1,if_neg (show¬n+1=k by omega)]
  ·have:k=n+1:=by omega
   subst this
   rw [sm.eq_2 _ (n+1),if_pos rfl]
   rw [fU (g:=F) fun i hi=>by unfold skp;rw [if_pos hi],fU (g:=F) fun i hi=>if_neg (by omega)]
   grind
def sgn (k:Nat):Rat:=if k%2=0 then 1 else -1
def mnr (g:Nat→Nat→Rat) (k i c:Nat):Rat:=g (i+1) (skp k c)
def dt:Nat→(Nat→Nat→Rat)→Rat
 |0,_=>1
 |n+1,g=>sm (fun k=>sgn k*(g 0 k*dt n (mnr g k))) (n+1)
theorem aMn {k c n:Nat} (hc:c<n):skp k c<n+1:=by unfold skp;split<;>omega
theorem vL:∀{n:Nat} {g g':Nat→Nat→Rat},(∀i c,i<n→c<n→g i c=g' i c)→dt n g=dt n g'
 |0,_,_,_=>rfl
 |n+1,g,g',h=>by
  simp only [dt]
  refine fU fun k hk=>?_
  rw [h 0 k (by omega) hk,vL (g:=mnr g k) (g':=mnr g' k) fun i c hi hc=>h (i+1) _ (by omega) (aMn hc)]
theorem aMA {g:Nat→Nat→Rat} {f:Nat→Rat} {k:Nat}:mnr (kE g 0 f) k=mnr g k:=by
 funext i c
 unfold mnr
 rw [cP (by omega)]
theorem aN9 {g:Nat→Nat→Rat} {f:Nat→Rat} {k j:Nat}:mnr (kE g (j+1) f) k=kE (mnr g k) j (fun c=>f (skp k c)):=by
 funext i c
 unfold mnr
 by_cases h:i=j
 ·subst h;rw [bD,bD]
 ·rw [cP (by omega),cP h]
theorem aJC {u v:Nat→Rat} {a:Rat}:∀{n:Nat} {g:Nat→Nat→Rat} {i:Nat},i<n→dt n (kE g i (fun c=>u c-a*v c))=dt n (kE g i u)-a*dt n (kE g i v)
 |0,_,_,h=>by omega
 |n+1,g,0,_=>by
  simp only [dt,aMA,bD]
  rw [←aEq]
  exact fU fun k _=>by grind
 |n+1,g,j+1,h=>by
  simp only [dt,aN9,cP (show 0≠j+1 by omega)]
  rw [←aEq]
  refine fU fun k _=>?_
  rw [aJC (u:=fun c=>u (skp k c)) (v:=fun c=>v (skp k c)) (a:=a) (show j<n by omega)]
  grind
theorem aCH (k:Nat):sgn (k+1)=-(sgn k):=by
 unfold sgn
 by_cases h:k%2=0
 ·rw [if_pos h,if_neg (by omega)]
 ·rw [if_neg h,if_pos (by omega)];grind
theorem aHh (k:Nat):∀l,sgn (k+l)=sgn k*sgn l
 |0=>by
  have:sgn 0=1:=rfl
  rw [this,Nat.add_zero];grind
 |l+1=>by
  rw [←Nat.add_assoc,aCH,aHh k l,aCH];grind
def aLy (k m c:Nat):Nat:=if c<min k m then c else if c+1<max k m then c+1 else c+2
theorem aOF (k l c:Nat):skp k (skp l c)=aLy k (skp k l) c:=by
 unfold aLy skp
 by_cases h1:l<k
 ·rw [if_pos h1]
  repeat' split
  all_goals omega
 ·rw [if_neg h1]
  repeat' split
  all_goals omega
theorem aLA (k m c:Nat):aLy k m c=aLy m k c:=by
 unfold aLy;rw [Nat.min_comm,Nat.max_comm]
def eps (k m:Nat):Rat:=if k<m then sgn (k+m+1) else sgn (k+m)
theorem aLW {k m:Nat} (h:m≠k):eps k m=-(eps m k):=by
 unfold eps
 by_cases h1:k<m
 ·rw [if_pos h1,if_neg (by omega),aCH,Nat.add_comm]
 ·rw [if_neg h1,if_pos (by omega),aCH,Nat.add_comm];grind
theorem aO1 (k l:Nat):sgn k*sgn l=eps k (skp k l):=by
 unfold eps skp
 by_cases h:l<k
 ·rw [if_pos h,if_neg (by omega),aHh]
 ·rw [if_neg h,if_pos (by omega)]
  rw [show k+(l+1)+1=k+l+2 by omega,show sgn (k+l+2)=sgn (k+l) by unfold sgn;rw [show(k+l+2)%2=(k+l)%2 by omega],aHh]
def aJf (g:Nat→Nat→Rat) (k m i c:Nat):Rat:=g (i+2) (aLy k m c)
theorem aN1 {n:Nat} {g:Nat→Nat→Rat}:dt (n+2) g=sm (fun k=>sm (fun m=>if m=k then 0 else eps k m*(g 0 k*(g 1 m*dt n (aJf g k m)))) (n+2)) (n+2):=by
 rw [dt]
 refine fU fun k hk=>?_
 rw [←aML (fun m=>eps k m*(g 0 k*(g 1 m*dt n (aJf g k m)))) (show k≤n+1 by omega),dt,←zU,←zU]
 refine fU fun l _=>?_
 rw [←aO1,show dt n (mnr (mnr g k) l)=dt n (aJf g k (skp k l)) from congrArg (dt n) (by
  funext i c
  unfold mnr aJf
  rw [aOF])]
 unfold mnr
 grind
theorem aLx {n:Nat} {g:Nat→Nat→Rat}:dt (n+2) (swp g 0 1)=-(dt (n+2) g):=by
 rw [aN1,aN1,aHo,←aEO]
 refine fU fun k _=>?_
 rw [←aEO]
 refine fU fun m _=>?_
 by_cases h:k=m
 ·rw [if_pos h,if_pos h.symm];grind
 ·rw [if_neg h,if_neg (fun e=>h e.symm),aLW (by exact fun e=>h e)]
  have e:aJf (swp g 0 1) m k=aJf g k m:=by
   funext i c
   unfold aJf swp
   rw [if_neg (by omega),if_neg (by omega),aLA]
  rw [e]
  have e1:swp g 0 1 0=g 1:=by unfold swp;rw [if_pos rfl]
  have e2:swp g 0 1 1=g 0:=by unfold swp;rw [if_neg (by omega),if_pos rfl]
  rw [e1,e2]
  grind
theorem aOT {g:Nat→Nat→Rat} {a b k:Nat}:mnr (swp g (a+1) (b+1)) k=swp (mnr g k) a b:=by
 funext i c
 unfold mnr swp
 congr 1
 by_cases h1:i=a
 ·rw [if_pos (by omega),if_pos h1]
 ·rw [if_neg (by omega),if_neg h1]
  by_cases h2:i=b
  ·rw [if_pos (by omega),if_pos h2]
  ·rw [if_neg (by omega),if_neg h2]
theorem aGH:∀{n:Nat} {g:Nat→Nat→Rat} {i:Nat},i+1<n→dt n (swp g i (i+1))=-(dt n g)
 |0,_,_,h=>by omega
 |1,_,_,h=>by omega
 |n+2,g,0,_=>aLx
 |n+2,g,i+1,h=>by
  rw [dt,dt,←aEO]
  refine fU fun k _=>?_
  rw [aOT,aGH (show i+1<n+1 by omega)]
  have e1:swp g (i+1) (i+1+1) 0=g 0:=by unfold swp;rw [if_neg (by omega),if_neg (by omega)]
  rw [e1];grind
theorem aI9 {n:Nat}:∀(t:Nat) {g:Nat→Nat→Rat} {i:Nat},i+t+1<n→dt n (swp g i (i+t+1))=-(dt n g)
 |0,g,i,h=>aGH h
 |t+1,g,i,h=>by
  have e:swp g i (i+(t+1)+1)=swp (swp (swp g (i+t+1) (i+t+1+1)) i (i+t+1)) (i+t+1) (i+t+1+1):=by
   funext j
   unfold swp
   congr 1
   repeat' split
   all_goals omega
  rw [e,aGH (by omega),aI9 t (by omega),aGH (by omega)];grind
theorem aMV {g:Nat→Nat→Rat} {a b:Nat}:swp g a b=swp g b a:=by
 funext j
 unfold swp
 congr 1
 repeat' split
 all_goals omega
structure Alt (h:Nat) (D:(Nat→Nat→Rat)→Rat):Prop where
 cong:∀g g':Nat→Nat→Rat,(∀i,i<h→g i=g' i)→D g=D g'
 lin:∀(g:Nat→Nat→Rat) (u v:Nat→Rat) (a:Rat) (i:Nat),i<h→D (kE g i (fun c=>u c-a*v c))=D (kE g i u)-a*D (kE g i v)
 swap:∀(g:Nat→Nat→Rat) (i j:Nat),i<h→j<h→i≠j→D (swp g i j)=-(D g)
theorem aFi (n:Nat):Alt n (dt n):=⟨fun g g' h=>vL fun i c hi _=>by rw [h i hi],fun g u v a i hi=>aJC hi,fun g i j hi hj hne=>by
 by_cases h:i<j
 ·obtain⟨t,rfl⟩:∃t,j=i+t+1:=⟨j-i-1,by omega⟩
  exact aI9 t hj
 ·obtain⟨t,rfl⟩:∃t,i=j+t+1:=⟨i-j-1,by omega⟩
  rw [aMV]
  exact aI9 t hi⟩
theorem Alt.zero {h:Nat} {D:(Nat→Nat→Rat)→Rat} (a:Alt h D) {g:Nat→Nat→Rat} {i:Nat} (hi:i<h) (hz:g i=fun _=>0):D g=0:=by
 have:=a.lin g (g i) (g i) 1 i hi
 have e:(fun c=>g i c-1*g i c)=g i:=by funext c;rw [hz];grind
 have e2:kE g i (g i)=g:=by
  funext j
  unfold kE
  split
  ·rename_i h;rw [h]
  ·rfl
 rw [e,e2] at this
 grind
theorem aMS {α:Type} {g:Nat→α} {i:Nat}:kE g i (g i)=g:=by
 funext j
 unfold kE
 split
 ·rename_i h;rw [h]
 ·rfl
theorem Alt.scale {h:Nat} {D:(Nat→Nat→Rat)→Rat} (a:Alt h D) {g:Nat→Nat→Rat} {u:Nat→Rat} {b:Rat} {i:Nat} (hi:i<h):D (kE g i (fun c=>b*u c))=b*D (kE g i u):=by
 have h1:=a.lin g (fun _=>0) u (-b) i hi
 have h2:D (kE g i (fun _=>0))=0:=a.zero hi bD
 rw [h2] at h1
 have e:(fun c=>(0:Rat)- -b*u c)=fun c=>b*u c:=by funext c;grind
 rw [e] at h1
 rw [h1];grind
theorem Alt.same {h:Nat} {D:(Nat→Nat→Rat)→Rat} (a:Alt h D) {g:Nat→Nat→Rat} {i j:Nat} (hi:i<h) (hj:j<h) (hne:i≠j) (he:g i=g j):D g=0:=by
 have h1:=a.swap g i j hi hj hne
 have e:swp g i j=g:=by
  funext l
  unfold swp
  split
  ·rename_i h;rw [h,he]
  ·split
   ·rename_i h;rw [h,he]
   ·rfl
 rw [e] at h1
 grind
theorem Alt.add {h:Nat} {D:(Nat→Nat→Rat)→Rat} (a:Alt h D) {g:Nat→Nat→Rat} {b:Rat} {i j:Nat} (hi:i<h) (hj:j<h) (hne:i≠j):D (kE g i (fun c=>g i c-b*g j c))=D g:=by
 rw [a.lin g (g i) (g j) b i hi,aMS,a.same (g:=kE g i (g j)) hi hj hne (by rw [bD,cP (fun e=>hne e.symm)])]
 grind
def elm (g:Nat→Nat→Rat) (n k j i c:Nat):Rat:=if i<j∧i≠n then g i c-g i k*g n c else g i c
theorem Alt.elm0 {h:Nat} {D:(Nat→Nat→Rat)→Rat} (a:Alt h D) {g:Nat→Nat→Rat} {n k:Nat} (hn:n<h):∀j,j≤h→D (elm g n k j)=D g
 |0,_=>a.cong _ _ fun i _=>by
  funext c
  exact if_neg (by omega)
 |j+1,hj=>by
  refine Eq.trans ?_ (Alt.elm0 (k:=k) a hn j (by omega))
  by_cases he:j=n
  ·refine a.cong _ _ fun i _=>?_
   funext c
   unfold elm
   by_cases h1:i<j
   ·rw [if_pos ⟨by omega,by omega⟩,if_pos ⟨h1,by omega⟩]
   ·rw [if_neg (by omega),if_neg (by omega)]
  ·refine Eq.trans ?_ (a.add (g:=elm g n k j) (b:=g j k) (show j<h by omega) hn he)
   refine a.cong _ _ fun i _=>?_
   funext c
   by_cases h1:i=j
   ·subst h1
    rw [bD]
    unfold elm
    rw [if_pos ⟨by omega,he⟩,if_neg (by omega),if_neg (by omega)]
   ·rw [cP h1]
    unfold elm
    by_cases h2:i<j∧i≠n
    ·rw [if_pos ⟨by omega,h2.2⟩,if_pos h2]
    ·rw [if_neg (by omega),if_neg h2]
theorem Alt.stp0 {h:Nat} {D:(Nat→Nat→Rat)→Rat} (a:Alt h D) {g:Nat→Nat→Rat} {n at0 k:Nat} (hn:n<h) (ha:at0<h) (hne:g at0 k≠0):D g=(if at0=n then 1 else -1)*g at0 k*D (stp g n at0 k):=by
 have e1:D (swp g n at0)=(if at0=n then 1 else -1)*D g:=by
  by_cases h1:at0=n
  ·rw [if_pos h1]
   have:swp g n at0=g:=by
    funext i
    unfold swp
    split
    ·rw [h1];congr 1;omega
    ·split
     ·congr 1;omega
     ·rfl
   rw [this];grind
  ·rw [if_neg h1,a.swap g n at0 hn ha (fun e=>h1 e.symm)];grind
 have e2:D (swp g n at0)=g at0 k*D (kE (swp g n at0) n (pr g at0 k)):=by
  rw [←a.scale hn]
  congr 1
  funext i
  by_cases h1:i=n
  ·subst h1
   rw [bD]
   funext c
   unfold swp pr
   rw [if_pos rfl,Rat.div_def,Rat.mul_comm (g at0 c),←Rat.mul_assoc,Rat.mul_inv_cancel _ hne,Rat.one_mul]
  ·rw [cP h1]
 have e3:D (stp g n at0 k)=D (kE (swp g n at0) n (pr g at0 k)):=by
  rw [←a.elm0 (g:=kE (swp g n at0) n (pr g at0 k)) (n:=n) (k:=k) hn h (Nat.le_refl _)]
  refine a.cong _ _ fun i hi=>?_
  funext c
  unfold stp elm
  by_cases h1:i=n
  ·subst h1
   rw [if_pos rfl,if_neg (by omega),bD]
  ·rw [if_neg h1,if_pos ⟨hi,h1⟩,cP h1,bD]
 rw [e3]
 have e4:D g=(if at0=n then 1 else -1)*D (swp g n at0):=by
  rw [e1]
  split<;>grind
 rw [e4,e2];grind
theorem Alt.red0 {h:Nat} {D:(Nat→Nat→Rat)→Rat} (a:Alt h D) {g:Nat→Nat→Rat}:∀k,D g=(red g h k).d*D (red g h k).g
 |0=>by simp only [red];grind
 |k+1=>by
  refine(Alt.red0 a k).trans ?_
  have hl:=(aKv (g:=g) (h:=h) k).ph
  simp only [red]
  generalize red g h k=s at *
  unfold aG8
  split
  ·rfl
  ·rename_i hat
   have hp:=aJy (g:=s.g) (k:=k) (h-s.ps.length) s.ps.length
   have hlt:piv s.g k (h-s.ps.length) s.ps.length<h:=by omega
   have hne:=aM5 (g:=s.g) (k:=k) (h-s.ps.length) s.ps.length (by omega)
   rw [a.stp0 (g:=s.g) (n:=s.ps.length) (at0:=piv s.g k (h-s.ps.length) s.ps.length) (k:=k) (by omega) hlt hne]
   simp only
   split<;>grind
end Go.Proofs.YtcjdedkdoagifaaGreat
set_option linter.unusedVariables false
namespace Go.Proofs.YtcjdedkdoagifaaGreat
/-- What a machine's integer is. -/
def I64 (x:Int):Prop:=-9223372036854775808≤x∧x≤9223372036854775807
theorem aJ3 {x y:Int} (hx:I64 x) (hy:2≤y):∃v,w7 x y=some v∧I64 v:=by
 have h1:(x.tdiv y).natAbs≤x.natAbs:=by
  rw [Int.natAbs_tdiv];exact Nat.div_le_self _ _
 have h2:I64 (x.tdiv y):=by
  have h0:(x.tdiv y).natAbs=x.natAbs/y.natAbs:=Int.natAbs_tdiv x y
  have h3:x.natAbs/y.natAbs≤x.natAbs/2:=Nat.div_le_div_left (by omega) (by omega)
  unfold I64 at *
  omega
 refine⟨x.tdiv y,?_,h2⟩
 unfold w7
 rw [if_neg (by omega)]
 exact lI h2
end Go.Proofs.YtcjdedkdoagifaaGreat
set_option linter.unusedVariables false
namespace Go.Proofs.YtcjdedkdoagifaaGreat
end Go.Proofs.YtcjdedkdoagifaaGreat
set_option linter.unusedVariables false
namespace Go.Proofs.YtcjdedkdoagifaaGreat
/-- A matrix times a vector. -/
def aIt (g:Nat→Nat→Rat) (v:Nat→Rat) (w i:Nat):Rat:=sm (fun c=>g i c*v c) w
end Go.Proofs.YtcjdedkdoagifaaGreat
set_option linter.unusedVariables false
namespace Go.Proofs.YtcjdedkdoagifaaGreat
/-- A vector and the right side. -/
def ext (x:Nat→Rat) (w c:Nat):Rat:=if c<w then x c else -1
end Go.Proofs.YtcjdedkdoagifaaGreat
set_option linter.unusedVariables false
namespace Go.Proofs.YtcjdedkdoagifaaGreat
/-- A turned matrix. -/
def tr (g:Nat→Nat→Rat) (i k:Nat):Rat:=g k i
theorem aGs {g:Nat→Nat→Rat} {h w c:Nat} (hh:h≤100) (hc:c<w) (K:Nat):∀(t i k:Nat),i+t=h→t<k→mR K (mx g h w) (c:Int) k (mp (tr g c) i) (i:Int)=some (mp (tr g c) h)
 |0,i,k,hi,hk=>by
  obtain⟨k',rfl,_⟩:=bB hk
  have:i=h:=by omega
  subst this
  simp only [mR,vU,dF (show¬(i:Int)<(i:Int) by omega),bJ]
 |t+1,i,k,hi,hk=>by
  obtain⟨k',rfl,_⟩:=bB hk
  have hl:i<h:=by omega
  have e4:pA (mp (tr g c) i) [g i c]=some (mp (tr g c) (i+1)):=apM (g:=tr g c) (by omega)
  simp only [mR,vU,dT (show(i:Int)<(h:Int) by omega),bS,aCp (g:=g) (w:=w) hl,oB,eH (f:=g i) hc,e4,m6 (i:=i) (by omega)]
  exact aGs hh hc K t (i+1) k' (by omega) (by omega)
theorem aF6 {g:Nat→Nat→Rat} {h w:Nat} (hc:Cok h w) (hh:h≤100) (hw:w≤100) {K:Nat} (hK:h<K):∀(t i k:Nat),i+t=w→t<k→mI K (mx g h w) k (mx (tr g) i h) (i:Int)=some (mx (tr g) w h)
 |0,i,k,hi,hk=>by
  obtain⟨k',rfl,_⟩:=bB hk
  have:i=w:=by omega
  subst this
  simp only [mI,aIV hc,oB,dF (show¬(i:Int)<(i:Int) by omega),bJ]
 |t+1,i,k,hi,hk=>by
  obtain⟨k',rfl,_⟩:=bB hk
  have h50:=aGs (g:=g) hh (show i<w by omega) K h 0 K (by omega) hK
  simp only [Int.natCast_zero,aAX] at h50
  have e4:pA (mx (tr g) i h) [mp (tr g i) h]=some (mx (tr g) (i+1) h):=apM (g:=fun i=>mp (tr g i) h) (by omega)
  simp only [mI,aIV hc,dT (show(i:Int)<(w:Int) by omega),bS,oB,h50,wO,e4,m6 (i:=i) (by omega)]
  exact aF6 hc hh hw hK t (i+1) k' (by omega) (by omega)
theorem aMO {g:Nat→Nat→Rat} {h w:Nat} (hc:Cok h w) (hh:h≤100) (hw:w≤100) {K:Nat} (hK:w+h<K):vV K (mx g h w)=some (mx (tr g) w h):=by
 have:=aF6 (g:=g) hc hh hw (K:=K) (by omega) w 0 K (by omega) (by omega)
 have e:mx (tr g) 0 h=[]:=rfl
 rw [e] at this
 simp only [Int.natCast_zero] at this
 simp only [vV,this,oB,wS]
def z6 (g q:Nat→Nat→Rat) (w i j:Nat):Rat:=aIt (tr q) (g i) w j
end Go.Proofs.YtcjdedkdoagifaaGreat
set_option linter.unusedVariables false
namespace Go.Proofs.YtcjdedkdoagifaaGreat
theorem aSl:sgn 0=1:=rfl
def yR (i c:Nat):Rat:=if i=c then 1 else 0
theorem aEf:∀n,dt n yR=1
 |0=>rfl
 |n+1=>by
  rw [dt,aDx (p:=0) (by omega) fun k _ hk=>by unfold yR;rw [if_neg (fun e=>hk e.symm)];grind]
  have e:dt n (mnr yR 0)=dt n yR:=vL fun i c _ _=>by
   unfold mnr yR skp
   rw [if_neg (Nat.not_lt_zero c)]
   by_cases h:i=c
   ·rw [if_pos h,if_pos (by omega)]
   ·rw [if_neg h,if_neg (by omega)]
  rw [e,aEf n,aSl]
  unfold yR
  rw [if_pos rfl];grind
theorem aMo {h k:Nat} {s:RS} (hs:RJ h k s):∀i,i<s.ps.length→i≤pat s.ps i
 |0,_=>Nat.zero_le _
 |i+1,hi=>by
  have:=aMo hs i (by omega)
  have:=hs.inc i (i+1) (by omega) hi
  omega
theorem aIx {h k:Nat} {s:RS} (hs:RJ h k s):∀t i,i+t+1=s.ps.length→pat s.ps i+t<k
 |0,i,hi=>hs.pk i (by omega)
 |t+1,i,hi=>by
  have:=aIx hs t (i+1) (by omega)
  have:=hs.inc i (i+1) (by omega) (by omega)
  omega
theorem aNp {h k:Nat} {s:RS} (hs:RJ h k s) (hf:s.ps.length=k) {i:Nat} (hi:i<k):pat s.ps i=i:=by
 have h1:=aMo hs i (by omega)
 have h2:=aIx hs (k-1-i) i (by omega)
 omega
theorem aDu {h k:Nat} {s:RS} (hs:RJ h k s) (hf:s.ps.length=k) {i c:Nat} (hi:i<h) (hc:c<k):s.g i c=if i=c then 1 else 0:=by
 have:=hs.one c i (by omega) hi
 rw [aNp hs hf hc] at this
 exact this
def aQz (g:Nat→Nat→Rat) (n:Nat):Rat:=if(red g n n).ps.length=n then(red g n n).d else 0
theorem aRi {g:Nat→Nat→Rat} {n:Nat}:dt n g=aQz g n:=by
 have hJ:=aKv (g:=g) (h:=n) n
 unfold aQz
 rw [(aFi n).red0 (g:=g) n]
 split
 ·rename_i hf
  rw [vL (g':=yR) fun i c hi hc=>aDu hJ hf hi hc,aEf];grind
 ·rename_i hf
  have hlt:(red g n n).ps.length<n:=by have:=hJ.ph;omega
  rw [vL (g':=fun i c=>if c<n then(red g n n).g i c else 0) fun i c hi hc=>by rw [if_pos hc],(aFi n).zero (i:=n-1) (by omega) ?_]
  ·grind
  ·funext c
   split
   ·rename_i hc
    exact hJ.z (n-1) c (by omega) (by omega) hc
   ·rfl
theorem aNe (q:Nat→Nat→Rat) (n w:Nat):Alt n fun g=>dt n (z6 g q w):=by
 have eu:∀(g:Nat→Nat→Rat) (f:Nat→Rat) (i:Nat),z6 (kE g i f) q w=kE (z6 g q w) i (fun j=>aIt (tr q) f w j):=by
  intro g f i
  funext j c
  unfold z6
  by_cases h:j=i
  ·subst h;rw [bD,bD]
  ·rw [cP h,cP h]
 refine⟨fun g g' h=>vL fun i c hi _=>?_,fun g u v a i hi=>?_,fun g i j hi hj hne=>?_⟩
 ·unfold z6;rw [h i hi]
 ·show dt n _=dt n _-a*dt n _
  rw [eu,eu,eu,←aJC hi]
  congr 2
  funext j
  unfold aIt
  rw [←aEq]
  exact fU fun c _=>by grind
 ·exact(aFi n).swap (z6 g q w) i j hi hj hne
theorem aNF {g q:Nat→Nat→Rat} {n:Nat}:dt n (z6 g q n)=dt n g*dt n q:=by
 have hJ:=aKv (g:=g) (h:=n) n
 have hm:dt n (z6 g q n)=(red g n n).d*dt n (z6 (red g n n).g q n):=(aNe q n n).red0 (g:=g) n
 rw [hm,aRi (g:=g)]
 unfold aQz
 split
 ·rename_i hf
  rw [vL (g:=z6 (red g n n).g q n) (g':=q) fun i c hi hc=>?_]
  unfold z6 aIt tr
  rw [aDx (p:=i) hi fun j hj hne=>by rw [aDu hJ hf hi hj,if_neg (fun e=>hne e.symm)];grind]
  rw [aDu hJ hf hi hi,if_pos rfl];grind
 ·rename_i hf
  have hlt:(red g n n).ps.length<n:=by have:=hJ.ph;omega
  rw [(aFi n).zero (g:=z6 (red g n n).g q n) (i:=n-1) (by omega) (by
   funext c
   unfold z6 aIt
   exact aBJ fun j hj=>by rw [hJ.z (n-1) j (by omega) (by omega) hj];grind)]
  grind
def pm (f:Nat→Rat):Nat→Rat
 |0=>1
 |n+1=>pm f n*f n
end Go.Proofs.YtcjdedkdoagifaaGreat
set_option linter.unusedVariables false
namespace Go.Proofs.YtcjdedkdoagifaaGreat
/-- The unit matrix with one column replaced. -/
def aHW (i:Nat) (x:Nat→Rat) (r c:Nat):Rat:=if c=i then x r else if r=c then 1 else 0
theorem aOZ {n i:Nat} (hi:i<n) (x:Nat→Rat):dt n (aHW i x)=x i:=by
 have a:=aFi n
 have e1:aHW i x=kE (aHW i x) i (fun c=>x i*yR i c):=by
  funext r c
  by_cases h:r=i
  ·subst h
   rw [bD]
   unfold aHW yR
   by_cases h2:c=r
   ·rw [if_pos h2,if_pos h2.symm,Rat.mul_one]
   ·rw [if_neg h2,if_neg (show¬r=c from fun e=>h2 e.symm),Rat.mul_zero]
  ·rw [cP h]
 have e2:dt n (kE (aHW i x) i (yR i))=1:=by
  rw [←a.elm0 (g:=kE (aHW i x) i (yR i)) (n:=i) (k:=i) hi n (Nat.le_refl n),←aEf n]
  refine vL fun r c hr hc=>?_
  unfold elm
  by_cases h:r=i
  ·subst h
   rw [if_neg (fun h2=>h2.2 rfl),bD]
  ·rw [if_pos ⟨hr,h⟩,cP h,bD]
   unfold aHW yR
   rw [if_pos rfl]
   by_cases h2:c=i
   ·rw [if_pos h2,if_pos h2.symm,Rat.mul_one,Rat.sub_self,if_neg (by omega)]
   ·rw [if_neg h2,if_neg (show¬i=c from fun e=>h2 e.symm),Rat.mul_zero,Rat.sub_eq_add_neg,Rat.neg_zero,Rat.add_zero]
 rw [e1,a.scale hi,e2,Rat.mul_one]
def aJk (Z:Nat→Nat→Rat) (b:Nat→Nat) (r j:Nat):Rat:=Z r (b j)
def aGB (Z:Nat→Nat→Rat) (b:Nat→Nat) (i k:Nat) (r j:Nat):Rat:=if j=i then Z r k else Z r (b j)
theorem aRw {n w:Nat} {E Z T:Nat→Nat→Rat} {b:Nat→Nat} (hT:∀i c,i<n→c<w→T i c=z6 E Z n i c) (hb:∀j,j<n→b j<w) (hu:∀i j,i<n→j<n→T i (b j)=if i=j then 1 else 0) {i k:Nat} (hi:i<n) (hk:k<w):dt n (aJk Z b)≠0∧T i k=dt n (aGB Z b i k)/dt n (aJk Z b):=by
 have h1:dt n E*dt n (aJk Z b)=1:=by
  rw [←aNF,←aEf n]
  refine vL fun r c hr hc=>?_
  show z6 E Z n r (b c)=_
  rw [←hT r (b c) hr (hb c hc),hu r c hr hc];rfl
 have h2:dt n E*dt n (aGB Z b i k)=T i k:=by
  rw [←aNF,←aOZ hi (fun r=>T r k)]
  refine vL fun r c hr hc=>?_
  unfold aHW
  by_cases h:c=i
  ·rw [if_pos h]
   show _=T r k
   rw [hT r k hr hk]
   unfold z6 aIt tr aGB
   simp [h]
  ·rw [if_neg h,←hu r c hr hc,hT r (b c) hr (hb c hc)]
   unfold z6 aIt tr aGB
   simp [h]
 have hne:dt n (aJk Z b)≠0:=fun e=>by rw [e,Rat.mul_zero] at h1;exact absurd h1 (by decide)
 refine⟨hne,?_⟩
 rw [←h2,Rat.div_def]
 have:dt n E=(dt n (aJk Z b))⁻¹:=by
  have h3:=congrArg (·*(dt n (aJk Z b))⁻¹) h1
  simp only [Rat.mul_assoc,Rat.mul_inv_cancel _ hne,Rat.mul_one,Rat.one_mul] at h3
  exact h3
 rw [this,Rat.mul_comm]
def isZ (M:Nat) (x:Rat):Prop:=∃q:Int,x=(q:Rat)∧q.natAbs≤M
def fM (M:Nat):Nat→Nat
 |0=>1
 |n+1=>(n+1)*(M*fM M n)
theorem isZ.mono {M N:Nat} {x:Rat} (h:isZ M x) (hn:M≤N):isZ N x:=by
 obtain⟨q,h1,h2⟩:=h
 exact⟨q,h1,by omega⟩
theorem isZ.add {M N:Nat} {x y:Rat} (h:isZ M x) (k:isZ N y):isZ (M+N) (x+y):=by
 obtain⟨q,h1,h2⟩:=h
 obtain⟨p,k1,k2⟩:=k
 exact⟨q+p,by rw [h1,k1,Rat.intCast_add],by omega⟩
theorem isZ.mul {M N:Nat} {x y:Rat} (h:isZ M x) (k:isZ N y):isZ (M*N) (x*y):=by
 obtain⟨q,h1,h2⟩:=h
 obtain⟨p,k1,k2⟩:=k
 exact⟨q*p,by rw [h1,k1,Rat.intCast_mul],by rw [Int.natAbs_mul];exact Nat.mul_le_mul h2 k2⟩
theorem isZ.zero:isZ 0 0:=⟨0,rfl,Nat.le_refl _⟩
theorem aSD (k:Nat):isZ 1 (sgn k):=by
 unfold sgn
 split
 ·exact⟨1,rfl,by decide⟩
 ·exact⟨-1,rfl,by decide⟩
theorem aST {f:Nat→Rat} {M:Nat}:∀n,(∀i,i<n→isZ M (f i))→isZ (n*M) (sm f n)
 |0,_=>by rw [Nat.zero_mul];exact isZ.zero
 |n+1,h=>by
  have:=(aST n fun i hi=>h i (by omega)).add (h n (by omega))
  rw [Nat.succ_mul];exact this
theorem aQu {M:Nat}:∀(n:Nat) (g:Nat→Nat→Rat),(∀i c,i<n→c<n→isZ M (g i c))→isZ (fM M n) (dt n g)
 |0,g,h=>⟨1,rfl,Nat.le_refl _⟩
 |n+1,g,h=>aST (n+1) fun k hk=>by
  have h1:=aQu n (mnr g k) fun i c hi hc=>h (i+1) (skp k c) (by omega) (aMn hc)
  have h2:=(aSD k).mul ((h 0 k (by omega) hk).mul h1)
  rw [Nat.one_mul] at h2
  first|exact h2|(rw [Rat.mul_assoc];exact h2)
theorem aLP {n w M k:Nat} {E Z T:Nat→Nat→Rat} {b:Nat→Nat} (hT:∀i c,i<n→c<w→T i c=z6 E Z n i c) (hb:∀j,j<n→b j<w) (hu:∀i j,i<n→j<n→T i (b j)=if i=j then 1 else 0) (hZ:∀i c,i<n→c<w→isZ M (Z i c)) (hM:fM M n<2^k):Bdx n w k T:=fun i c hi hc=>by
 obtain⟨h1,h2⟩:=aRw hT hb hu hi hc
 obtain⟨p,p1,p2⟩:=aQu n (aGB Z b i c) fun r j hr hj=>by
  unfold aGB
  split
  ·exact hZ r c hr hc
  ·exact hZ r (b j) hr (hb j hj)
 obtain⟨q,q1,q2⟩:=aQu n (aJk Z b) fun r j hr hj=>hZ r (b j) hr (hb j hj)
 rw [h2,p1,q1]
 refine Bd.of (fun e=>h1 (by rw [q1,e];rfl)) (Nat.lt_of_le_of_lt p2 hM) (Nat.lt_of_le_of_lt q2 hM)
end Go.Proofs.YtcjdedkdoagifaaGreat
set_option linter.unusedVariables false
namespace Go.Proofs.YtcjdedkdoagifaaGreat
/-- A tableau: its rows are combinations of those of Z, and the columns of the basic variables are those of the unit matrix. -/
structure TI (n w:Nat) (Z T:Nat→Nat→Rat) (b:Nat→Nat):Prop where
 ex:∃E:Nat→Nat→Rat,∀i c,i<n→c<w→T i c=z6 E Z n i c
 lt:∀j,j<n→b j<w
 un:∀i j,i<n→j<n→T i (b j)=if i=j then 1 else 0
def wL (T:Nat→Nat→Rat) (r c i k:Nat):Rat:=if i=r then T r k/T r c else T i k-T i c*(T r k/T r c)
theorem aBR {E Z:Nat→Nat→Rat} {n i k:Nat}:z6 E Z n i k=sm (fun j=>Z j k*E i j) n:=by
 unfold z6 aIt tr
 first|rfl|(refine fU fun j _=>?_;first|rfl|exact Rat.mul_comm _ _)
theorem TI.pivot {n w:Nat} {Z T:Nat→Nat→Rat} {b:Nat→Nat} (h:TI n w Z T b) {r c:Nat} (hr:r<n) (hc:c<w) (hp:T r c≠0):TI n w Z (wL T r c) (kE b r c):=by
 obtain⟨⟨E,hE⟩,hb,hu⟩:=h
 refine⟨⟨fun i j=>if i=r then E r j/T r c else E i j-T i c*(E r j/T r c),fun i k hi hk=>?_⟩,fun j hj=>?_,fun i j hi hj=>?_⟩
 ·rw [aBR]
  have e1:T r k/T r c=sm (fun j=>Z j k*(E r j/T r c)) n:=by
   rw [hE r k hr hk,aBR,Rat.div_def,Rat.mul_comm,←zU]
   refine fU fun j _=>?_
   rw [Rat.div_def,Rat.mul_comm,Rat.mul_assoc]
  unfold wL
  by_cases e:i=r
  ·rw [if_pos e,e1]
   exact fU fun j _=>by rw [if_pos e]
  ·rw [if_neg e,hE i k hi hk,aBR,e1,←zU,Rat.sub_eq_add_neg,←aEO,←aG3]
   refine fU fun j _=>?_
   rw [if_neg e,Rat.sub_eq_add_neg,Rat.mul_add,Rat.mul_neg,←Rat.mul_assoc,←Rat.mul_assoc,Rat.mul_comm (T i c)]
 ·by_cases e:j=r
  ·rw [e,bD];exact hc
  ·rw [cP e];exact hb j hj
 ·unfold wL
  by_cases e:j=r
  ·rw [e,bD,Rat.div_def,Rat.mul_inv_cancel _ hp]
   by_cases e2:i=r
   ·rw [if_pos e2,if_pos e2]
   ·rw [if_neg e2,if_neg e2,Rat.mul_one,Rat.sub_self]
  ·have h0:T r (b j)=0:=by rw [hu r j hr hj,if_neg fun h=>e h.symm]
   rw [cP e,h0,Rat.div_def,Rat.zero_mul]
   by_cases e2:i=r
   ·rw [if_pos e2,if_neg (by omega)]
   ·rw [if_neg e2,Rat.mul_zero,Rat.sub_eq_add_neg,Rat.neg_zero,Rat.add_zero]
    exact hu i j hi hj
theorem TI.start {n w:Nat} {Z:Nat→Nat→Rat} (hw:n≤w) (hz:∀i j,i<n→j<n→Z i j=if i=j then 1 else 0):TI n w Z Z (fun j=>j):=
 ⟨⟨yR,fun i c hi hc=>by
  rw [aBR]
  have:sm (fun j=>Z j c*yR i j) n=sm (fun j=>if j=i then Z i c else 0) n:=fU fun j _=>by
   unfold yR
   by_cases e:j=i
   ·rw [if_pos e,e,if_pos rfl,Rat.mul_one]
   ·rw [if_neg e,if_neg (fun h=>e h.symm),Rat.mul_zero]
  rw [this]
  have key:∀m,m≤n→sm (fun j=>if j=i then Z i c else 0) m=if i<m then Z i c else 0:=by
   intro m
   induction m with
   |zero=>intro _;rw [if_neg (by omega)];rfl
   |succ m ih=>
    intro hm
    show sm _ m+(if m=i then Z i c else 0)=_
    rw [ih (by omega)]
    by_cases e:m=i
    ·rw [if_pos e,if_neg (by omega),if_pos (by omega),Rat.zero_add]
    ·rw [if_neg e,Rat.add_zero]
     by_cases e2:i<m
     ·rw [if_pos e2,if_pos (by omega)]
     ·rw [if_neg e2,if_neg (by omega)]
  rw [key n (Nat.le_refl n),if_pos hi]⟩,fun j hj=>by omega,fun i j hi hj=>hz i j hi hj⟩
theorem aPd {M:Nat}:∀n,n≤64→fM M n≤(64*M)^n
 |0,_=>Nat.le_refl _
 |n+1,h=>by
  show(n+1)*(M*fM M n)≤_
  rw [Nat.pow_succ,Nat.mul_comm ((64*M)^n),←Nat.mul_assoc]
  exact Nat.mul_le_mul (Nat.mul_le_mul_right M h) (aPd n (by omega))
theorem TI.scale {n w:Nat} {Z T:Nat→Nat→Rat} {b:Nat→Nat} (h:TI n w Z T b) {D:Rat} (hD:D≠0):TI n w (fun i c=>Z i c*D) T b:=by
 obtain⟨⟨E,hE⟩,hb,hu⟩:=h
 refine⟨⟨fun i j=>E i j/D,fun i c hi hc=>?_⟩,hb,hu⟩
 rw [hE i c hi hc,aBR,aBR]
 refine fU fun j _=>?_
 rw [Rat.div_def,Rat.mul_comm (E i j),Rat.mul_assoc,←Rat.mul_assoc D,Rat.mul_inv_cancel _ hD,Rat.one_mul]
theorem TI.bd {n w M k:Nat} {Z T:Nat→Nat→Rat} {b:Nat→Nat} {D:Rat} (h:TI n w Z T b) (hD:D≠0) (hZ:∀i c,i<n→c<w→isZ M (Z i c*D)) (hn:n≤64) (hM:(64*M)^n<2^k):Bdx n w k T:=by
 obtain⟨⟨E,hE⟩,hb,hu⟩:=h.scale hD
 exact aLP hE hb hu hZ (Nat.lt_of_le_of_lt (aPd n hn) hM)
end Go.Proofs.YtcjdedkdoagifaaGreat
set_option linter.unusedVariables false
namespace Go.Proofs.YtcjdedkdoagifaaGreat
/-- A degree of freedom with small numbers. -/
def aP9 (d:aG):Prop:=Bd 8 d.inv∧d.inv≠0∧Bd 8 d.load
def dof (d:List aG) (i:Nat):aG:=d.getD i ⟨0,0,false,0,0⟩
def aRa (d:List aG):Prop:=∀x∈d,aP9 x
end Go.Proofs.YtcjdedkdoagifaaGreat
set_option linter.unusedVariables false
namespace Go.Proofs.YtcjdedkdoagifaaGreat
/-- Terms that are few and small. -/
def TB (l:List aC):Prop:=l.length≤12∧∀t∈l,Bd 8 t.k
def RB (r:aA):Prop:=TB r.j∧TB r.t
def RsB (l:List aA):Prop:=∀r∈l,RB r
theorem TB.nil:TB []:=⟨by simp,fun t h=>absurd h List.not_mem_nil⟩
theorem RsB.nil:RsB []:=fun t h=>absurd h List.not_mem_nil
theorem RsB.snoc {l:List aA} {r:aA} (h:RsB l) (hr:RB r):RsB (l++[r]):=fun x hx=>by
 rcases List.mem_append.1 hx with h1|h1
 ·exact h x h1
 ·rw [List.mem_singleton.1 h1];exact hr
def RC (r:aA):Prop:=RB r∧Bd 8 r.mu
def RsC (l:List aA):Prop:=∀r∈l,RC r
theorem RsC.snoc {l:List aA} {r:aA} (h:RsC l) (hr:RC r):RsC (l++[r]):=fun x hx=>by
 rcases List.mem_append.1 hx with h1|h1
 ·exact h x h1
 ·rw [List.mem_singleton.1 h1];exact hr
structure aO7 (s:aI):Prop where
 n1:1≤s.dofs.length
 n4:s.dofs.length≤4
 dofs:aRa s.dofs
 ll:s.load.length=s.dofs.length
 vl:s.v.length=s.dofs.length
 load:uD 8 s.load
 v:uD 8 s.v
 rows:RsB s.rows
 rl:s.rows.length≤4
 mus:RsC s.rows
theorem tab7 {m:Int} (h0:0≤m) (h1:m<7):∃x,bT [0,1,(-1),0,2,(-1),1] m=some x∧-2≤x∧x≤2:=by
 have:m=0∨m=1∨m=2∨m=3∨m=4∨m=5∨m=6:=by omega
 rcases this with rfl|rfl|rfl|rfl|rfl|rfl|rfl<;>exact⟨_,rfl,by omega,by omega⟩
end Go.Proofs.YtcjdedkdoagifaaGreat
set_option linter.unusedVariables false
namespace Go.Proofs.YtcjdedkdoagifaaGreat
/-- What a term adds to a rate. -/
def trm (a:List Rat) (t:aC):Rat:=bif decide (0≤t.dof∧t.dof<(a.length:Int)) then t.k*qB a t.dof.toNat else 0
def rtf (a:List Rat):List aC→Rat→Rat
 |[],x=>x
 |t::l,x=>rtf a l (x+trm a t)
def rt (l:List aC) (a:List Rat):Rat:=rtf a l 0
theorem aJG {a:List Rat} {B:Nat} {t:aC} (ha:uD B a) (ht:Bd 8 t.k):Bd (8+B) (trm a t):=by
 unfold trm
 by_cases h:0≤t.dof∧t.dof<(a.length:Int)
 ·rw [decide_eq_true h]
  exact(ht.mul (ha _ (u8 (by omega)))).mono (by omega)
 ·rw [decide_eq_false h]
  exact Bd.zero.mono (by omega)
theorem aM2 {a:List Rat} {B:Nat} (ha:uD B a):∀(l:List aC) (x:Rat) (n:Nat),(∀t∈l,Bd 8 t.k)→Bd n x→Bd (n+(B+9)*l.length) (rtf a l x)
 |[],x,n,_,hx=>hx.mono (by simp)
 |t::l,x,n,hl,hx=>(aM2 ha l (x+trm a t) (n+(8+B)+1) (fun t h=>hl t (List.mem_cons_of_mem _ h)) (hx.add (aJG ha (hl t List.mem_cons_self)))).mono (by simp only [List.length_cons,Nat.mul_succ];omega)
theorem xZ {a:List Rat} {B:Nat} {l:List aC} (ha:uD B a) (hl:TB l):Bd (1+(B+9)*12) (rt l a):=(aM2 ha l 0 1 hl.2 Bd.zero).mono (by have:=Nat.mul_le_mul_left (B+9) hl.1;omega)
theorem aJ6 {a:List Rat} {l:List aC} (ha:uD 64 a) (hl:TB l):Bd 1000 (rt l a):=(xZ ha hl).mono (by omega)
theorem aGb {l:List aC} {i:Nat} (h:i<l.length):∃x,x∈l∧l.drop i=x::l.drop (i+1)∧bT l (i:Int)=some x:=
 ⟨l[i],List.getElem_mem h,List.drop_eq_getElem_cons h,rdG (List.getElem?_eq_getElem h)⟩
theorem aD5 {a:List Rat} {t:aC} (x:Rat) (h:¬(0≤t.dof∧t.dof<(a.length:Int))):x+trm a t=x:=by
 unfold trm;rw [decide_eq_false h];exact Rat.add_zero x
theorem aKy {a:List Rat} {B:Nat} {l:List aC} (ha:uD B a) (hl:TB l) (K:Nat):∀(t i k n:Nat) (x:Rat),i+t=l.length→t<k→Bd n x→n+(B+9)*t≤1073741824→mC K l a k x (i:Int)=some (rtf a (l.drop i) x)
 |0,i,k,n,x,hi,hk,hx,hn=>by
  obtain⟨k',rfl,_⟩:=bB hk
  rw [List.drop_eq_nil_of_le (by omega)]
  simp only [mC,dF (show¬(i:Int)<(l.length:Int) by omega),bJ];rfl
 |t+1,i,k,n,x,hi,hk,hx,hn=>by
  have h12:=hl.1
  obtain⟨k',rfl,_⟩:=bB hk
  obtain⟨y,h1,h2,h3⟩:=aGb (l:=l) (i:=i) (by omega)
  have hB:(B+9)*(t+1)=(B+9)*t+(B+9):=Nat.mul_succ _ _
  have ih:=aKy ha hl K t (i+1) k' (n+(8+B)+1) (x+trm a y) (by omega) (by omega) (hx.add (aJG ha (hl.2 y h1))) (by omega)
  rw [h2]
  show _=some (rtf a (l.drop (i+1)) (x+trm a y))
  simp only [mC,dT (show(i:Int)<(l.length:Int) by omega),bS,h3,oB]
  by_cases h0:0≤y.dof
  ·simp only [dT h0,bS]
   by_cases h4:y.dof<(a.length:Int)
   ·have e:y.dof=((y.dof.toNat:Nat):Int):=by omega
    have hr:bT a y.dof=some (qB a y.dof.toNat):=by
     have:=aA8 (l:=a) (i:=y.dof.toNat) (by omega)
     rwa [←e] at this
    have hv:=ha _ (u8 (l:=a) (i:=y.dof.toNat) (by omega))
    have ht:trm a y=y.k*qB a y.dof.toNat:=by unfold trm;rw [decide_eq_true ⟨h0,h4⟩];rfl
    rw [ht] at ih ⊢
    simp only [dT h4,bS,hr,oB,qS (hl.2 y h1) hv (by omega) (by omega),xR hx ((hl.2 y h1).mul hv) (by omega) (by omega),m6 (i:=i) (by omega)]
    exact ih
   ·rw [aD5 x (fun h=>h4 h.2)] at ih ⊢
    simp only [dF h4,bJ,m6 (i:=i) (by omega),oB]
    exact ih
  ·rw [aD5 x (fun h=>h0 h.1)] at ih ⊢
   simp only [dF h0,bJ,m6 (i:=i) (by omega),oB]
   exact ih
theorem wZ {a:List Rat} {B:Nat} {l:List aC} (ha:uD B a) (hB:B≤80000000) (hl:TB l) {K:Nat} (hK:13≤K):iH K l a=some (rt l a):=by
 have h:=hl.1
 have h2:=Nat.mul_le_mul_left (B+9) h
 have:=aKy ha hl K l.length 0 K 1 0 (by omega) (by omega) Bd.zero (by omega)
 simp only [Int.natCast_zero,List.drop_zero] at this
 simp only [iH,this,oB,wX];rfl
theorem aKw {a:List Rat} {l:List aC} (ha:uD 64 a) (hl:TB l) {K:Nat} (hK:13≤K):iH K l a=some (rt l a):=wZ ha (by omega) hl hK
theorem aIl {a:List Rat} {B:Nat} {l:List aC} (ha:uD B a) (hl:TB l) (K:Nat):∀(t i k n:Nat) (x:Rat),i+t=l.length→t<k→Bd n x→n+(B+9)*t≤1073741824→fL K l a k x (i:Int)=some (rtf a (l.drop i) x)
 |0,i,k,n,x,hi,hk,hx,hn=>by
  obtain⟨k',rfl,_⟩:=bB hk
  rw [List.drop_eq_nil_of_le (by omega)]
  simp only [fL,dF (show¬(i:Int)<(l.length:Int) by omega),bJ];rfl
 |t+1,i,k,n,x,hi,hk,hx,hn=>by
  have h12:=hl.1
  obtain⟨k',rfl,_⟩:=bB hk
  obtain⟨y,h1,h2,h3⟩:=aGb (l:=l) (i:=i) (by omega)
  have hB:(B+9)*(t+1)=(B+9)*t+(B+9):=Nat.mul_succ _ _
  have ih:=aIl ha hl K t (i+1) k' (n+(8+B)+1) (x+trm a y) (by omega) (by omega) (hx.add (aJG ha (hl.2 y h1))) (by omega)
  rw [h2]
  show _=some (rtf a (l.drop (i+1)) (x+trm a y))
  simp only [fL,dT (show(i:Int)<(l.length:Int) by omega),bS,h3,oB]
  by_cases h0:0≤y.dof
  ·simp only [dT h0,bS]
   by_cases h4:y.dof<(a.length:Int)
   ·have e:max y.dof 0=((y.dof.toNat:Nat):Int):=by omega
    have hr:bT a (max y.dof 0)=some (qB a y.dof.toNat):=by
     rw [e];exact aA8 (l:=a) (i:=y.dof.toNat) (by omega)
    have hv:=ha _ (u8 (l:=a) (i:=y.dof.toNat) (by omega))
    have ht:trm a y=y.k*qB a y.dof.toNat:=by unfold trm;rw [decide_eq_true ⟨h0,h4⟩];rfl
    rw [ht] at ih ⊢
    simp only [dT h4,bS,hr,oB,qS (hl.2 y h1) hv (by omega) (by omega),xR hx ((hl.2 y h1).mul hv) (by omega) (by omega),m6 (i:=i) (by omega)]
    exact ih
   ·rw [aD5 x (fun h=>h4 h.2)] at ih ⊢
    simp only [dF h4,bJ,m6 (i:=i) (by omega),oB]
    exact ih
  ·rw [aD5 x (fun h=>h0 h.1)] at ih ⊢
   simp only [dF h0,bJ,m6 (i:=i) (by omega),oB]
   exact ih
theorem yQ {a:List Rat} {B:Nat} {l:List aC} (ha:uD B a) (hB:B≤80000000) (hl:TB l) {K:Nat} (hK:13≤K):dW K l a=some (rt l a):=by
 have h:=hl.1
 have h2:=Nat.mul_le_mul_left (B+9) h
 have:=aIl ha hl K l.length 0 K 1 0 (by omega) (by omega) Bd.zero (by omega)
 simp only [Int.natCast_zero,List.drop_zero] at this
 simp only [dW,this,oB,qP];rfl
theorem aHT {a:List Rat} {l:List aC} (ha:uD 64 a) (hl:TB l) {K:Nat} (hK:13≤K):dW K l a=some (rt l a):=yQ ha (by omega) hl hK
theorem aOC {x:Rat} (h:0<x):x.num.sign=1:=by
 have h1:=Rat.num_nonneg.2 (Rat.le_of_lt h)
 have h2:x.num≠0:=fun e=>by rw [Rat.num_eq_zero.1 e] at h;exact Rat.lt_irrefl h
 exact Int.sign_eq_one_of_pos (by omega)
theorem aQW {x:Rat} (h:x<0):0< -x:=by
 have:=Rat.neg_lt_neg h
 rwa [Rat.neg_zero] at this
theorem aOQ {x:Rat} (h:x<0):x.num.sign=-1:=by
 have h1:=aOC (aQW h)
 rw [Rat.neg_num,Int.sign_neg] at h1
 omega
theorem aDq {l:List aA} {i:Nat} (h:i<l.length):∃x,x∈l∧l.drop i=x::l.drop (i+1)∧bT l (i:Int)=some x:=
 ⟨l[i],List.getElem_mem h,List.drop_eq_getElem_cons h,rdG (List.getElem?_eq_getElem h)⟩
theorem aRW {l:List aA} {f:aA→Option Bool} {b:aA→Bool} (hf:∀r∈l,f r=some (b r)) (hl:l.length≤1000) (K:Nat):∀(t i k:Nat),i+t=l.length→t<k→
  (l.drop i).any b=false∧eM K l f k (i:Int)=some (.go ())∨(l.drop i).any b=true∧∃j:Nat,eM K l f k (i:Int)=some (.ret (j:Int))
 |0,i,k,hi,hk=>by
  obtain⟨k',rfl,_⟩:=bB hk
  refine .inl ⟨by rw [List.drop_eq_nil_of_le (by omega)];rfl,?_⟩
  simp only [eM,dF (show¬(i:Int)<(l.length:Int) by omega),bJ]
 |t+1,i,k,hi,hk=>by
  obtain⟨k',rfl,_⟩:=bB hk
  obtain⟨x,h1,h2,h3⟩:=aDq (l:=l) (i:=i) (by omega)
  rw [h2]
  simp only [eM,dT (show(i:Int)<(l.length:Int) by omega),bS,h3,oB,hf x h1,List.any_cons]
  cases b x
  ·simp only [bJ,Bool.false_or,m6 (i:=i) (by omega),oB]
   exact aRW hf hl K t (i+1) k' (by omega) (by omega)
  ·exact .inr ⟨rfl,i,by simp only [bS]⟩
theorem aLT {l:List aA} {f:aA→Option Bool} {b:aA→Bool} (hf:∀r∈l,f r=some (b r)) (hl:l.length≤1000) {K:Nat} (hK:l.length<K):fY K l f=some (l.any b):=by
 have:=aRW hf hl K l.length 0 K (by omega) hK
 simp only [Int.natCast_zero,List.drop_zero] at this
 rcases this with⟨h1,h2⟩|⟨h1,y,h2⟩
 ·simp only [fY,mO,h2,oB,nG,h1];rfl
 ·simp only [fY,mO,h2,oB,h1,dT (show(0:Int)≤(y:Int) by omega)]
theorem aOJ (K:Nat):iY (K+40)=some true:=by kernel_rfl
end Go.Proofs.YtcjdedkdoagifaaGreat
