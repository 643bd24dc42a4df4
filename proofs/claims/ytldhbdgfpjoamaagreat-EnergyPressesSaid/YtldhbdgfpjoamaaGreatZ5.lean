/- Texts of the proof, part 5: Q2 Q3 Q4 QZ LB LD L2 L3 L4 EF MA MB MC MR MT LG LV MS MN MP MU YC. -/
import Derived.Test.YtldhbdgfpjoamaaGreatZ4
set_option linter.unusedSimpArgs false
set_option linter.unusedVariables false
set_option maxRecDepth 100000
namespace Go.Proofs.YtldhbdgfpjoamaaGreat
def mL (K:Nat) (v98:List Rat) (x134:List Nat) (x140:List (List Rat)):Option ((List (List Rat))×(List Rat)):=
 some ((aBb x140 x134),v98)
def d6 (K:Nat) (a0:aF) (v2:List aC) (x121:List Nat) (x127:List (List Rat)) (x133:Int) (v152:aC) (v164:aA) (recl146:(List Nat)→(List (List Rat))→Int→Option ((List Nat)×(List (List Rat)))) (x174:List aI):Option ((List Nat)×(List (List Rat))):=
 (aT (x133+3)).bind fun v183=>bif(decide (v183<(v2.length:Int))) then((aT (x133+3)).bind fun v186=>(bL v2 v186).bind fun v188=>bif(v188.row==v152.row&&v188.kind==3) then((aT (x133+3)).bind fun v193=>(bL x121 v193).bind fun v195=>(bL (x127.getD v195 []) x133).bind fun v197=>(oO (x127.getD v195 []) x133 v164.mu).bind fun x199=>(yJ (a0.dofs.length:Int) 0).bind fun x204=>(bQ K a0 x204 x174).bind fun v206=>(cN K v206 x133 v2 a0 x121 (x127.set v195 x199)).bind fun v208=>(aT (x133+1)).bind fun v221=>recl146 v208.1 v208.2 v221) else((yJ (a0.dofs.length:Int) 0).bind fun x225=>(bQ K a0 x225 x174).bind fun v227=>(cN K v227 x133 v2 a0 x121 x127).bind fun v229=>(aT (x133+1)).bind fun v242=>recl146 v229.1 v229.2 v242)) else((yJ (a0.dofs.length:Int) 0).bind fun x246=>(bQ K a0 x246 x174).bind fun v248=>(cN K v248 x133 v2 a0 x121 x127).bind fun v250=>(aT (x133+1)).bind fun v263=>recl146 v250.1 v250.2 v263)
def bG (K:Nat) (a0:aF) (v2:List aC) (x91:List aI) (v105:Rat):Nat→(List Nat)→(List (List Rat))→Int→Option ((List Nat)×(List (List Rat)))
 |0,_,_,_=>none
 |k+1,x121,x127,x133=>bif(decide (x133<(v2.length:Int))) then((bL v2 x133).bind fun v152=>(pH x91).bind fun v156=>(bL a0.rows v152.row).bind fun v164=>bif(v152.kind==0) then((bL v156 v152.row).bind fun v168=>(oO v156 v152.row (⟨v105,v168.f⟩:aI)).bind fun x170=>bif(decide (0<(v164.t.length:Int))) then((kZ K a0 v164 v105).bind fun v268=>(bL x170 v152.row).bind fun v270=>(oO x170 v152.row (⟨v270.n,v268⟩:aI)).bind fun x272=>d6 K a0 v2 x121 x127 x133 v152 v164 (bG K a0 v2 x91 v105 k) x272) else(d6 K a0 v2 x121 x127 x133 v152 v164 (bG K a0 v2 x91 v105 k) x170)) else(bif(v152.kind==1) then((bL v156 v152.row).bind fun v276=>(oO v156 v152.row (⟨v276.n,v105⟩:aI)).bind fun x278=>(aT (x133+3)).bind fun v283=>(aT (v283-1)).bind fun v285=>(bL x121 v285).bind fun v287=>(aEz v105).bind fun v289=>(bL (x127.getD v287 []) x133).bind fun v291=>(oO (x127.getD v287 []) x133 v289).bind fun x293=>(yJ (a0.dofs.length:Int) 0).bind fun x298=>(bQ K a0 x298 x278).bind fun v300=>(cN K v300 x133 v2 a0 x121 (x127.set v287 x293)).bind fun v302=>(aT (x133+1)).bind fun v315=>bG K a0 v2 x91 v105 k v302.1 v302.2 v315) else(bif(v152.kind==2) then((aEz v105).bind fun v320=>(bL v156 v152.row).bind fun v322=>(oO v156 v152.row (⟨v322.n,v320⟩:aI)).bind fun x324=>(aT (x133+3)).bind fun v329=>(aT (v329-2)).bind fun v331=>(bL x121 v331).bind fun v333=>(aEz v105).bind fun v335=>(bL (x127.getD v333 []) x133).bind fun v337=>(oO (x127.getD v333 []) x133 v335).bind fun x339=>(yJ (a0.dofs.length:Int) 0).bind fun x344=>(bQ K a0 x344 x324).bind fun v346=>(cN K v346 x133 v2 a0 x121 (x127.set v333 x339)).bind fun v348=>(aT (x133+1)).bind fun v361=>bG K a0 v2 x91 v105 k v348.1 v348.2 v361) else(bif(v152.kind==3) then((aT (x133+1)).bind fun v366=>(aT (v366-3)).bind fun v368=>(bL x121 v368).bind fun v370=>(aT (x133+2)).bind fun v372=>(aT (v372-3)).bind fun v374=>(bL x121 v374).bind fun v376=>(bL (x127.getD v370 []) x133).bind fun v378=>(oO (x127.getD v370 []) x133 v105).bind fun x380=>(bL ((x127.set v370 x380).getD v376 []) x133).bind fun v383=>(oO ((x127.set v370 x380).getD v376 []) x133 v105).bind fun x386=>(aT (x133+1)).bind fun v389=>bG K a0 v2 x91 v105 k x121 ((x127.set v370 x380).set v376 x386) v389) else((yJ (a0.dofs.length:Int) 0).bind fun x393=>(bQ K a0 x393 v156).bind fun v395=>(cN K v395 x133 v2 a0 x121 x127).bind fun v397=>(aT (x133+1)).bind fun v410=>bG K a0 v2 x91 v105 k v397.1 v397.2 v410))))) else(some (x121,x127))
def mZ (K:Nat) (a0:aF) (v2:List aC) (x13:List Rat) (x77:List Nat) (x83:List (List Rat)):Option ((List (List Rat))×(List Rat)):=
 (yJ (a0.rows.length:Int) (⟨0,0⟩:aI)).bind fun x91=>(bQ K a0 a0.load x91).bind fun v96=>(l8 K v96 v2 a0 x13).bind fun v98=>(qof 1 1).bind fun v105=>(bG K a0 v2 x91 v105 K x77 x83 0).bind fun(x134,x140)=>mL K v98 x134 x140
def fO (K:Nat) (v2:List aC) (x10:List Nat):Nat→(List Nat)→(List (List Rat))→Int→Option ((List Nat)×(List (List Rat)))
 |0,_,_,_=>none
 |k+1,x64,x70,x76=>bif(decide (x76<(x10.length:Int))) then((yJ (v2.length:Int) 0).bind fun x415=>(bL x64 x76).bind fun v419=>(oO x64 x76 x70.length).bind fun x423=>(aT (x76+1)).bind fun v427=>fO K v2 x10 k x423 (x70++[x415]) v427) else(some (x64,x70))
def nC (K:Nat) (a0:aF):Option ((List (List Rat))×(List Rat)):=
 (kE K a0).bind fun v2=>(yJ (v2.length:Int) (0:Nat)).bind fun x10=>(yJ (v2.length:Int) 0).bind fun x13=>(fO K v2 x10 K x10 [([]:List Rat)] 0).bind fun(x77,x83)=>mZ K a0 v2 x13 x77 x83
theorem aBL {K:Nat} {a0:aF} {r:(List (List Rat))×(List Rat)} (hF:nC K a0=some r):Ct Tryz.prog 40 [.va (aF.enc a0)] (.t2 (.vc (pS (kK cQ) r.1)) (.vc (pS cQ r.2))):=by
 unfold nC at hF
 refine aG Tryz.func40 rfl (by kernel_rfl) Tryz.ntmps40 rfl (fun w0 M0=>?_)
 refine aK (aR (cC rfl rfl trivial (fun b1=>?_)))
 refine aQ (bB (.inr rfl)) ⟨dA (kK cQ),trivial⟩ ?_
 refine aQ (bB (.inr rfl)) ⟨dA cQ,trivial⟩ ?_
 obtain⟨v2,h3,hF⟩:=bF hF xC
 refine go ?_ ?_
 refine aO rfl tyZ87q (fun b4=>?_)
 refine go ?_ ?_
 refine aQ (aGy (xs:=[.tmp 4,.tmp 1]) (cs:=[pP (some b4) 0,pP (some b1) 0]) rfl rfl) zU2 ?_
 refine aDY ?_
 refine bT (aU (aK (aQi cQ 32 ?_)))
 obtain⟨x10,h11,hF⟩:=aZ hF
 obtain⟨x13,h14,hF⟩:=aZ hF
 refine sF (HsM [(0,fun G7=>([⟨some b4,1,87,1,1,[pS aC.cod v2]⟩,⟨some b1,1,86,4,1,(aF.enc a0)⟩]++f8 cQ 32 [(none,0,0)] [([]:List Rat)])),(1,fun G7=>([hO (cH [(none,0,0)]) ((G7 2).1) x10.length 24 x10.length x10,⟨some b4,1,87,1,1,[pS aC.cod v2]⟩,⟨some b1,1,86,4,1,(aF.enc a0)⟩]++f8 cQ 32 [(none,0,0)] [([]:List Rat)])),(2,fun G7=>([hO cQ ((G7 5).1) x13.length 32 x13.length x13,⟨some b4,1,87,1,1,[pS aC.cod v2]⟩,⟨some b1,1,86,4,1,(aF.enc a0)⟩]++f8 cQ 32 [(none,0,0)] [([]:List Rat)])),(3,fun G7=>([hO cQ ((G7 5).1) x13.length 32 x13.length x13,hO (cH [(none,0,0)]) ((G7 2).1) x10.length 24 x10.length x10,⟨some b4,1,87,1,1,[pS aC.cod v2]⟩,⟨some b1,1,86,4,1,(aF.enc a0)⟩]++f8 cQ 32 [(none,0,0)] [([]:List Rat)])),(4,fun G7=>([⟨some ((G7 6).1.getD 0),1,74,1,1,[pS (kK cQ) ([]:List (List Rat))]⟩,⟨some b4,1,87,1,1,[pS aC.cod v2]⟩,⟨some b1,1,86,4,1,(aF.enc a0)⟩]++f8 cQ 32 [(none,0,0)] [([]:List Rat)])),(5,fun G7=>([⟨some ((G7 6).1.getD 0),1,74,1,1,[pS (kK cQ) ([]:List (List Rat))]⟩,hO (cH [(none,0,0)]) ((G7 2).1) x10.length 24 x10.length x10,⟨some b4,1,87,1,1,[pS aC.cod v2]⟩,⟨some b1,1,86,4,1,(aF.enc a0)⟩]++f8 cQ 32 [(none,0,0)] [([]:List Rat)])),(6,fun G7=>([⟨some ((G7 6).1.getD 0),1,74,1,1,[pS (kK cQ) ([]:List (List Rat))]⟩,hO cQ ((G7 5).1) x13.length 32 x13.length x13,⟨some b4,1,87,1,1,[pS aC.cod v2]⟩,⟨some b1,1,86,4,1,(aF.enc a0)⟩]++f8 cQ 32 [(none,0,0)] [([]:List Rat)])),(7,fun G7=>([⟨some ((G7 6).1.getD 0),1,74,1,1,[pS (kK cQ) ([]:List (List Rat))]⟩,hO cQ ((G7 5).1) x13.length 32 x13.length x13,hO (cH [(none,0,0)]) ((G7 2).1) x10.length 24 x10.length x10,⟨some b4,1,87,1,1,[pS aC.cod v2]⟩,⟨some b1,1,86,4,1,(aF.enc a0)⟩]++f8 cQ 32 [(none,0,0)] [([]:List Rat)])),(8,fun G7=>([⟨some ((G7 7).1.getD 0),1,24,1,1,[pS cQ ([]:List Rat)]⟩,⟨some b4,1,87,1,1,[pS aC.cod v2]⟩,⟨some b1,1,86,4,1,(aF.enc a0)⟩]++f8 cQ 32 [(none,0,0)] [([]:List Rat)])),(9,fun G7=>([⟨some ((G7 7).1.getD 0),1,24,1,1,[pS cQ ([]:List Rat)]⟩,hO (cH [(none,0,0)]) ((G7 2).1) x10.length 24 x10.length x10,⟨some b4,1,87,1,1,[pS aC.cod v2]⟩,⟨some b1,1,86,4,1,(aF.enc a0)⟩]++f8 cQ 32 [(none,0,0)] [([]:List Rat)])),(10,fun G7=>([⟨some ((G7 7).1.getD 0),1,24,1,1,[pS cQ ([]:List Rat)]⟩,hO cQ ((G7 5).1) x13.length 32 x13.length x13,⟨some b4,1,87,1,1,[pS aC.cod v2]⟩,⟨some b1,1,86,4,1,(aF.enc a0)⟩]++f8 cQ 32 [(none,0,0)] [([]:List Rat)])),(11,fun G7=>([⟨some ((G7 7).1.getD 0),1,24,1,1,[pS cQ ([]:List Rat)]⟩,hO cQ ((G7 5).1) x13.length 32 x13.length x13,hO (cH [(none,0,0)]) ((G7 2).1) x10.length 24 x10.length x10,⟨some b4,1,87,1,1,[pS aC.cod v2]⟩,⟨some b1,1,86,4,1,(aF.enc a0)⟩]++f8 cQ 32 [(none,0,0)] [([]:List Rat)])),(12,fun G7=>([⟨some ((G7 7).1.getD 0),1,24,1,1,[pS cQ ([]:List Rat)]⟩,⟨some ((G7 6).1.getD 0),1,74,1,1,[pS (kK cQ) ([]:List (List Rat))]⟩,⟨some b4,1,87,1,1,[pS aC.cod v2]⟩,⟨some b1,1,86,4,1,(aF.enc a0)⟩]++f8 cQ 32 [(none,0,0)] [([]:List Rat)])),(13,fun G7=>([⟨some ((G7 7).1.getD 0),1,24,1,1,[pS cQ ([]:List Rat)]⟩,⟨some ((G7 6).1.getD 0),1,74,1,1,[pS (kK cQ) ([]:List (List Rat))]⟩,hO (cH [(none,0,0)]) ((G7 2).1) x10.length 24 x10.length x10,⟨some b4,1,87,1,1,[pS aC.cod v2]⟩,⟨some b1,1,86,4,1,(aF.enc a0)⟩]++f8 cQ 32 [(none,0,0)] [([]:List Rat)])),(14,fun G7=>([⟨some ((G7 7).1.getD 0),1,24,1,1,[pS cQ ([]:List Rat)]⟩,⟨some ((G7 6).1.getD 0),1,74,1,1,[pS (kK cQ) ([]:List (List Rat))]⟩,hO cQ ((G7 5).1) x13.length 32 x13.length x13,⟨some b4,1,87,1,1,[pS aC.cod v2]⟩,⟨some b1,1,86,4,1,(aF.enc a0)⟩]++f8 cQ 32 [(none,0,0)] [([]:List Rat)])),(15,fun G7=>([⟨some ((G7 7).1.getD 0),1,24,1,1,[pS cQ ([]:List Rat)]⟩,⟨some ((G7 6).1.getD 0),1,74,1,1,[pS (kK cQ) ([]:List (List Rat))]⟩,hO cQ ((G7 5).1) x13.length 32 x13.length x13,hO (cH [(none,0,0)]) ((G7 2).1) x10.length 24 x10.length x10,⟨some b4,1,87,1,1,[pS aC.cod v2]⟩,⟨some b1,1,86,4,1,(aF.enc a0)⟩]++f8 cQ 32 [(none,0,0)] [([]:List Rat)])),(29,fun G7=>([⟨some ((G7 7).1.getD 0),1,24,1,1,[pS cQ ([]:List Rat)]⟩,⟨some ((G7 6).1.getD 0),1,74,1,1,[pO ((G7 2).1) x10.length x10.length]⟩,hO (cH [(none,0,0)]) ((G7 2).1) x10.length 24 x10.length x10,⟨some b4,1,87,1,1,[pS aC.cod v2]⟩,⟨some b1,1,86,4,1,(aF.enc a0)⟩]++f8 cQ 32 [(none,0,0)] [([]:List Rat)])),(31,fun G7=>([⟨some ((G7 7).1.getD 0),1,24,1,1,[pS cQ ([]:List Rat)]⟩,⟨some ((G7 6).1.getD 0),1,74,1,1,[pO ((G7 2).1) x10.length x10.length]⟩,hO cQ ((G7 5).1) x13.length 32 x13.length x13,hO (cH [(none,0,0)]) ((G7 2).1) x10.length 24 x10.length x10,⟨some b4,1,87,1,1,[pS aC.cod v2]⟩,⟨some b1,1,86,4,1,(aF.enc a0)⟩]++f8 cQ 32 [(none,0,0)] [([]:List Rat)]))]) [2,5,6,7,8] [0,1,3,0,8,24,0,0,199,511] 9 1 [.v (.vc (pS aC.cod v2)),.v (.vc (pI .i64 (v2.length:Int))),.g (fun b _=>.vc (pO b x10.length x10.length)),.v (.vc (pS aC.cod v2)),.v (.vc (pI .i64 (v2.length:Int))),.g (fun b _=>.vc (pO b x13.length x13.length)),.g (fun b _=>.vc (pP (some (b.getD 0)) 0)),.g (fun b _=>.vc (pP (some (b.getD 0)) 0)),.g (fun _ _=>.any)] bC ⟨⟨rfl,.run (L:=[0,2,4,6,8,10,12,14]) ⟨fun G7 A=>fX 0 1 rfl rfl rfl rfl (.one tyO87),fun G7 A=>fX 1 1 rfl rfl rfl rfl (.one tyO87),fun G7 A=>fX 1 1 rfl rfl rfl rfl (.one tyO87),fun G7 A=>fX 2 1 rfl rfl rfl rfl (.one tyO87),fun G7 A=>fX 1 1 rfl rfl rfl rfl (.one tyO87),fun G7 A=>fX 2 1 rfl rfl rfl rfl (.one tyO87),fun G7 A=>fX 2 1 rfl rfl rfl rfl (.one tyO87),fun G7 A=>fX 3 1 rfl rfl rfl rfl (.one tyO87),trivial⟩ (fun G7=>zU1)⟩,⟨rfl,.run (L:=[0,2,4,6,8,10,12,14]) ⟨fun G7 A=>uN rfl tyS87,fun G7 A=>uN rfl tyS87,fun G7 A=>uN rfl tyS87,fun G7 A=>uN rfl tyS87,fun G7 A=>uN rfl tyS87,fun G7 A=>uN rfl tyS87,fun G7 A=>uN rfl tyS87,fun G7 A=>uN rfl tyS87,trivial⟩ (fun G7=>zU1)⟩,⟨rfl,.hvy [0,2,4,6,8,10,12,14] ⟨fun G7 A=>jB (C:=cH [(none,0,0)]) (z:=0) rfl tyS74 rfl tyZ24_oq h11,fun G7 A=>tE (R:=f8 cQ 32 [(none,0,0)] [([]:List Rat)]) [1,0,2,3] (jB (C:=cH [(none,0,0)]) (z:=0) rfl tyS74 rfl tyZ24_oq h11) (fun b_ c_=>⟨[hO (cH [(none,0,0)]) (b_) x10.length 24 x10.length x10,hO cQ ((G7 5).1) x13.length 32 x13.length x13,⟨some b4,1,87,1,1,[pS aC.cod v2]⟩,⟨some b1,1,86,4,1,(aF.enc a0)⟩],_,rfl,rfl,rfl⟩),fun G7 A=>tE (R:=f8 cQ 32 [(none,0,0)] [([]:List Rat)]) [1,0,2,3] (jB (C:=cH [(none,0,0)]) (z:=0) rfl tyS74 rfl tyZ24_oq h11) (fun b_ c_=>⟨[hO (cH [(none,0,0)]) (b_) x10.length 24 x10.length x10,⟨some ((G7 6).1.getD 0),1,74,1,1,[pS (kK cQ) ([]:List (List Rat))]⟩,⟨some b4,1,87,1,1,[pS aC.cod v2]⟩,⟨some b1,1,86,4,1,(aF.enc a0)⟩],_,rfl,rfl,rfl⟩),fun G7 A=>tE (R:=f8 cQ 32 [(none,0,0)] [([]:List Rat)]) [1,2,0,3,4] (jB (C:=cH [(none,0,0)]) (z:=0) rfl tyS74 rfl tyZ24_oq h11) (fun b_ c_=>⟨[hO (cH [(none,0,0)]) (b_) x10.length 24 x10.length x10,⟨some ((G7 6).1.getD 0),1,74,1,1,[pS (kK cQ) ([]:List (List Rat))]⟩,hO cQ ((G7 5).1) x13.length 32 x13.length x13,⟨some b4,1,87,1,1,[pS aC.cod v2]⟩,⟨some b1,1,86,4,1,(aF.enc a0)⟩],_,rfl,rfl,rfl⟩),fun G7 A=>tE (R:=f8 cQ 32 [(none,0,0)] [([]:List Rat)]) [1,0,2,3] (jB (C:=cH [(none,0,0)]) (z:=0) rfl tyS74 rfl tyZ24_oq h11) (fun b_ c_=>⟨[hO (cH [(none,0,0)]) (b_) x10.length 24 x10.length x10,⟨some ((G7 7).1.getD 0),1,24,1,1,[pS cQ ([]:List Rat)]⟩,⟨some b4,1,87,1,1,[pS aC.cod v2]⟩,⟨some b1,1,86,4,1,(aF.enc a0)⟩],_,rfl,rfl,rfl⟩),fun G7 A=>tE (R:=f8 cQ 32 [(none,0,0)] [([]:List Rat)]) [1,2,0,3,4] (jB (C:=cH [(none,0,0)]) (z:=0) rfl tyS74 rfl tyZ24_oq h11) (fun b_ c_=>⟨[hO (cH [(none,0,0)]) (b_) x10.length 24 x10.length x10,⟨some ((G7 7).1.getD 0),1,24,1,1,[pS cQ ([]:List Rat)]⟩,hO cQ ((G7 5).1) x13.length 32 x13.length x13,⟨some b4,1,87,1,1,[pS aC.cod v2]⟩,⟨some b1,1,86,4,1,(aF.enc a0)⟩],_,rfl,rfl,rfl⟩),fun G7 A=>tE (R:=f8 cQ 32 [(none,0,0)] [([]:List Rat)]) [1,2,0,3,4] (jB (C:=cH [(none,0,0)]) (z:=0) rfl tyS74 rfl tyZ24_oq h11) (fun b_ c_=>⟨[hO (cH [(none,0,0)]) (b_) x10.length 24 x10.length x10,⟨some ((G7 7).1.getD 0),1,24,1,1,[pS cQ ([]:List Rat)]⟩,⟨some ((G7 6).1.getD 0),1,74,1,1,[pS (kK cQ) ([]:List (List Rat))]⟩,⟨some b4,1,87,1,1,[pS aC.cod v2]⟩,⟨some b1,1,86,4,1,(aF.enc a0)⟩],_,rfl,rfl,rfl⟩),fun G7 A=>tE (R:=f8 cQ 32 [(none,0,0)] [([]:List Rat)]) [1,2,3,0,4,5] (jB (C:=cH [(none,0,0)]) (z:=0) rfl tyS74 rfl tyZ24_oq h11) (fun b_ c_=>⟨[hO (cH [(none,0,0)]) (b_) x10.length 24 x10.length x10,⟨some ((G7 7).1.getD 0),1,24,1,1,[pS cQ ([]:List Rat)]⟩,⟨some ((G7 6).1.getD 0),1,74,1,1,[pS (kK cQ) ([]:List (List Rat))]⟩,hO cQ ((G7 5).1) x13.length 32 x13.length x13,⟨some b4,1,87,1,1,[pS aC.cod v2]⟩,⟨some b1,1,86,4,1,(aF.enc a0)⟩],_,rfl,rfl,rfl⟩),trivial⟩ (fun G7=>zU1)⟩,⟨rfl,.run (L:=[0,1,4,5,8,9,12,13,29]) ⟨fun G7 A=>fX 0 1 rfl rfl rfl rfl (.one tyO87),fun G7 A=>fX 1 1 rfl rfl rfl rfl (.one tyO87),fun G7 A=>fX 1 1 rfl rfl rfl rfl (.one tyO87),fun G7 A=>fX 2 1 rfl rfl rfl rfl (.one tyO87),fun G7 A=>fX 1 1 rfl rfl rfl rfl (.one tyO87),fun G7 A=>fX 2 1 rfl rfl rfl rfl (.one tyO87),fun G7 A=>fX 2 1 rfl rfl rfl rfl (.one tyO87),fun G7 A=>fX 3 1 rfl rfl rfl rfl (.one tyO87),fun G7 A=>fX 3 1 rfl rfl rfl rfl (.one tyO87),trivial⟩ (fun G7=>zU1)⟩,⟨rfl,.run (L:=[0,1,4,5,8,9,12,13,29]) ⟨fun G7 A=>uN rfl tyS87,fun G7 A=>uN rfl tyS87,fun G7 A=>uN rfl tyS87,fun G7 A=>uN rfl tyS87,fun G7 A=>uN rfl tyS87,fun G7 A=>uN rfl tyS87,fun G7 A=>uN rfl tyS87,fun G7 A=>uN rfl tyS87,fun G7 A=>uN rfl tyS87,trivial⟩ (fun G7=>zU1)⟩,⟨rfl,.hvy [0,1,4,5,8,9,12,13,29] ⟨fun G7 A=>jB (C:=cQ) rfl tyS24 rfl tyZ32q h14,fun G7 A=>jB (C:=cQ) rfl tyS24 rfl tyZ32q h14,fun G7 A=>tE (R:=f8 cQ 32 [(none,0,0)] [([]:List Rat)]) [1,0,2,3] (jB (C:=cQ) rfl tyS24 rfl tyZ32q h14) (fun b_ c_=>⟨[hO cQ (b_) x13.length 32 x13.length x13,⟨some ((G7 6).1.getD 0),1,74,1,1,[pS (kK cQ) ([]:List (List Rat))]⟩,⟨some b4,1,87,1,1,[pS aC.cod v2]⟩,⟨some b1,1,86,4,1,(aF.enc a0)⟩],_,rfl,rfl,rfl⟩),fun G7 A=>tE (R:=f8 cQ 32 [(none,0,0)] [([]:List Rat)]) [1,0,2,3,4] (jB (C:=cQ) rfl tyS24 rfl tyZ32q h14) (fun b_ c_=>⟨[hO cQ (b_) x13.length 32 x13.length x13,⟨some ((G7 6).1.getD 0),1,74,1,1,[pS (kK cQ) ([]:List (List Rat))]⟩,hO (cH [(none,0,0)]) ((G7 2).1) x10.length 24 x10.length x10,⟨some b4,1,87,1,1,[pS aC.cod v2]⟩,⟨some b1,1,86,4,1,(aF.enc a0)⟩],_,rfl,rfl,rfl⟩),fun G7 A=>tE (R:=f8 cQ 32 [(none,0,0)] [([]:List Rat)]) [1,0,2,3] (jB (C:=cQ) rfl tyS24 rfl tyZ32q h14) (fun b_ c_=>⟨[hO cQ (b_) x13.length 32 x13.length x13,⟨some ((G7 7).1.getD 0),1,24,1,1,[pS cQ ([]:List Rat)]⟩,⟨some b4,1,87,1,1,[pS aC.cod v2]⟩,⟨some b1,1,86,4,1,(aF.enc a0)⟩],_,rfl,rfl,rfl⟩),fun G7 A=>tE (R:=f8 cQ 32 [(none,0,0)] [([]:List Rat)]) [1,0,2,3,4] (jB (C:=cQ) rfl tyS24 rfl tyZ32q h14) (fun b_ c_=>⟨[hO cQ (b_) x13.length 32 x13.length x13,⟨some ((G7 7).1.getD 0),1,24,1,1,[pS cQ ([]:List Rat)]⟩,hO (cH [(none,0,0)]) ((G7 2).1) x10.length 24 x10.length x10,⟨some b4,1,87,1,1,[pS aC.cod v2]⟩,⟨some b1,1,86,4,1,(aF.enc a0)⟩],_,rfl,rfl,rfl⟩),fun G7 A=>tE (R:=f8 cQ 32 [(none,0,0)] [([]:List Rat)]) [1,2,0,3,4] (jB (C:=cQ) rfl tyS24 rfl tyZ32q h14) (fun b_ c_=>⟨[hO cQ (b_) x13.length 32 x13.length x13,⟨some ((G7 7).1.getD 0),1,24,1,1,[pS cQ ([]:List Rat)]⟩,⟨some ((G7 6).1.getD 0),1,74,1,1,[pS (kK cQ) ([]:List (List Rat))]⟩,⟨some b4,1,87,1,1,[pS aC.cod v2]⟩,⟨some b1,1,86,4,1,(aF.enc a0)⟩],_,rfl,rfl,rfl⟩),fun G7 A=>tE (R:=f8 cQ 32 [(none,0,0)] [([]:List Rat)]) [1,2,0,3,4,5] (jB (C:=cQ) rfl tyS24 rfl tyZ32q h14) (fun b_ c_=>⟨[hO cQ (b_) x13.length 32 x13.length x13,⟨some ((G7 7).1.getD 0),1,24,1,1,[pS cQ ([]:List Rat)]⟩,⟨some ((G7 6).1.getD 0),1,74,1,1,[pS (kK cQ) ([]:List (List Rat))]⟩,hO (cH [(none,0,0)]) ((G7 2).1) x10.length 24 x10.length x10,⟨some b4,1,87,1,1,[pS aC.cod v2]⟩,⟨some b1,1,86,4,1,(aF.enc a0)⟩],_,rfl,rfl,rfl⟩),fun G7 A=>tE (R:=f8 cQ 32 [(none,0,0)] [([]:List Rat)]) [1,2,0,3,4,5] (jB (C:=cQ) rfl tyS24 rfl tyZ32q h14) (fun b_ c_=>⟨[hO cQ (b_) x13.length 32 x13.length x13,⟨some ((G7 7).1.getD 0),1,24,1,1,[pS cQ ([]:List Rat)]⟩,⟨some ((G7 6).1.getD 0),1,74,1,1,[pO ((G7 2).1) x10.length x10.length]⟩,hO (cH [(none,0,0)]) ((G7 2).1) x10.length 24 x10.length x10,⟨some b4,1,87,1,1,[pS aC.cod v2]⟩,⟨some b1,1,86,4,1,(aF.enc a0)⟩],_,rfl,rfl,rfl⟩),trivial⟩ (fun G7=>zU1)⟩,⟨rfl,.hvy (ins:=fun _=>[]) [0,1,2,3,8,9,10,11] ⟨fun G7 A=>pJ (T:=74) (zs:=[pS (kK cQ) ([]:List (List Rat))]) rfl tyZ74q,fun G7 A=>pJ (T:=74) (zs:=[pS (kK cQ) ([]:List (List Rat))]) rfl tyZ74q,fun G7 A=>pJ (T:=74) (zs:=[pS (kK cQ) ([]:List (List Rat))]) rfl tyZ74q,fun G7 A=>pJ (T:=74) (zs:=[pS (kK cQ) ([]:List (List Rat))]) rfl tyZ74q,fun G7 A=>tE (R:=f8 cQ 32 [(none,0,0)] [([]:List Rat)]) [1,0,2,3] (pJ (T:=74) (zs:=[pS (kK cQ) ([]:List (List Rat))]) rfl tyZ74q) (fun b_ c_=>⟨[⟨some (b_.getD 0),1,74,1,1,[pS (kK cQ) ([]:List (List Rat))]⟩,⟨some ((G7 7).1.getD 0),1,24,1,1,[pS cQ ([]:List Rat)]⟩,⟨some b4,1,87,1,1,[pS aC.cod v2]⟩,⟨some b1,1,86,4,1,(aF.enc a0)⟩],_,rfl,rfl,rfl⟩),fun G7 A=>tE (R:=f8 cQ 32 [(none,0,0)] [([]:List Rat)]) [1,0,2,3,4] (pJ (T:=74) (zs:=[pS (kK cQ) ([]:List (List Rat))]) rfl tyZ74q) (fun b_ c_=>⟨[⟨some (b_.getD 0),1,74,1,1,[pS (kK cQ) ([]:List (List Rat))]⟩,⟨some ((G7 7).1.getD 0),1,24,1,1,[pS cQ ([]:List Rat)]⟩,hO (cH [(none,0,0)]) ((G7 2).1) x10.length 24 x10.length x10,⟨some b4,1,87,1,1,[pS aC.cod v2]⟩,⟨some b1,1,86,4,1,(aF.enc a0)⟩],_,rfl,rfl,rfl⟩),fun G7 A=>tE (R:=f8 cQ 32 [(none,0,0)] [([]:List Rat)]) [1,0,2,3,4] (pJ (T:=74) (zs:=[pS (kK cQ) ([]:List (List Rat))]) rfl tyZ74q) (fun b_ c_=>⟨[⟨some (b_.getD 0),1,74,1,1,[pS (kK cQ) ([]:List (List Rat))]⟩,⟨some ((G7 7).1.getD 0),1,24,1,1,[pS cQ ([]:List Rat)]⟩,hO cQ ((G7 5).1) x13.length 32 x13.length x13,⟨some b4,1,87,1,1,[pS aC.cod v2]⟩,⟨some b1,1,86,4,1,(aF.enc a0)⟩],_,rfl,rfl,rfl⟩),fun G7 A=>tE (R:=f8 cQ 32 [(none,0,0)] [([]:List Rat)]) [1,0,2,3,4,5] (pJ (T:=74) (zs:=[pS (kK cQ) ([]:List (List Rat))]) rfl tyZ74q) (fun b_ c_=>⟨[⟨some (b_.getD 0),1,74,1,1,[pS (kK cQ) ([]:List (List Rat))]⟩,⟨some ((G7 7).1.getD 0),1,24,1,1,[pS cQ ([]:List Rat)]⟩,hO cQ ((G7 5).1) x13.length 32 x13.length x13,hO (cH [(none,0,0)]) ((G7 2).1) x10.length 24 x10.length x10,⟨some b4,1,87,1,1,[pS aC.cod v2]⟩,⟨some b1,1,86,4,1,(aF.enc a0)⟩],_,rfl,rfl,rfl⟩),trivial⟩ (fun G7=>trivial)⟩,⟨rfl,.hvy (ins:=fun _=>[]) [0,1,2,3,4,5,6,7] ⟨fun G7 A=>pJ (T:=24) (zs:=[pS cQ ([]:List Rat)]) rfl tyZ24q,fun G7 A=>pJ (T:=24) (zs:=[pS cQ ([]:List Rat)]) rfl tyZ24q,fun G7 A=>pJ (T:=24) (zs:=[pS cQ ([]:List Rat)]) rfl tyZ24q,fun G7 A=>pJ (T:=24) (zs:=[pS cQ ([]:List Rat)]) rfl tyZ24q,fun G7 A=>pJ (T:=24) (zs:=[pS cQ ([]:List Rat)]) rfl tyZ24q,fun G7 A=>pJ (T:=24) (zs:=[pS cQ ([]:List Rat)]) rfl tyZ24q,fun G7 A=>pJ (T:=24) (zs:=[pS cQ ([]:List Rat)]) rfl tyZ24q,fun G7 A=>pJ (T:=24) (zs:=[pS cQ ([]:List Rat)]) rfl tyZ24q,trivial⟩ (fun G7=>trivial)⟩,⟨rfl,.hvy [13,15] ⟨fun G7 A=>aUF (t_s 1 rfl rfl rfl tyO74.s),fun G7 A=>aUF (t_s 1 rfl rfl rfl tyO74.s),trivial⟩ (fun G7=>zU2)⟩,trivial⟩ (fun bs8 G7=>?_)
 refine go ?_ ?_
 refine aS (bV (fun H E=>∃(x77:List Nat),∃(x83:List (List Rat)),∃(b78:Option Nat),∃(c79:Nat),∃(n80:Nat),∃(g84:List u7),∃(N85:Nat),mZ K a0 v2 x13 x77 x83=some r∧x77.length=n80∧x83.length=N85∧iE g84 x83∧(∀k∈x77,k<N85)∧H=([⟨some ((G7 7).1.getD 0),1,24,1,1,[pO ((G7 5).1) x13.length x13.length]⟩,⟨some ((G7 6).1.getD 0),1,74,1,1,[pO b78 n80 c79]⟩,hO cQ ((G7 5).1) x13.length 32 x13.length x13,hO (cH g84) b78 c79 24 n80 x77,⟨some b4,1,87,1,1,[pS aC.cod v2]⟩,⟨some b1,1,86,4,1,(aF.enc a0)⟩]++f8 cQ 32 g84 x83)∧E=[(1,.vc (pP (some b1) 0)),(4,.vc (pP (some b4) 0)),(5,.vc (pF 99 [pP (some b4) 0,pP (some b1) 0])),(6,.vc (pP (some ((G7 6).1.getD 0)) 0)),(7,.vc (pP (some ((G7 7).1.getD 0)) 0))]) ?_ (fun Jj90=>?_))
 ·rintro _ _ ⟨x77,x83,b78,c79,n80,g84,N85,hF,q81,q86,q87,q88,rfl,rfl⟩
  unfold mZ at hF
  obtain⟨x91,h92,hF⟩:=aZ hF
  refine go ?_ ?_
  refine uV (C:=aI.cod) (z:=(⟨0,0⟩:aI)) rfl tyS50 rfl tyZ70q rfl h92 (fun b93=>?_)
  refine aDY ?_
  refine bT (aU (aK (aR (lH ?_))))
  refine aQ (fX 6 4 rfl rfl rfl rfl (.agg tyA86)) zU1 ?_
  refine aQ (iU (off:=0) (k:=1) rfl tyF86_1) zU1 ?_
  refine aQ (fX 6 1 rfl rfl rfl rfl (.one tyO24)) zU1 ?_
  refine lH ?_
  refine zQ 0 [9,39,44] rfl rfl ⟨rfl,rfl,rfl,trivial⟩ rfl ?_
  obtain⟨v96,h97,hF⟩:=bF hF dP
  refine aQ (cS rfl h97 rfl) ⟨rfl,rfl,rfl,trivial⟩ ?_
  refine aQ (aGy (xs:=[.tmp 7]) (cs:=[pP (some ((G7 7).1.getD 0)) 0]) rfl rfl) zU1 ?_
  obtain⟨v98,h99,hF⟩:=aZ hF
  refine aNT (f:=99) (cs:=[pP (some b4) 0,pP (some b1) 0]) (pre:=[.vc (pS cQ v96),.vc (pF 100 [pP (some ((G7 7).1.getD 0)) 0])]) (xs:=[.tmp 45,.tmp 46]) 6 [0,4,5,2] [1,3] rfl (zV h99 rfl) ⟨rfl,rfl,rfl,trivial⟩ rfl rfl rfl (by decide) ?_
  rintro _ _ ⟨b100,c101,n102,q103,rfl,rfl⟩
  obtain⟨v105,h106,hF⟩:=bF hF xE
  refine go ?_ ?_
  refine aO rfl tyZ32q (fun b107=>?_)
  refine go ?_ ?_
  refine aS (bV (fun H E=>∃(x134:List Nat),∃(x140:List (List Rat)),∃(b135:Option Nat),∃(c136:Nat),∃(n137:Nat),∃(g141:List u7),∃(N142:Nat),mL K v98 x134 x140=some r∧x134.length=n137∧x140.length=N142∧iE g141 x140∧(∀k∈x134,k<N142)∧H=([⟨some ((G7 7).1.getD 0),1,24,1,1,[pO b100 n102 c101]⟩,hO cQ b100 c101 32 n102 v98,⟨some ((G7 6).1.getD 0),1,74,1,1,[pO b135 n137 c136]⟩,hO (cH g141) b135 c136 24 n137 x134]++f8 cQ 32 g141 x140)∧E=[(6,.vc (pP (some ((G7 6).1.getD 0)) 0)),(7,.vc (pP (some ((G7 7).1.getD 0)) 0))]) ?_ (fun Jj147=>?_))
  ·rintro _ _ ⟨x134,x140,b135,c136,n137,g141,N142,hF,q138,q143,q144,q145,rfl,rfl⟩
   unfold mL at hF
   refine aU (aK (dr [0,0,1,7] 4 0 ?_ (fun bs149 G148=>?_)))
   refine bT (aU (sT (sS (aUc 3 4 rfl rfl q144 (aDO q143 q145) ?_))))
   refine aAd 3 [2,180] rfl ((aCF _ _).trans q138) zU2 rfl ?_
   refine aAd 1 [3,181] rfl q103 zU2 rfl ?_
   obtain rfl:=pZ hF
   exact rY (.inl rfl) Tryz.results40 (.tmp rfl (.tmp rfl .nil)) rfl rfl
  obtain⟨⟨x134',x140'⟩,hL,hRl146⟩:=aZ hF
  refine gB (fun k a w=>∃(x121:List Nat),∃(x127:List (List Rat)),∃(x133:Int),∃(b122:Option Nat),∃(c123:Nat),∃(n124:Nat),∃(g128:List u7),∃(N129:Nat),bG K a0 v2 x91 v105 k x121 x127 x133=some (x134',x140')∧x121.length=n124∧x127.length=N129∧iE g128 x127∧(∀k∈x121,k<N129)∧hs _ ([⟨some b107,1,32,4,1,(eQ v105)⟩,⟨some ((G7 7).1.getD 0),1,24,1,1,[pO b100 n102 c101]⟩,⟨some b4,1,87,1,1,[pS aC.cod v2]⟩,⟨some b1,1,86,4,1,(aF.enc a0)⟩,hO cQ b100 c101 32 n102 v98,⟨some ((G7 6).1.getD 0),1,74,1,1,[pO b122 n124 c123]⟩,hO (cH g128) b122 c123 24 n124 x121]++f8 cQ 32 g128 x127) [(1,.vc (pP (some b1) 0)),(4,.vc (pP (some b4) 0)),(5,.vc (pF 99 [pP (some b4) 0,pP (some b1) 0])),(6,.vc (pP (some ((G7 6).1.getD 0)) 0)),(7,.vc (pP (some ((G7 7).1.getD 0)) 0)),(9,.vc (pS aI.cod x91)),(10,.vc (pP (some b107) 0)),(49,.vc (pS aC.cod v2)),(50,.vc (pI .i64 (v2.length:Int))),(51,.vc (pI .i64 x133))] a w) K (fun a w ⟨_,_,_,_,_,_,_,_,hF,_,_,_,_,_⟩=>by cases hF) (fun k a w ⟨x121,x127,x133,b122,c123,n124,g128,N129,hF,q125,q130,q131,q132,hh⟩=>gC ?_ hh) (fun a w hh=>⟨x77,x83,0,b78,c79,n80,g84,N85,hL,q81,q86,q87,q88,bR 7 [0,1,2,3,4,5,6] rfl rfl (by decide) (by exact⟨rfl,rfl,rfl,rfl,rfl,rfl,rfl,rfl,rfl,rfl,trivial⟩) hh⟩)
  rw [bG.eq_2] at hF
  refine go ?_ ?_
  refine aJ hF rfl (fun h151 hF=>?_) (fun h151 hF=>?_)
  ·refine go ?_ ?_
   refine aS ?_
   obtain⟨v152,h153,hF⟩:=aZ hF
   refine go ?_ ?_
   refine aO rfl tyZ3q (fun b154=>?_)
   refine aO rfl tyZ91q (fun b155=>?_)
   obtain⟨v156,h157,hF⟩:=aZ hF
   refine go ?_ ?_
   refine aQ6 rfl (aCh h157) zU1 ?_
   rintro _ _ ⟨b159,c160,n161,q162,rfl,rfl⟩
   obtain⟨v164,h165,hF⟩:=aZ hF
   refine go ?_ ?_
   refine aO rfl tyZ49q (fun b166=>?_)
   refine go ?_ ?_
   refine aS (go ?_ ?_)
   refine aJ hF rfl (fun h167 hF=>?_) (fun h167 hF=>?_)
   ·refine aK (aR (lH ?_))
    refine aQ (iU (off:=0) (k:=0) rfl tyF91_0) zU1 ?_
    refine aQ (fX 2 1 rfl rfl rfl rfl (.one tyO3)) zU1 ?_
    refine aQ (fX 4 4 rfl rfl rfl rfl (.agg tyA32)) zU1 ?_
    obtain⟨v168,h169,hF⟩:=aZ hF
    refine aQ (gN (C:=aI.cod) 1 rfl tyS50 rfl q162 (aN h169).1 (aN h169).2.1) zU2 ?_
    refine aQ (aPY (off:=0) (k:=0) rfl tyF70_0) zU1 ?_
    obtain⟨x170,h171,hF⟩:=aZ hF
    refine mR (xV 1 rfl rfl h169 h171 tyA32.s) zU2 ?_
    refine bT (aU (aK (xZ (fun H E=>∃(x174:List aI),d6 K a0 v2 x121 x127 x133 v152 v164 (bG K a0 v2 x91 v105 k) x174=some (x134',x140')∧x174.length=n161∧H=([⟨some b166,1,49,18,1,(aA.enc v164)⟩,hO aI.cod b159 c160 70 n161 x174,⟨some b155,1,91,2,1,(aC.enc v152)⟩,⟨some b154,1,3,1,1,[pI .i64 x133]⟩,⟨some b107,1,32,4,1,(eQ v105)⟩,⟨some ((G7 7).1.getD 0),1,24,1,1,[pO b100 n102 c101]⟩,⟨some b4,1,87,1,1,[pS aC.cod v2]⟩,⟨some b1,1,86,4,1,(aF.enc a0)⟩,hO cQ b100 c101 32 n102 v98,⟨some ((G7 6).1.getD 0),1,74,1,1,[pO b122 n124 c123]⟩,hO (cH g128) b122 c123 24 n124 x121]++f8 cQ 32 g128 x127)∧E=[(1,.vc (pP (some b1) 0)),(4,.vc (pP (some b4) 0)),(5,.vc (pF 99 [pP (some b4) 0,pP (some b1) 0])),(6,.vc (pP (some ((G7 6).1.getD 0)) 0)),(7,.vc (pP (some ((G7 7).1.getD 0)) 0)),(9,.vc (pS aI.cod x91)),(10,.vc (pP (some b107) 0)),(11,.vc (pP (some b154) 0)),(12,.vc (pP (some b155) 0)),(13,.vc (pO b159 n161 c160)),(14,.vc (pP (some b166) 0)),(49,.vc (pS aC.cod v2)),(50,.vc (pI .i64 (v2.length:Int))),(51,.vc (pI .i64 x133))]) ?_ (fun Jj180=>?_))))
    ·rintro _ _ ⟨x174,hF,q178,rfl,rfl⟩
     unfold d6 at hF
     refine aK ?_
     obtain⟨v183,h184,hF⟩:=aZ hF
     rcases Bool.eq_false_or_eq_true (decide (v183<(v2.length:Int))) with h185|h185
     ·have hF:=aAU h185 hF
      have hF:=sE h184 hF
      obtain⟨v188,h189,hF⟩:=aZ hF
      refine gT [0,1,0,4,15,31,63,63,191,511,1023,63,2111,6207,16383,32767] 16 0 [.v (.vc (pI .i64 x133)),.v (.vc (pI .i64 v183)),.v (.vc (pS aC.cod v2)),.v (.vc (pI .i64 (v2.length:Int))),.v (.vc (pB (decide (v183<(v2.length:Int))))),.v (.vc (pB true)),.v (.vc (pS aC.cod v2)),.v (.vc (pI .i64 x133)),.v (.vc (pI .i64 v183)),.v (.vc (pM (aC.cod.e v188))),.v (.va (aC.enc v188)),.v (.vc (pP (some b155) 0)),.v (.vc (pI .i64 v152.row)),.v (.va ([pI .i64 v152.row]++[pI .i64 3])),.v (.vc (pB (v188.row==v152.row&&v188.kind==3))),.v (.vc (pB (v188.row==v152.row&&v188.kind==3)))] bC ⟨d0 (fX 3 1 rfl rfl rfl rfl (.one tyO3)) zU1,d0 (xJ rfl h184) ⟨rfl,lY _ _,trivial⟩,d0 (fX 6 1 rfl rfl rfl rfl (.one tyO87)) zU1,d0 (uN rfl tyS87) zU1,d0 (aNB rfl) zU2,d0 (jK (bB (.inl rfl)) h185) zU1,g0 (fX 6 1 rfl rfl rfl rfl (.one tyO87)) zU1,g0 (fX 3 1 rfl rfl rfl rfl (.one tyO3)) zU1,g0 (xJ rfl h184) ⟨rfl,lY _ _,trivial⟩,g0 (aCO rfl tyS87 h189) zU2,g0 (aAP 2 rfl rfl (.agg tyA91)) zU1,g0 (iU (off:=0) (k:=0) rfl tyF91_0) zU1,g0 (fX 2 1 rfl rfl rfl rfl (.one tyO3)) zU1,g0 (dY (is:=[0,1]) (xs:=[.tmp 99,.const (.int .i64 (3))]) (ps:=[.vc (pI .i64 v152.row),.vc (pI .i64 3)]) rfl tyB91q rfl rfl ⟨trivial,trivial,trivial⟩ rfl) ⟨rfl,lY _ _,trivial⟩,g0 (aU8 rfl tyQ91) zU2,d0 (uH rfl) zU2,trivial⟩ (fun bs182 G181=>?_)
      refine bT (aU (aJ hF rfl (fun h190 hF=>?_) (fun h190 hF=>?_)))
      ·have hF:=sE h184 hF
       obtain⟨v195,h196,hF⟩:=aZ hF
       obtain⟨v197,h198,hF⟩:=aZ hF
       refine gT [0,0,2,7,15,0,0,64,255,511] 9 1 [.v (.vc (pO b122 n124 c123)),.v (.vc (pI .i64 x133)),.v (.vc (pI .i64 v183)),.v (.vc (pE b122 v183 (cH g128).n 0)),.v (.vc (pO (gX g128 v195).1 (gX g128 v195).2.1 (gX g128 v195).2.2)),.v (.vc (pI .i64 x133)),.v (.vc (pP (some b166) 10)),.v (.va (eQ v164.mu)),.v (.vc (pE (gX g128 v195).1 x133 cQ.n 0))] bC ⟨d0 (fX 9 1 rfl rfl rfl rfl (.one tyO74)) zU1,d0 (fX 3 1 rfl rfl rfl rfl (.one tyO3)) zU1,d0 (xJ rfl h184) ⟨rfl,lY _ _,trivial⟩,d0 (gN (C:=(cH g128)) 10 rfl tyS74 rfl q125 (aN h196).1 (aN h196).2.1) zU2,d0 (lE (C:=(cH g128)) (k:=1) 10 rfl rfl h196 rfl (.one tyO24) rfl) zU1,d0 (fX 3 1 rfl rfl rfl rfl (.one tyO3)) zU1,d0 (iU (off:=0) (k:=10) rfl tyF49_7) zU1,d0 (fX 0 4 rfl rfl rfl rfl (.agg tyA32)) zU1,d0 (gN (11+v195) rfl tyS24 (iC 11 rfl q131 q130 (q132 _ (aV h196))) (gZ q131 q130 (q132 _ (aV h196))) (aN h198).1 (aN h198).2.1) zU2,trivial⟩ (fun bs192 G191=>?_)
       obtain⟨x199,h200,hF⟩:=aZ hF
       refine mR (xV (H':=([⟨some b166,1,49,18,1,(aA.enc v164)⟩,hO aI.cod b159 c160 70 n161 x174,⟨some b155,1,91,2,1,(aC.enc v152)⟩,⟨some b154,1,3,1,1,[pI .i64 x133]⟩,⟨some b107,1,32,4,1,(eQ v105)⟩,⟨some ((G7 7).1.getD 0),1,24,1,1,[pO b100 n102 c101]⟩,⟨some b4,1,87,1,1,[pS aC.cod v2]⟩,⟨some b1,1,86,4,1,(aF.enc a0)⟩,hO cQ b100 c101 32 n102 v98,⟨some ((G7 6).1.getD 0),1,74,1,1,[pO b122 n124 c123]⟩,hO (cH g128) b122 c123 24 n124 x121]++f8 cQ 32 g128 (x127.set v195 x199))) (11+v195) rfl (aAH 11 rfl q131 q130 (q132 _ (aV h196))) h198 h200 tyA32.s (hH:=stN 11 rfl q131 q130 (q132 _ (aV h196)))) zU2 ?_
       refine bT (aA6 (aU (aF2 1 [13] rfl q178 zU1 rfl ?_)))
       refine aHq 2 [(11,0)] rfl zU1 rfl ?_
       obtain⟨x204,h205,hF⟩:=aZ hF
       obtain⟨v206,h207,hF⟩:=bF hF dP
       refine gT [0,0,0,4,12,28,0,126,0,511] 9 1 [.v (.vc (pF 99 [pP (some b4) 0,pP (some b1) 0])),.v (.va (aF.enc a0)),.v (.vc (pP (some b1) 0)),.v (.vc (pS aD.cod a0.dofs)),.v (.vc (pI .i64 (a0.dofs.length:Int))),.v (.vc (pS cQ x204)),.v (.vc (pS aI.cod x174)),.v (.vc (pS cQ v206)),.v (.vc (pF 102 [pP (some ((G7 6).1.getD 0)) 0,pM (cI.e x133)]))] bC ⟨d0 (bB (.inl rfl)) zU1,d0 (fX 5 4 rfl rfl rfl rfl (.agg tyA86)) zU1,d0 (iU (off:=0) (k:=0) rfl tyF86_0) zU1,d0 (fX 5 1 rfl rfl rfl rfl (.one tyO23)) zU1,d0 (uN rfl tyS23) zU1,d0 (aFa 0 (jB (C:=cQ) rfl tyS24 rfl tyZ32q h205) (fun _ _=>rfl) rfl (fun _ _=>rfl)) zU1,d0 (bB (.inl rfl)) zU1,d0 (cS rfl h207 rfl) ⟨rfl,rfl,rfl,trivial⟩,d0 (aGy (xs:=[.tmp 6,.tmp 11]) (cs:=[pP (some ((G7 6).1.getD 0)) 0,pM (cI.e x133)]) rfl rfl) zU2,trivial⟩ (fun bs203 G202=>?_)
       obtain⟨v208,h209,hF⟩:=aZ hF
       refine wK (f:=99) (cs:=[pP (some b4) 0,pP (some b1) 0]) (pre:=[.vc (pS cQ v206),.vc (pF 102 [pP (some ((G7 6).1.getD 0)) 0,pM (cI.e x133)])]) (xs:=[.tmp 176,.tmp 177]) 9 [7,4,5,8] [0,1,2,3,6] rfl (fQ h209 q125 (uG q130) (yW q131 q130 (q132 _ (aV h196)) (bK h200 rfl)) q132) ⟨rfl,rfl,rfl,trivial⟩ rfl rfl rfl (by decide) ?_
       rintro _ _ ⟨b210,c211,n212,g215,N216,q213,q217,q218,q219,rfl,rfl⟩
       refine s8 (p8 [⟨some ((G7 6).1.getD 0),1,74,1,1,[pO b210 n212 c211]⟩,⟨some b4,1,87,1,1,[pS aC.cod v2]⟩,⟨some b1,1,86,4,1,(aF.enc a0)⟩,hO (cH g215) b210 c211 24 n212 v208.1] (f8 cQ 32 g215 v208.2) [⟨some b166,1,49,18,1,(aA.enc v164)⟩,⟨some b155,1,91,2,1,(aC.enc v152)⟩,⟨some b107,1,32,4,1,(eQ v105)⟩,⟨some ((G7 7).1.getD 0),1,24,1,1,[pO b100 n102 c101]⟩,hO cQ b100 c101 32 n102 v98]) ?_
       obtain⟨v221,h222,hF⟩:=aZ hF
       refine go ?_ ?_
       exact aM (fun a w hh=>⟨v208.1,v208.2,v221,b210,c211,n212,g215,N216,hF,q213,q217,q218,q219,bR 9 [6,7,1,2,8,0,3] rfl rfl (by decide) (by exact⟨rfl,rfl,rfl,rfl,rfl,rfl,rfl,rfl,rfl,rfl,trivial⟩) hh⟩)
      refine iP (aA6 (aU (aF2 1 [13] rfl q178 zU1 rfl ?_)))
      refine aHq 2 [(11,0)] rfl zU1 rfl ?_
      obtain⟨x225,h226,hF⟩:=aZ hF
      obtain⟨v227,h228,hF⟩:=bF hF dP
      refine gT [0,0,0,4,12,28,0,126,0,511] 9 1 [.v (.vc (pF 99 [pP (some b4) 0,pP (some b1) 0])),.v (.va (aF.enc a0)),.v (.vc (pP (some b1) 0)),.v (.vc (pS aD.cod a0.dofs)),.v (.vc (pI .i64 (a0.dofs.length:Int))),.v (.vc (pS cQ x225)),.v (.vc (pS aI.cod x174)),.v (.vc (pS cQ v227)),.v (.vc (pF 102 [pP (some ((G7 6).1.getD 0)) 0,pM (cI.e x133)]))] bC ⟨d0 (bB (.inl rfl)) zU1,d0 (fX 5 4 rfl rfl rfl rfl (.agg tyA86)) zU1,d0 (iU (off:=0) (k:=0) rfl tyF86_0) zU1,d0 (fX 5 1 rfl rfl rfl rfl (.one tyO23)) zU1,d0 (uN rfl tyS23) zU1,d0 (aFa 0 (jB (C:=cQ) rfl tyS24 rfl tyZ32q h226) (fun _ _=>rfl) rfl (fun _ _=>rfl)) zU1,d0 (bB (.inl rfl)) zU1,d0 (cS rfl h228 rfl) ⟨rfl,rfl,rfl,trivial⟩,d0 (aGy (xs:=[.tmp 6,.tmp 11]) (cs:=[pP (some ((G7 6).1.getD 0)) 0,pM (cI.e x133)]) rfl rfl) zU2,trivial⟩ (fun bs224 G223=>?_)
      obtain⟨v229,h230,hF⟩:=aZ hF
      refine wK (f:=99) (cs:=[pP (some b4) 0,pP (some b1) 0]) (pre:=[.vc (pS cQ v227),.vc (pF 102 [pP (some ((G7 6).1.getD 0)) 0,pM (cI.e x133)])]) (xs:=[.tmp 176,.tmp 177]) 9 [7,4,5,8] [0,1,2,3,6] rfl (fQ h230 q125 q130 q131 q132) ⟨rfl,rfl,rfl,trivial⟩ rfl rfl rfl (by decide) ?_
      rintro _ _ ⟨b231,c232,n233,g236,N237,q234,q238,q239,q240,rfl,rfl⟩
      refine s8 (p8 [⟨some ((G7 6).1.getD 0),1,74,1,1,[pO b231 n233 c232]⟩,⟨some b4,1,87,1,1,[pS aC.cod v2]⟩,⟨some b1,1,86,4,1,(aF.enc a0)⟩,hO (cH g236) b231 c232 24 n233 v229.1] (f8 cQ 32 g236 v229.2) [⟨some b166,1,49,18,1,(aA.enc v164)⟩,⟨some b155,1,91,2,1,(aC.enc v152)⟩,⟨some b107,1,32,4,1,(eQ v105)⟩,⟨some ((G7 7).1.getD 0),1,24,1,1,[pO b100 n102 c101]⟩,hO cQ b100 c101 32 n102 v98]) ?_
      obtain⟨v242,h243,hF⟩:=aZ hF
      refine go ?_ ?_
      exact aM (fun a w hh=>⟨v229.1,v229.2,v242,b231,c232,n233,g236,N237,hF,q234,q238,q239,q240,bR 9 [6,7,1,2,8,0,3] rfl rfl (by decide) (by exact⟨rfl,rfl,rfl,rfl,rfl,rfl,rfl,rfl,rfl,rfl,trivial⟩) hh⟩)
     have hF:=aA2 h185 hF
     refine drb [0,1,0,4,15,31,63,63,191,511,1023,63,2111,6207,16383,32767] 16 0 ?_ (fun bs182 G181=>?_)
     refine bT (aU (yC rfl ?_))
     refine iP (aA6 (aU (aF2 1 [13] rfl q178 zU1 rfl ?_)))
     refine aHq 2 [(11,0)] rfl zU1 rfl ?_
     obtain⟨x246,h247,hF⟩:=aZ hF
     obtain⟨v248,h249,hF⟩:=bF hF dP
     refine gT [0,0,0,4,12,28,0,126,0,511] 9 1 [.v (.vc (pF 99 [pP (some b4) 0,pP (some b1) 0])),.v (.va (aF.enc a0)),.v (.vc (pP (some b1) 0)),.v (.vc (pS aD.cod a0.dofs)),.v (.vc (pI .i64 (a0.dofs.length:Int))),.v (.vc (pS cQ x246)),.v (.vc (pS aI.cod x174)),.v (.vc (pS cQ v248)),.v (.vc (pF 102 [pP (some ((G7 6).1.getD 0)) 0,pM (cI.e x133)]))] bC ⟨d0 (bB (.inl rfl)) zU1,d0 (fX 5 4 rfl rfl rfl rfl (.agg tyA86)) zU1,d0 (iU (off:=0) (k:=0) rfl tyF86_0) zU1,d0 (fX 5 1 rfl rfl rfl rfl (.one tyO23)) zU1,d0 (uN rfl tyS23) zU1,d0 (aFa 0 (jB (C:=cQ) rfl tyS24 rfl tyZ32q h247) (fun _ _=>rfl) rfl (fun _ _=>rfl)) zU1,d0 (bB (.inl rfl)) zU1,d0 (cS rfl h249 rfl) ⟨rfl,rfl,rfl,trivial⟩,d0 (aGy (xs:=[.tmp 6,.tmp 11]) (cs:=[pP (some ((G7 6).1.getD 0)) 0,pM (cI.e x133)]) rfl rfl) zU2,trivial⟩ (fun bs245 G244=>?_)
     obtain⟨v250,h251,hF⟩:=aZ hF
     refine wK (f:=99) (cs:=[pP (some b4) 0,pP (some b1) 0]) (pre:=[.vc (pS cQ v248),.vc (pF 102 [pP (some ((G7 6).1.getD 0)) 0,pM (cI.e x133)])]) (xs:=[.tmp 176,.tmp 177]) 9 [7,4,5,8] [0,1,2,3,6] rfl (fQ h251 q125 q130 q131 q132) ⟨rfl,rfl,rfl,trivial⟩ rfl rfl rfl (by decide) ?_
     rintro _ _ ⟨b252,c253,n254,g257,N258,q255,q259,q260,q261,rfl,rfl⟩
     refine s8 (p8 [⟨some ((G7 6).1.getD 0),1,74,1,1,[pO b252 n254 c253]⟩,⟨some b4,1,87,1,1,[pS aC.cod v2]⟩,⟨some b1,1,86,4,1,(aF.enc a0)⟩,hO (cH g257) b252 c253 24 n254 v250.1] (f8 cQ 32 g257 v250.2) [⟨some b166,1,49,18,1,(aA.enc v164)⟩,⟨some b155,1,91,2,1,(aC.enc v152)⟩,⟨some b107,1,32,4,1,(eQ v105)⟩,⟨some ((G7 7).1.getD 0),1,24,1,1,[pO b100 n102 c101]⟩,hO cQ b100 c101 32 n102 v98]) ?_
     obtain⟨v263,h264,hF⟩:=aZ hF
     refine go ?_ ?_
     exact aM (fun a w hh=>⟨v250.1,v250.2,v263,b252,c253,n254,g257,N258,hF,q255,q259,q260,q261,bR 9 [6,7,1,2,8,0,3] rfl rfl (by decide) (by exact⟨rfl,rfl,rfl,rfl,rfl,rfl,rfl,rfl,rfl,rfl,trivial⟩) hh⟩)
    refine go ?_ ?_
    refine aJ hF rfl (fun h265 hF=>?_) (fun h265 hF=>?_)
    ·obtain⟨v268,h269,hF⟩:=bF hF xM
     obtain⟨v270,h271,hF⟩:=aZ hF
     refine dr [0,0,2,0,0,0,56,127,255,511] 9 1 ?_ (fun bs267 G266=>?_)
     obtain⟨x272,h273,hF⟩:=aZ hF
     refine mR (xV 1 rfl rfl h271 h273 tyA32.s) zU2 ?_
     refine bT ?_
     exact lD Jj180 ⟨x272,hF,(bK h273 (bK h171 q162)),rfl,rfl⟩ 11 [0,1,2,3,4,5,6,7,8,9,10] rfl rfl ⟨rfl,rfl,rfl,rfl,rfl,rfl,rfl,rfl,rfl,rfl,rfl,rfl,rfl,rfl,trivial⟩
    refine iP ?_
    exact lD Jj180 ⟨x170,hF,(bK h171 q162),rfl,rfl⟩ 11 [0,1,2,3,4,5,6,7,8,9,10] rfl rfl ⟨rfl,rfl,rfl,rfl,rfl,rfl,rfl,rfl,rfl,rfl,rfl,rfl,rfl,rfl,trivial⟩
   refine go ?_ ?_
   refine aJ hF rfl (fun h275 hF=>?_) (fun h275 hF=>?_)
   ·obtain⟨v276,h277,x278,h279,v283,h284,v285,h286,hF⟩:=bn4 hF
    obtain⟨v287,h288,hF⟩:=aZ hF
    obtain⟨v289,h290,hF⟩:=bF hF tL
    obtain⟨v291,h292,hF⟩:=aZ hF
    refine go ?_ ?_
    refine gT [0,0,2,6,15,31,0,0,128,511,1023] 10 1 [.v (.vc (pO b122 n124 c123)),.v (.vc (pI .i64 x133)),.v (.vc (pI .i64 v283)),.v (.vc (pI .i64 v285)),.v (.vc (pE b122 v285 (cH g128).n 0)),.v (.vc (pO (gX g128 v287).1 (gX g128 v287).2.1 (gX g128 v287).2.2)),.v (.vc (pI .i64 x133)),.v (.va (eQ v105)),.v (.va (eQ v289)),.v (.vc (pE (gX g128 v287).1 x133 cQ.n 0))] bC ⟨d0 (fX 9 1 rfl rfl rfl rfl (.one tyO74)) zU1,d0 (fX 3 1 rfl rfl rfl rfl (.one tyO3)) zU1,d0 (xJ rfl h284) ⟨rfl,lY _ _,trivial⟩,d0 (aEw rfl h286) ⟨rfl,lY _ _,trivial⟩,d0 (gN (C:=(cH g128)) 10 rfl tyS74 rfl q125 (aN h288).1 (aN h288).2.1) zU2,d0 (lE (C:=(cH g128)) (k:=1) 10 rfl rfl h288 rfl (.one tyO24) rfl) zU1,d0 (fX 3 1 rfl rfl rfl rfl (.one tyO3)) zU1,d0 (fX 4 4 rfl rfl rfl rfl (.agg tyA32)) zU1,d0 (cS rfl h290 rfl) zU1,d0 (gN (11+v287) rfl tyS24 (iC 11 rfl q131 q130 (q132 _ (aV h288))) (gZ q131 q130 (q132 _ (aV h288))) (aN h292).1 (aN h292).2.1) zU2,trivial⟩ (fun bs282 G281=>?_)
    obtain⟨x293,h294,hF⟩:=aZ hF
    refine mR (xV (H':=([⟨some b166,1,49,18,1,(aA.enc v164)⟩,hO aI.cod b159 c160 70 n161 x278,⟨some b155,1,91,2,1,(aC.enc v152)⟩,⟨some b154,1,3,1,1,[pI .i64 x133]⟩,⟨some b107,1,32,4,1,(eQ v105)⟩,⟨some ((G7 7).1.getD 0),1,24,1,1,[pO b100 n102 c101]⟩,⟨some b4,1,87,1,1,[pS aC.cod v2]⟩,⟨some b1,1,86,4,1,(aF.enc a0)⟩,hO cQ b100 c101 32 n102 v98,⟨some ((G7 6).1.getD 0),1,74,1,1,[pO b122 n124 c123]⟩,hO (cH g128) b122 c123 24 n124 x121]++f8 cQ 32 g128 (x127.set v287 x293))) (11+v287) rfl (aAH 11 rfl q131 q130 (q132 _ (aV h288))) h292 h294 tyA32.s (hH:=stN 11 rfl q131 q130 (q132 _ (aV h288)))) zU2 ?_
    refine bT (aA6 (aU (aF2 1 [13,57,114] rfl (bK h279 q162) ⟨rfl,rfl,rfl,trivial⟩ rfl ?_)))
    refine aHq 2 [(11,0)] rfl zU1 rfl ?_
    obtain⟨x298,h299,hF⟩:=aZ hF
    obtain⟨v300,h301,hF⟩:=bF hF dP
    refine gT [0,0,0,4,12,28,0,126,0,511] 9 1 [.v (.vc (pF 99 [pP (some b4) 0,pP (some b1) 0])),.v (.va (aF.enc a0)),.v (.vc (pP (some b1) 0)),.v (.vc (pS aD.cod a0.dofs)),.v (.vc (pI .i64 (a0.dofs.length:Int))),.v (.vc (pS cQ x298)),.v (.vc (pS aI.cod x278)),.v (.vc (pS cQ v300)),.v (.vc (pF 102 [pP (some ((G7 6).1.getD 0)) 0,pM (cI.e x133)]))] bC ⟨d0 (bB (.inl rfl)) zU1,d0 (fX 5 4 rfl rfl rfl rfl (.agg tyA86)) zU1,d0 (iU (off:=0) (k:=0) rfl tyF86_0) zU1,d0 (fX 5 1 rfl rfl rfl rfl (.one tyO23)) zU1,d0 (uN rfl tyS23) zU1,d0 (aFa 0 (jB (C:=cQ) rfl tyS24 rfl tyZ32q h299) (fun _ _=>rfl) rfl (fun _ _=>rfl)) zU1,d0 (bB (.inl rfl)) zU1,d0 (cS rfl h301 rfl) ⟨rfl,rfl,rfl,trivial⟩,d0 (aGy (xs:=[.tmp 6,.tmp 11]) (cs:=[pP (some ((G7 6).1.getD 0)) 0,pM (cI.e x133)]) rfl rfl) zU2,trivial⟩ (fun bs297 G296=>?_)
    obtain⟨v302,h303,hF⟩:=aZ hF
    refine wK (f:=99) (cs:=[pP (some b4) 0,pP (some b1) 0]) (pre:=[.vc (pS cQ v300),.vc (pF 102 [pP (some ((G7 6).1.getD 0)) 0,pM (cI.e x133)])]) (xs:=[.tmp 176,.tmp 177]) 9 [7,4,5,8] [0,1,2,3,6] rfl (fQ h303 q125 (uG q130) (yW q131 q130 (q132 _ (aV h288)) (bK h294 rfl)) q132) ⟨rfl,rfl,rfl,trivial⟩ rfl rfl rfl (by decide) ?_
    rintro _ _ ⟨b304,c305,n306,g309,N310,q307,q311,q312,q313,rfl,rfl⟩
    refine s8 (p8 [⟨some ((G7 6).1.getD 0),1,74,1,1,[pO b304 n306 c305]⟩,⟨some b4,1,87,1,1,[pS aC.cod v2]⟩,⟨some b1,1,86,4,1,(aF.enc a0)⟩,hO (cH g309) b304 c305 24 n306 v302.1] (f8 cQ 32 g309 v302.2) [⟨some b166,1,49,18,1,(aA.enc v164)⟩,⟨some b155,1,91,2,1,(aC.enc v152)⟩,⟨some b107,1,32,4,1,(eQ v105)⟩,⟨some ((G7 7).1.getD 0),1,24,1,1,[pO b100 n102 c101]⟩,hO cQ b100 c101 32 n102 v98]) ?_
    obtain⟨v315,h316,hF⟩:=aZ hF
    refine go ?_ ?_
    exact aM (fun a w hh=>⟨v302.1,v302.2,v315,b304,c305,n306,g309,N310,hF,q307,q311,q312,q313,bR 9 [6,7,1,2,8,0,3] rfl rfl (by decide) (by exact⟨rfl,rfl,rfl,rfl,rfl,rfl,rfl,rfl,rfl,rfl,trivial⟩) hh⟩)
   refine go ?_ ?_
   refine aJ hF rfl (fun h317 hF=>?_) (fun h317 hF=>?_)
   ·refine aK ?_
    obtain⟨v320,h321,hF⟩:=bF hF tL
    obtain⟨v322,h323,hF⟩:=aZ hF
    refine dr [0,0,2,0,8,31,63,127] 7 1 ?_ (fun bs319 G318=>?_)
    obtain⟨x324,h325,v329,h330,v331,h332,v333,h334,hF⟩:=bn4 hF
    obtain⟨v335,h336,hF⟩:=bF hF tL
    obtain⟨v337,h338,hF⟩:=aZ hF
    refine go ?_ ?_
    refine gT [0,0,2,6,15,31,0,0,128,511,1023] 10 1 [.v (.vc (pO b122 n124 c123)),.v (.vc (pI .i64 x133)),.v (.vc (pI .i64 v329)),.v (.vc (pI .i64 v331)),.v (.vc (pE b122 v331 (cH g128).n 0)),.v (.vc (pO (gX g128 v333).1 (gX g128 v333).2.1 (gX g128 v333).2.2)),.v (.vc (pI .i64 x133)),.v (.va (eQ v105)),.v (.va (eQ v335)),.v (.vc (pE (gX g128 v333).1 x133 cQ.n 0))] bC ⟨d0 (fX 9 1 rfl rfl rfl rfl (.one tyO74)) zU1,d0 (fX 3 1 rfl rfl rfl rfl (.one tyO3)) zU1,d0 (xJ rfl h330) ⟨rfl,lY _ _,trivial⟩,d0 (aEw rfl h332) ⟨rfl,lY _ _,trivial⟩,d0 (gN (C:=(cH g128)) 10 rfl tyS74 rfl q125 (aN h334).1 (aN h334).2.1) zU2,d0 (lE (C:=(cH g128)) (k:=1) 10 rfl rfl h334 rfl (.one tyO24) rfl) zU1,d0 (fX 3 1 rfl rfl rfl rfl (.one tyO3)) zU1,d0 (fX 4 4 rfl rfl rfl rfl (.agg tyA32)) zU1,d0 (cS rfl h336 rfl) zU1,d0 (gN (11+v333) rfl tyS24 (iC 11 rfl q131 q130 (q132 _ (aV h334))) (gZ q131 q130 (q132 _ (aV h334))) (aN h338).1 (aN h338).2.1) zU2,trivial⟩ (fun bs328 G327=>?_)
    obtain⟨x339,h340,hF⟩:=aZ hF
    refine mR (xV (H':=([⟨some b166,1,49,18,1,(aA.enc v164)⟩,hO aI.cod b159 c160 70 n161 x324,⟨some b155,1,91,2,1,(aC.enc v152)⟩,⟨some b154,1,3,1,1,[pI .i64 x133]⟩,⟨some b107,1,32,4,1,(eQ v105)⟩,⟨some ((G7 7).1.getD 0),1,24,1,1,[pO b100 n102 c101]⟩,⟨some b4,1,87,1,1,[pS aC.cod v2]⟩,⟨some b1,1,86,4,1,(aF.enc a0)⟩,hO cQ b100 c101 32 n102 v98,⟨some ((G7 6).1.getD 0),1,74,1,1,[pO b122 n124 c123]⟩,hO (cH g128) b122 c123 24 n124 x121]++f8 cQ 32 g128 (x127.set v333 x339))) (11+v333) rfl (aAH 11 rfl q131 q130 (q132 _ (aV h334))) h338 h340 tyA32.s (hH:=stN 11 rfl q131 q130 (q132 _ (aV h334)))) zU2 ?_
    refine bT (aA6 (aU (aF2 1 [13,57,132] rfl (bK h325 q162) ⟨rfl,rfl,rfl,trivial⟩ rfl ?_)))
    refine aHq 2 [(11,0)] rfl zU1 rfl ?_
    obtain⟨x344,h345,hF⟩:=aZ hF
    obtain⟨v346,h347,hF⟩:=bF hF dP
    refine gT [0,0,0,4,12,28,0,126,0,511] 9 1 [.v (.vc (pF 99 [pP (some b4) 0,pP (some b1) 0])),.v (.va (aF.enc a0)),.v (.vc (pP (some b1) 0)),.v (.vc (pS aD.cod a0.dofs)),.v (.vc (pI .i64 (a0.dofs.length:Int))),.v (.vc (pS cQ x344)),.v (.vc (pS aI.cod x324)),.v (.vc (pS cQ v346)),.v (.vc (pF 102 [pP (some ((G7 6).1.getD 0)) 0,pM (cI.e x133)]))] bC ⟨d0 (bB (.inl rfl)) zU1,d0 (fX 5 4 rfl rfl rfl rfl (.agg tyA86)) zU1,d0 (iU (off:=0) (k:=0) rfl tyF86_0) zU1,d0 (fX 5 1 rfl rfl rfl rfl (.one tyO23)) zU1,d0 (uN rfl tyS23) zU1,d0 (aFa 0 (jB (C:=cQ) rfl tyS24 rfl tyZ32q h345) (fun _ _=>rfl) rfl (fun _ _=>rfl)) zU1,d0 (bB (.inl rfl)) zU1,d0 (cS rfl h347 rfl) ⟨rfl,rfl,rfl,trivial⟩,d0 (aGy (xs:=[.tmp 6,.tmp 11]) (cs:=[pP (some ((G7 6).1.getD 0)) 0,pM (cI.e x133)]) rfl rfl) zU2,trivial⟩ (fun bs343 G342=>?_)
    obtain⟨v348,h349,hF⟩:=aZ hF
    refine wK (f:=99) (cs:=[pP (some b4) 0,pP (some b1) 0]) (pre:=[.vc (pS cQ v346),.vc (pF 102 [pP (some ((G7 6).1.getD 0)) 0,pM (cI.e x133)])]) (xs:=[.tmp 176,.tmp 177]) 9 [7,4,5,8] [0,1,2,3,6] rfl (fQ h349 q125 (uG q130) (yW q131 q130 (q132 _ (aV h334)) (bK h340 rfl)) q132) ⟨rfl,rfl,rfl,trivial⟩ rfl rfl rfl (by decide) ?_
    rintro _ _ ⟨b350,c351,n352,g355,N356,q353,q357,q358,q359,rfl,rfl⟩
    refine s8 (p8 [⟨some ((G7 6).1.getD 0),1,74,1,1,[pO b350 n352 c351]⟩,⟨some b4,1,87,1,1,[pS aC.cod v2]⟩,⟨some b1,1,86,4,1,(aF.enc a0)⟩,hO (cH g355) b350 c351 24 n352 v348.1] (f8 cQ 32 g355 v348.2) [⟨some b166,1,49,18,1,(aA.enc v164)⟩,⟨some b155,1,91,2,1,(aC.enc v152)⟩,⟨some b107,1,32,4,1,(eQ v105)⟩,⟨some ((G7 7).1.getD 0),1,24,1,1,[pO b100 n102 c101]⟩,hO cQ b100 c101 32 n102 v98]) ?_
    obtain⟨v361,h362,hF⟩:=aZ hF
    refine go ?_ ?_
    exact aM (fun a w hh=>⟨v348.1,v348.2,v361,b350,c351,n352,g355,N356,hF,q353,q357,q358,q359,bR 9 [6,7,1,2,8,0,3] rfl rfl (by decide) (by exact⟨rfl,rfl,rfl,rfl,rfl,rfl,rfl,rfl,rfl,rfl,trivial⟩) hh⟩)
   refine go ?_ ?_
   refine aJ hF rfl (fun h363 hF=>?_) (fun h363 hF=>?_)
   ·refine aK ?_
    obtain⟨v366,h367,hF⟩:=aZ hF
    obtain⟨v368,h369,hF⟩:=aZ hF
    obtain⟨v370,h371,hF⟩:=aZ hF
    obtain⟨v372,h373,hF⟩:=aZ hF
    obtain⟨v374,h375,hF⟩:=aZ hF
    obtain⟨v376,h377,hF⟩:=aZ hF
    obtain⟨v378,h379,hF⟩:=aZ hF
    obtain⟨x380,h381,hF⟩:=aZ hF
    obtain⟨v383,h384,hF⟩:=aZ hF
    refine sF (HsM [(0,fun G364=>([⟨some b166,1,49,18,1,(aA.enc v164)⟩,hO aI.cod b159 c160 70 n161 v156,⟨some b155,1,91,2,1,(aC.enc v152)⟩,⟨some b154,1,3,1,1,[pI .i64 x133]⟩,⟨some b107,1,32,4,1,(eQ v105)⟩,⟨some ((G7 7).1.getD 0),1,24,1,1,[pO b100 n102 c101]⟩,⟨some b4,1,87,1,1,[pS aC.cod v2]⟩,⟨some b1,1,86,4,1,(aF.enc a0)⟩,hO cQ b100 c101 32 n102 v98,⟨some ((G7 6).1.getD 0),1,74,1,1,[pO b122 n124 c123]⟩,hO (cH g128) b122 c123 24 n124 x121]++f8 cQ 32 g128 x127)),(1,fun G364=>([⟨some b166,1,49,18,1,(aA.enc v164)⟩,hO aI.cod b159 c160 70 n161 v156,⟨some b155,1,91,2,1,(aC.enc v152)⟩,⟨some b154,1,3,1,1,[pI .i64 x133]⟩,⟨some b107,1,32,4,1,(eQ v105)⟩,⟨some ((G7 7).1.getD 0),1,24,1,1,[pO b100 n102 c101]⟩,⟨some b4,1,87,1,1,[pS aC.cod v2]⟩,⟨some b1,1,86,4,1,(aF.enc a0)⟩,hO cQ b100 c101 32 n102 v98,⟨some ((G7 6).1.getD 0),1,74,1,1,[pO b122 n124 c123]⟩,hO (cH g128) b122 c123 24 n124 x121]++f8 cQ 32 g128 (x127.set v370 x380)))]) [17] [0,0,2,6,15,31,0,0,0,256,768,1920,3968,0,0,0,24575,90111,262143,524287] 19 1 [.v (.vc (pO b122 n124 c123)),.v (.vc (pI .i64 x133)),.v (.vc (pI .i64 v366)),.v (.vc (pI .i64 v368)),.v (.vc (pE b122 v368 (cH g128).n 0)),.v (.vc (pO (gX g128 v370).1 (gX g128 v370).2.1 (gX g128 v370).2.2)),.v (.vc (pI .i64 x133)),.v (.vc (pO b122 n124 c123)),.v (.vc (pI .i64 x133)),.v (.vc (pI .i64 v372)),.v (.vc (pI .i64 v374)),.v (.vc (pE b122 v374 (cH g128).n 0)),.v (.vc (pO (gX g128 v376).1 (gX g128 v376).2.1 (gX g128 v376).2.2)),.v (.vc (pI .i64 x133)),.v (.va (eQ v105)),.v (.va (eQ v105)),.v (.vc (pE (gX g128 v370).1 x133 cQ.n 0)),.g (fun _ _=>.any),.v (.vc (pE (gX g128 v376).1 x133 cQ.n 0))] bC ⟨d1 0 (fX 9 1 rfl rfl rfl rfl (.one tyO74)) zU1,d1 0 (fX 3 1 rfl rfl rfl rfl (.one tyO3)) zU1,d1 0 (xJ rfl h367) ⟨rfl,lY _ _,trivial⟩,d1 0 (aEw rfl h369) ⟨rfl,lY _ _,trivial⟩,d1 0 (gN (C:=(cH g128)) 10 rfl tyS74 rfl q125 (aN h371).1 (aN h371).2.1) zU2,d1 0 (lE (C:=(cH g128)) (k:=1) 10 rfl rfl h371 rfl (.one tyO24) rfl) zU1,d1 0 (fX 3 1 rfl rfl rfl rfl (.one tyO3)) zU1,d1 0 (fX 9 1 rfl rfl rfl rfl (.one tyO74)) zU1,d1 0 (fX 3 1 rfl rfl rfl rfl (.one tyO3)) zU1,d1 0 (xJ rfl h373) ⟨rfl,lY _ _,trivial⟩,d1 0 (aEw rfl h375) ⟨rfl,lY _ _,trivial⟩,d1 0 (gN (C:=(cH g128)) 10 rfl tyS74 rfl q125 (aN h377).1 (aN h377).2.1) zU2,d1 0 (lE (C:=(cH g128)) (k:=1) 10 rfl rfl h377 rfl (.one tyO24) rfl) zU1,⟨rfl,.run (L:=[0,1]) ⟨fun G364 A=>fX 3 1 rfl rfl rfl rfl (.one tyO3),fun G364 A=>fX 3 1 rfl rfl rfl rfl (.one tyO3),trivial⟩ (fun G364=>zU1)⟩,d1 0 (fX 4 4 rfl rfl rfl rfl (.agg tyA32)) zU1,⟨rfl,.run (L:=[0,1]) ⟨fun G364 A=>fX 4 4 rfl rfl rfl rfl (.agg tyA32),fun G364 A=>fX 4 4 rfl rfl rfl rfl (.agg tyA32),trivial⟩ (fun G364=>zU1)⟩,d1 0 (gN (11+v370) rfl tyS24 (iC 11 rfl q131 q130 (q132 _ (aV h371))) (gZ q131 q130 (q132 _ (aV h371))) (aN h379).1 (aN h379).2.1) zU2,⟨rfl,.hvy [0] ⟨fun G364 A=>aDu (xV (H':=([⟨some b166,1,49,18,1,(aA.enc v164)⟩,hO aI.cod b159 c160 70 n161 v156,⟨some b155,1,91,2,1,(aC.enc v152)⟩,⟨some b154,1,3,1,1,[pI .i64 x133]⟩,⟨some b107,1,32,4,1,(eQ v105)⟩,⟨some ((G7 7).1.getD 0),1,24,1,1,[pO b100 n102 c101]⟩,⟨some b4,1,87,1,1,[pS aC.cod v2]⟩,⟨some b1,1,86,4,1,(aF.enc a0)⟩,hO cQ b100 c101 32 n102 v98,⟨some ((G7 6).1.getD 0),1,74,1,1,[pO b122 n124 c123]⟩,hO (cH g128) b122 c123 24 n124 x121]++f8 cQ 32 g128 (x127.set v370 x380))++A) (11+v370) rfl (iC 11 rfl q131 q130 (q132 _ (aV h371))) h379 h381 tyA32.s (hH:=stNA 11 rfl q131 q130 (q132 _ (aV h371)))),trivial⟩ (fun G364=>zU2)⟩,d1 1 (gN (11+v376) rfl tyS24 (iC 11 rfl (yW q131 q130 (q132 _ (aV h371)) (bK h381 rfl)) (uG q130) (q132 _ (aV h377))) (gZ (yW q131 q130 (q132 _ (aV h371)) (bK h381 rfl)) (uG q130) (q132 _ (aV h377))) (aN h384).1 (aN h384).2.1) zU2,trivial⟩ (fun bs365 G364=>?_)
    obtain⟨x386,h387,hF⟩:=aZ hF
    refine mR (xV (H':=([⟨some b166,1,49,18,1,(aA.enc v164)⟩,hO aI.cod b159 c160 70 n161 v156,⟨some b155,1,91,2,1,(aC.enc v152)⟩,⟨some b154,1,3,1,1,[pI .i64 x133]⟩,⟨some b107,1,32,4,1,(eQ v105)⟩,⟨some ((G7 7).1.getD 0),1,24,1,1,[pO b100 n102 c101]⟩,⟨some b4,1,87,1,1,[pS aC.cod v2]⟩,⟨some b1,1,86,4,1,(aF.enc a0)⟩,hO cQ b100 c101 32 n102 v98,⟨some ((G7 6).1.getD 0),1,74,1,1,[pO b122 n124 c123]⟩,hO (cH g128) b122 c123 24 n124 x121]++f8 cQ 32 g128 ((x127.set v370 x380).set v376 x386))) (11+v376) rfl (aAH 11 rfl (yW q131 q130 (q132 _ (aV h371)) (bK h381 rfl)) (uG q130) (q132 _ (aV h377))) h384 h387 tyA32.s (hH:=stN 11 rfl (yW q131 q130 (q132 _ (aV h371)) (bK h381 rfl)) (uG q130) (q132 _ (aV h377)))) zU2 ?_
    refine bT (aU (cR ?_))
    have hF:=sE h367 hF
    refine go ?_ ?_
    exact aM (fun a w hh=>⟨x121,((x127.set v370 x380).set v376 x386),v366,b122,c123,n124,g128,N129,hF,q125,(uG (uG q130)),(yW (yW q131 q130 (q132 _ (aV h371)) (bK h381 rfl)) (uG q130) (q132 _ (aV h377)) (bK h387 rfl)),q132,bR 11 [4,5,6,7,8,9,10] rfl rfl (by decide) (by exact⟨rfl,rfl,rfl,rfl,rfl,rfl,rfl,rfl,rfl,rfl,trivial⟩) hh⟩)
   refine iP (aA6 (aU (aF2 1 [13,57] rfl q162 zU2 rfl ?_)))
   refine aHq 2 [(11,0)] rfl zU1 rfl ?_
   obtain⟨x393,h394,hF⟩:=aZ hF
   obtain⟨v395,h396,hF⟩:=bF hF dP
   refine gT [0,0,0,4,12,28,0,126,0,511] 9 1 [.v (.vc (pF 99 [pP (some b4) 0,pP (some b1) 0])),.v (.va (aF.enc a0)),.v (.vc (pP (some b1) 0)),.v (.vc (pS aD.cod a0.dofs)),.v (.vc (pI .i64 (a0.dofs.length:Int))),.v (.vc (pS cQ x393)),.v (.vc (pS aI.cod v156)),.v (.vc (pS cQ v395)),.v (.vc (pF 102 [pP (some ((G7 6).1.getD 0)) 0,pM (cI.e x133)]))] bC ⟨d0 (bB (.inl rfl)) zU1,d0 (fX 5 4 rfl rfl rfl rfl (.agg tyA86)) zU1,d0 (iU (off:=0) (k:=0) rfl tyF86_0) zU1,d0 (fX 5 1 rfl rfl rfl rfl (.one tyO23)) zU1,d0 (uN rfl tyS23) zU1,d0 (aFa 0 (jB (C:=cQ) rfl tyS24 rfl tyZ32q h394) (fun _ _=>rfl) rfl (fun _ _=>rfl)) zU1,d0 (bB (.inl rfl)) zU1,d0 (cS rfl h396 rfl) ⟨rfl,rfl,rfl,trivial⟩,d0 (aGy (xs:=[.tmp 6,.tmp 11]) (cs:=[pP (some ((G7 6).1.getD 0)) 0,pM (cI.e x133)]) rfl rfl) zU2,trivial⟩ (fun bs392 G391=>?_)
   obtain⟨v397,h398,hF⟩:=aZ hF
   refine wK (f:=99) (cs:=[pP (some b4) 0,pP (some b1) 0]) (pre:=[.vc (pS cQ v395),.vc (pF 102 [pP (some ((G7 6).1.getD 0)) 0,pM (cI.e x133)])]) (xs:=[.tmp 176,.tmp 177]) 9 [7,4,5,8] [0,1,2,3,6] rfl (fQ h398 q125 q130 q131 q132) ⟨rfl,rfl,rfl,trivial⟩ rfl rfl rfl (by decide) ?_
   rintro _ _ ⟨b399,c400,n401,g404,N405,q402,q406,q407,q408,rfl,rfl⟩
   refine s8 (p8 [⟨some ((G7 6).1.getD 0),1,74,1,1,[pO b399 n401 c400]⟩,⟨some b4,1,87,1,1,[pS aC.cod v2]⟩,⟨some b1,1,86,4,1,(aF.enc a0)⟩,hO (cH g404) b399 c400 24 n401 v397.1] (f8 cQ 32 g404 v397.2) [⟨some b166,1,49,18,1,(aA.enc v164)⟩,⟨some b155,1,91,2,1,(aC.enc v152)⟩,⟨some b107,1,32,4,1,(eQ v105)⟩,⟨some ((G7 7).1.getD 0),1,24,1,1,[pO b100 n102 c101]⟩,hO cQ b100 c101 32 n102 v98]) ?_
   obtain⟨v410,h411,hF⟩:=aZ hF
   refine go ?_ ?_
   exact aM (fun a w hh=>⟨v397.1,v397.2,v410,b399,c400,n401,g404,N405,hF,q402,q406,q407,q408,bR 9 [6,7,1,2,8,0,3] rfl rfl (by decide) (by exact⟨rfl,rfl,rfl,rfl,rfl,rfl,rfl,rfl,rfl,rfl,trivial⟩) hh⟩)
  refine cR ?_
  obtain⟨rfl,rfl⟩:=sm2 hF
  exact lD Jj147 ⟨x121,x127,b122,c123,n124,g128,N129,hRl146,q125,q130,q131,q132,rfl,rfl⟩ 7 [1,4,5,6] rfl rfl zU2
 obtain⟨⟨x77',x83'⟩,hL,hRl89⟩:=aZ hF
 refine gB (fun k a w=>∃(x64:List Nat),∃(x70:List (List Rat)),∃(x76:Int),∃(b65:Option Nat),∃(c66:Nat),∃(n67:Nat),∃(g71:List u7),∃(N72:Nat),fO K v2 x10 k x64 x70 x76=some (x77',x83')∧x64.length=n67∧x70.length=N72∧iE g71 x70∧(∀k∈x64,k<N72)∧hs _ ([⟨some ((G7 7).1.getD 0),1,24,1,1,[pO ((G7 5).1) x13.length x13.length]⟩,⟨some ((G7 6).1.getD 0),1,74,1,1,[pO b65 n67 c66]⟩,hO cQ ((G7 5).1) x13.length 32 x13.length x13,hO (cH g71) b65 c66 24 n67 x64,⟨some b4,1,87,1,1,[pS aC.cod v2]⟩,⟨some b1,1,86,4,1,(aF.enc a0)⟩]++f8 cQ 32 g71 x70) [(1,.vc (pP (some b1) 0)),(4,.vc (pP (some b4) 0)),(5,.vc (pF 99 [pP (some b4) 0,pP (some b1) 0])),(6,.vc (pP (some ((G7 6).1.getD 0)) 0)),(7,.vc (pP (some ((G7 7).1.getD 0)) 0)),(25,.vc (pI .i64 (x10.length:Int))),(26,.vc (pI .i64 x76))] a w) K (fun a w ⟨_,_,_,_,_,_,_,_,hF,_,_,_,_,_⟩=>by cases hF) (fun k a w ⟨x64,x70,x76,b65,c66,n67,g71,N72,hF,q68,q73,q74,q75,hh⟩=>gC ?_ hh) (fun a w hh=>⟨x10,[([]:List Rat)],0,((G7 2).1),x10.length,x10.length,[(none,0,0)],1,hL,rfl,rfl,aNF,(aSA h11),bR 6 [0,1,2,3,4,5] rfl rfl (by decide) (by exact⟨rfl,rfl,rfl,rfl,rfl,rfl,rfl,trivial⟩) hh⟩)
 rw [fO.eq_2] at hF
 refine go ?_ ?_
 refine aJ hF rfl (fun h412 hF=>?_) (fun h412 hF=>?_)
 ·refine go ?_ ?_
  refine aS ?_
  have hF:=sE h14 hF
  obtain⟨v419,h420,hF⟩:=aZ hF
  refine go ?_ ?_
  refine sF (HsM [(0,fun G413=>([⟨some ((G7 7).1.getD 0),1,24,1,1,[pO ((G7 5).1) x13.length x13.length]⟩,⟨some ((G7 6).1.getD 0),1,74,1,1,[pO b65 n67 c66]⟩,hO cQ ((G7 5).1) x13.length 32 x13.length x13,hO (cH g71) b65 c66 24 n67 x64,⟨some b4,1,87,1,1,[pS aC.cod v2]⟩,⟨some b1,1,86,4,1,(aF.enc a0)⟩]++f8 cQ 32 g71 x70)),(1,fun G413=>([hO cQ ((G413 4).1) x13.length 32 x13.length x13,⟨some ((G7 7).1.getD 0),1,24,1,1,[pO ((G7 5).1) x13.length x13.length]⟩,⟨some ((G7 6).1.getD 0),1,74,1,1,[pO b65 n67 c66]⟩,hO cQ ((G7 5).1) x13.length 32 x13.length x13,hO (cH g71) b65 c66 24 n67 x64,⟨some b4,1,87,1,1,[pS aC.cod v2]⟩,⟨some b1,1,86,4,1,(aF.enc a0)⟩]++f8 cQ 32 g71 x70))]) [4] [0,0,0,4,12,31,63] 6 1 [.v (.vc (pO b65 n67 c66)),.v (.vc (pI .i64 x76)),.v (.vc (pS aC.cod v2)),.v (.vc (pI .i64 (v2.length:Int))),.g (fun b _=>.vc (pO b x13.length x13.length)),.v (.vc (pE b65 x76 (cH g71).n 0))] bC ⟨⟨rfl,.run (L:=[0,1]) ⟨fun G413 A=>fX 1 1 rfl rfl rfl rfl (.one tyO74),fun G413 A=>fX 2 1 rfl rfl rfl rfl (.one tyO74),trivial⟩ (fun G413=>zU1)⟩,⟨rfl,.run (L:=[0,1]) ⟨fun G413 A=>bB (.inl rfl),fun G413 A=>bB (.inl rfl),trivial⟩ (fun G413=>zU1)⟩,d1 0 (fX 4 1 rfl rfl rfl rfl (.one tyO87)) zU1,d1 0 (uN rfl tyS87) zU1,⟨rfl,.hvy [0] ⟨fun G413 A=>jB (C:=cQ) rfl tyS24 rfl tyZ32q h14,trivial⟩ (fun G413=>zU1)⟩,d1 1 (gN (C:=(cH g71)) 4 rfl tyS74 rfl q68 (aN h420).1 (aN h420).2.1) zU2,trivial⟩ (fun bs414 G413=>?_)
  obtain⟨x423,h424,hF⟩:=aZ hF
  refine aRc (show([hO cQ ((G413 4).1) x13.length 32 x13.length x13,⟨some ((G7 7).1.getD 0),1,24,1,1,[pO ((G7 5).1) x13.length x13.length]⟩,⟨some ((G7 6).1.getD 0),1,74,1,1,[pO b65 n67 c66]⟩,hO cQ ((G7 5).1) x13.length 32 x13.length x13,hO (cH (g71++[((G413 4).1,x13.length,x13.length)])) b65 c66 24 n67 x64,⟨some b4,1,87,1,1,[pS aC.cod v2]⟩,⟨some b1,1,86,4,1,(aF.enc a0)⟩]++f8 cQ 32 g71 x70)=([hO cQ ((G413 4).1) x13.length 32 x13.length x13,⟨some ((G7 7).1.getD 0),1,24,1,1,[pO ((G7 5).1) x13.length x13.length]⟩,⟨some ((G7 6).1.getD 0),1,74,1,1,[pO b65 n67 c66]⟩,hO cQ ((G7 5).1) x13.length 32 x13.length x13,hO (cH g71) b65 c66 24 n67 x64,⟨some b4,1,87,1,1,[pS aC.cod v2]⟩,⟨some b1,1,86,4,1,(aF.enc a0)⟩]++f8 cQ 32 g71 x70) from by rw [aIq (N:=x70.length) ((G413 4).1,x13.length,x13.length) q74.1 (aDO q73 q75)]) ?_
  refine mR (xV (C:=cH (g71++[((G413 4).1,x13.length,x13.length)])) (z':=x70.length) 4 rfl rfl h420 h424 tyO24.s (hq:=aKh ((G413 4).1,x13.length,x13.length) q74.1)) zU2 ?_
  refine aEB (g:=((G413 4).1,x13.length,x13.length)) 0 7 rfl rfl rfl q74 ?_
  obtain⟨v427,h428,hF⟩:=aZ hF
  refine go ?_ ?_
  exact aM (fun a w hh=>⟨x423,(x70++[x13]),v427,b65,c66,n67,(g71++[((G413 4).1,x13.length,x13.length)]),(N72+1),hF,(bK h424 q68),(aEC q73),(aAG q74 rfl),(uJ q75 h424 q73),bR 6 [0,1,2,3,4,5] rfl rfl (by decide) (by exact⟨rfl,rfl,rfl,rfl,rfl,rfl,rfl,trivial⟩) hh⟩)
 refine cR ?_
 obtain⟨rfl,rfl⟩:=sm2 hF
 exact lD Jj90 ⟨x64,x70,b65,c66,n67,g71,N72,hRl89,q68,q73,q74,q75,rfl,rfl⟩ 6 [0,1,2,3,4,5] rfl rfl ⟨rfl,rfl,rfl,rfl,rfl,trivial⟩
def uL (K:Nat) (a0:List aD) (a1:List Rat) (a2:List Rat) (a3:List aA) (x33:List aI):Option ((List Rat)×(List aI)×Int):=
 (bQ K (⟨a0,a1,a2,a3⟩:aF) a1 x33).bind fun v41=>some (v41,x33,0)
def dM (K:Nat) (a0:List aD) (a1:List Rat) (a2:List Rat) (a3:List aA) (v5:List aC) (v10:aW×Int):Nat→(List aI)→Int→Option (List aI)
 |0,_,_=>none
 |k+1,x26,x32=>bif(decide (x32<(v5.length:Int))) then((bL v5 x32).bind fun v44=>(bL x26 v44.row).bind fun v47=>bif(v44.kind==0) then((bL v10.1.z x32).bind fun v50=>(oO x26 v44.row (⟨v50,v47.f⟩:aI)).bind fun x52=>(bL a3 v44.row).bind fun v55=>bif(decide (0<(v55.t.length:Int))) then((bL x52 v44.row).bind fun v61=>(kZ K (⟨a0,a1,a2,a3⟩:aF) v55 v61.n).bind fun v63=>(bL x52 v44.row).bind fun v65=>(oO x52 v44.row (⟨v65.n,v63⟩:aI)).bind fun x67=>(aT (x32+1)).bind fun v70=>dM K a0 a1 a2 a3 v5 v10 k x67 v70) else((aT (x32+1)).bind fun v72=>dM K a0 a1 a2 a3 v5 v10 k x52 v72)) else(bif(v44.kind==1) then((bL v10.1.z x32).bind fun v77=>(aAJ v47.f v77).bind fun v79=>(oO x26 v44.row (⟨v47.n,v79⟩:aI)).bind fun x81=>(aT (x32+1)).bind fun v84=>dM K a0 a1 a2 a3 v5 v10 k x81 v84) else(bif(v44.kind==2) then((bL v10.1.z x32).bind fun v89=>(aEl v47.f v89).bind fun v91=>(oO x26 v44.row (⟨v47.n,v91⟩:aI)).bind fun x93=>(aT (x32+1)).bind fun v96=>dM K a0 a1 a2 a3 v5 v10 k x93 v96) else((aT (x32+1)).bind fun v98=>dM K a0 a1 a2 a3 v5 v10 k x26 v98)))) else(some x26)
def lZ (K:Nat) (a0:List aD) (a1:List Rat) (a2:List Rat) (a3:List aA):Option ((List Rat)×(List aI)×Int):=
 (qJ K (⟨a0,a1,a2,a3⟩:aF)).bind fun v2=>bif(!v2) then(some ([],[],1)) else((kE K (⟨a0,a1,a2,a3⟩:aF)).bind fun v5=>bif(decide (32<(v5.length:Int))) then(some ([],[],4)) else((nC K (⟨a0,a1,a2,a3⟩:aF)).bind fun v8=>(nZ K v8.1 v8.2 4096).bind fun v10=>bif(v10.2 != 0) then(some ([],[],v10.2)) else((yJ (a3.length:Int) (⟨0,0⟩:aI)).bind fun x14=>(dM K a0 a1 a2 a3 v5 v10 K x14 0).bind fun x33=>uL K a0 a1 a2 a3 x33)))
theorem aCu {K:Nat} {a0:List aD} {a1:List Rat} {a2:List Rat} {a3:List aA} {r:(List Rat)×(List aI)×Int} (hF:lZ K a0 a1 a2 a3=some r):Ct Tryz.prog 12 [.vc (pS aD.cod a0),.vc (pS cQ a1),.vc (pS cQ a2),.vc (pS aA.cod a3)] (.t3 (.vc (pS cQ r.1)) (.vc (pS aI.cod r.2.1)) (.vc (pI .i64 r.2.2))):=by
 unfold lZ at hF
 refine aG Tryz.func12 rfl (by kernel_rfl) Tryz.ntmps12 rfl (fun w0 M0=>?_)
 refine aK (aR (aQ (bB (.inr rfl)) ⟨dA cQ,trivial⟩ ?_))
 refine aQ (bB (.inr rfl)) ⟨dA aI.cod,trivial⟩ ?_
 refine go ?_ ?_
 refine aQ (dY (is:=[0,1,2,3]) (xs:=[.tmp 22,.tmp 23,.tmp 24,.tmp 25]) (ps:=[.vc (pS aD.cod a0),.vc (pS cQ a1),.vc (pS cQ a2),.vc (pS aA.cod a3)]) rfl tyB86q rfl rfl ⟨trivial,trivial,trivial,trivial,trivial⟩ rfl) ⟨rfl,rfl,rfl,rfl,trivial⟩ ?_
 refine aO rfl tyZ86q (fun b1=>?_)
 obtain⟨v2,h3,hF⟩:=bF hF aDd
 refine go ?_ ?_
 refine aJ hF rfl (fun h4 hF=>?_) (fun h4 hF=>?_)
 ·refine aK (aR (aQ (bB (.inr rfl)) ⟨dA cQ,trivial⟩ ?_))
  refine aQ (bB (.inr rfl)) ⟨dA aI.cod,trivial⟩ ?_
  exact cF
 obtain⟨v5,h6,hF⟩:=bF hF xC
 refine go ?_ ?_
 refine aJ hF rfl (fun h7 hF=>?_) (fun h7 hF=>?_)
 ·refine aK (aR (aQ (bB (.inr rfl)) ⟨dA cQ,trivial⟩ ?_))
  refine aQ (bB (.inr rfl)) ⟨dA aI.cod,trivial⟩ ?_
  exact cF
 obtain⟨v8,h9,hF⟩:=bF hF aBL
 obtain⟨v10,h11,hF⟩:=bF hF aDe
 refine go ?_ ?_
 refine aO rfl tyZ78q (fun b12=>?_)
 refine go ?_ ?_
 refine aJ hF rfl (fun h13 hF=>?_) (fun h13 hF=>?_)
 ·refine go ?_ ?_
  refine aQ (bB (.inr rfl)) ⟨dA cQ,trivial⟩ ?_
  refine aQ (bB (.inr rfl)) ⟨dA aI.cod,trivial⟩ ?_
  exact cF
 obtain⟨x14,h15,hF⟩:=aZ hF
 refine go ?_ ?_
 refine uV (C:=aI.cod) (z:=(⟨0,0⟩:aI)) rfl tyS50 rfl tyZ70q rfl h15 (fun b16=>?_)
 refine go ?_ ?_
 refine aS (bV (fun H E=>∃(x33:List aI),uL K a0 a1 a2 a3 x33=some r∧x33.length=x14.length∧H=[hO aI.cod b16 x14.length 70 x14.length x33,⟨some b1,1,86,4,1,([pS aD.cod a0]++[pS cQ a1]++[pS cQ a2]++[pS aA.cod a3])⟩]∧E=[(1,.vc (pS cQ a1)),(11,.vc (pP (some b1) 0)),(17,.vc (pO b16 x14.length x14.length))]) ?_ (fun Jj40=>?_))
 ·rintro _ _ ⟨x33,hF,q37,rfl,rfl⟩
  unfold uL at hF
  refine aU (aK (aR (aQ (fX 1 4 rfl rfl rfl rfl (.agg tyA86)) zU1 ?_)))
  refine lH ?_
  refine lH ?_
  refine zQ 0 [17,127] rfl q37 zU2 rfl ?_
  obtain⟨v41,h42,hF⟩:=bF hF dP
  exact cF
 obtain⟨x33',hL,hRl39⟩:=aZ hF
 refine gB (fun k a w=>∃(x26:List aI),∃(x32:Int),dM K a0 a1 a2 a3 v5 v10 k x26 x32=some x33'∧x26.length=x14.length∧hs _ [hO aI.cod b16 x14.length 70 x14.length x26,⟨some b12,1,78,3,1,(aW.enc v10.1)⟩,⟨some b1,1,86,4,1,([pS aD.cod a0]++[pS cQ a1]++[pS cQ a2]++[pS aA.cod a3])⟩] [(1,.vc (pS cQ a1)),(3,.vc (pS aA.cod a3)),(11,.vc (pP (some b1) 0)),(15,.vc (pP (some b12) 0)),(17,.vc (pO b16 x14.length x14.length)),(52,.vc (pS aC.cod v5)),(53,.vc (pI .i64 (v5.length:Int))),(54,.vc (pI .i64 x32))] a w) K (fun a w ⟨_,_,hF,_,_⟩=>by cases hF) (fun k a w ⟨x26,x32,hF,q30,hh⟩=>gC ?_ hh) (fun a w hh=>⟨x14,0,hL,rfl,gJ [0,1,2] hh⟩)
 rw [dM.eq_2] at hF
 refine go ?_ ?_
 refine aJ hF rfl (fun h43 hF=>?_) (fun h43 hF=>?_)
 ·refine go ?_ ?_
  refine aS ?_
  obtain⟨v44,h45,hF⟩:=aZ hF
  refine go ?_ ?_
  refine aO rfl tyZ91q (fun b46=>?_)
  obtain⟨v47,h48,hF⟩:=aZ hF
  refine go ?_ ?_
  refine aS (go ?_ ?_)
  refine aJ hF rfl (fun h49 hF=>?_) (fun h49 hF=>?_)
  ·obtain⟨v50,h51,x52,h53,v55,h56,hF⟩:=bn3 hF
   refine go ?_ ?_
   refine aO rfl tyZ49q (fun b57=>?_)
   refine go ?_ ?_
   refine aJ hF rfl (fun h58 hF=>?_) (fun h58 hF=>?_)
   ·obtain⟨v61,h62,hF⟩:=aZ hF
    obtain⟨v63,h64,hF⟩:=bF hF xM
    refine dr [0,0,0,0,8,24,56,126,255,511,1023] 10 1 ?_ (fun bs60 G59=>?_)
    have hF:=sE h62 hF
    obtain⟨x67,h68,v70,h71,hF⟩:=wP hF
    refine go ?_ ?_
    exact aM (fun a w hh=>⟨x67,v70,hF,(bK h68 (bK h53 q30)),gJ [2,3,4] hh⟩)
   obtain⟨v72,h73,hF⟩:=aZ hF
   refine go ?_ ?_
   exact aM (fun a w hh=>⟨x52,v72,hF,(bK h53 q30),gJ [2,3,4] hh⟩)
  refine go ?_ ?_
  refine aJ hF rfl (fun h74 hF=>?_) (fun h74 hF=>?_)
  ·obtain⟨v77,h78,hF⟩:=aZ hF
   obtain⟨v79,h80,hF⟩:=bF hF uR
   refine dr [0,0,2,6,14,0,32,0,224,480,1022,2047,4095,8191] 13 1 ?_ (fun bs76 G75=>?_)
   obtain⟨x81,h82,v84,h85,hF⟩:=wP hF
   refine go ?_ ?_
   exact aM (fun a w hh=>⟨x81,v84,hF,(bK h82 q30),gJ [1,2,3] hh⟩)
  refine go ?_ ?_
  refine aJ hF rfl (fun h86 hF=>?_) (fun h86 hF=>?_)
  ·obtain⟨v89,h90,hF⟩:=aZ hF
   obtain⟨v91,h92,hF⟩:=bF hF zA
   refine dr [0,0,2,6,14,0,32,0,224,480,1022,2047,4095,8191] 13 1 ?_ (fun bs88 G87=>?_)
   obtain⟨x93,h94,v96,h97,hF⟩:=wP hF
   refine go ?_ ?_
   exact aM (fun a w hh=>⟨x93,v96,hF,(bK h94 q30),gJ [1,2,3] hh⟩)
  obtain⟨v98,h99,hF⟩:=aZ hF
  refine go ?_ ?_
  exact aM (fun a w hh=>⟨x26,v98,hF,q30,gJ [1,2,3] hh⟩)
 refine cR ?_
 obtain rfl:=pZ hF
 exact qZ Jj40 ⟨x26,hRl39,q30,rfl,rfl⟩ [0,2]
def wS (K:Nat) (x7:Rat):Option Rat:=
 some x7
def vH (K:Nat) (x6:Int) (recl8:Rat→Int→Option Rat) (x18:Rat):Option Rat:=
 (aT (x6+1)).bind fun v21=>recl8 x18 v21
def nX (K:Nat) (v11:aP):Nat→Rat→Int→Option Rat
 |0,_,_=>none
 |k+1,x16,x17=>bif(decide (x17<v11.n)) then((v11.of x17).bind fun v26=>(aAJ x16 v26).bind fun v28=>(aT (x17+1)).bind fun v30=>nX K v11 k v28 v30) else(some x16)
def mS (K:Nat) (a0:List aP):Nat→Rat→Int→Option Rat
 |0,_,_=>none
 |k+1,x5,x6=>bif(decide (x6<(a0.length:Int))) then((bL a0 x6).bind fun v11=>(nX K v11 K x5 0).bind fun x18=>vH K x6 (mS K a0 k) x18) else(some x5)
def pX (K:Nat) (a0:List aP):Option Rat:=
 (mS K a0 K 0 0).bind fun x7=>wS K x7
theorem wB {K:Nat} {a0:List aP} {r:Rat} (hF:pX K a0=some r):Ct Tryz.prog 44 [.vc (pS aP.cod a0)] (.va (eQ r)):=by
 unfold pX at hF
 refine aG Tryz.func44 rfl (by kernel_rfl) Tryz.ntmps44 rfl (fun w0 M0=>?_)
 refine aK (aR (aO rfl tyZ32q (fun b1=>?_)))
 refine go ?_ ?_
 refine aO rfl tyZ32q (fun b2=>?_)
 refine go ?_ ?_
 refine aS (bV (fun H E=>∃(x7:Rat),wS K x7=some r∧H=[⟨some b2,1,32,4,1,(eQ x7)⟩,⟨some b1,1,32,4,1,(eQ 0)⟩]∧E=[(2,.vc (pP (some b1) 0)),(3,.vc (pP (some b2) 0))]) ?_ (fun Jj9=>?_))
 ·rintro _ _ ⟨x7,hF,rfl,rfl⟩
  unfold wS at hF
  exact cF
 obtain⟨x7',hL,hRl8⟩:=aZ hF
 refine gB (fun k a w=>∃(x5:Rat),∃(x6:Int),mS K a0 k x5 x6=some x7'∧hs _ [⟨some b2,1,32,4,1,(eQ x5)⟩,⟨some b1,1,32,4,1,(eQ 0)⟩] [(2,.vc (pP (some b1) 0)),(3,.vc (pP (some b2) 0)),(7,.vc (pS aP.cod a0)),(8,.vc (pI .i64 (a0.length:Int))),(9,.vc (pI .i64 x6))] a w) K (fun a w ⟨_,_,hF,_⟩=>by cases hF) (fun k a w ⟨x5,x6,hF,hh⟩=>gC ?_ hh) (fun a w hh=>⟨0,0,hL,gJ [0,1] hh⟩)
 rw [mS.eq_2] at hF
 refine go ?_ ?_
 refine aJ hF rfl (fun h10 hF=>?_) (fun h10 hF=>?_)
 ·refine go ?_ ?_
  refine aS ?_
  obtain⟨v11,h12,hF⟩:=aZ hF
  refine go ?_ ?_
  refine aO rfl tyZ98q (fun b13=>?_)
  refine go ?_ ?_
  refine aS (bV (fun H E=>∃(x18:Rat),vH K x6 (mS K a0 k) x18=some x7'∧H=[⟨some b2,1,32,4,1,(eQ x18)⟩,⟨some b1,1,32,4,1,(eQ 0)⟩]∧E=[(2,.vc (pP (some b1) 0)),(3,.vc (pP (some b2) 0)),(7,.vc (pS aP.cod a0)),(8,.vc (pI .i64 (a0.length:Int))),(9,.vc (pI .i64 x6))]) ?_ (fun Jj20=>?_))
  ·rintro _ _ ⟨x18,hF,rfl,rfl⟩
   unfold vH at hF
   obtain⟨v21,h22,hF⟩:=aZ hF
   refine go ?_ ?_
   exact aM (fun a w hh=>⟨x18,v21,hF,gJ [0,1] hh⟩)
  obtain⟨x18',hL,hRl19⟩:=aZ hF
  refine gB (fun k a w=>∃(x16:Rat),∃(x17:Int),nX K v11 k x16 x17=some x18'∧hs _ [⟨some b13,1,98,2,1,(aP.enc v11)⟩,⟨some b2,1,32,4,1,(eQ x16)⟩,⟨some b1,1,32,4,1,(eQ 0)⟩] [(2,.vc (pP (some b1) 0)),(3,.vc (pP (some b2) 0)),(5,.vc (pP (some b13) 0)),(7,.vc (pS aP.cod a0)),(8,.vc (pI .i64 (a0.length:Int))),(9,.vc (pI .i64 x6)),(14,.vc (pI .i64 v11.n)),(15,.vc (pI .i64 x17))] a w) K (fun a w ⟨_,_,hF,_⟩=>by cases hF) (fun k a w ⟨x16,x17,hF,hh⟩=>gC ?_ hh) (fun a w hh=>⟨x5,0,hL,gJ [0,1,2] hh⟩)
  rw [nX.eq_2] at hF
  refine go ?_ ?_
  refine aJ hF rfl (fun h23 hF=>?_) (fun h23 hF=>?_)
  ·refine go ?_ ?_
   refine aS ?_
   obtain⟨v26,h27,hF⟩:=aZ hF
   obtain⟨v28,h29,hF⟩:=bF hF uR
   refine go ?_ ?_
   refine gT [0,0,2,0,14,31,63] 6 1 [.v (.va (eQ x16)),.v (.vc (pP (some b13) 1)),.v (.vc (pFn Tryz.prog (fun x:Int=>[.vc (pI .i64 x)]) (fun r:Rat=>.va (eQ r)) v11.of)),.v (.vc (pI .i64 x17)),.v (.va (eQ v26)),.v (.va (eQ v28))] bC ⟨d0 (fX 1 4 rfl rfl rfl rfl (.agg tyA32)) zU1,d0 (iU (off:=0) (k:=1) rfl tyF98_1) zU1,d0 (fX 0 1 rfl rfl rfl rfl (.one tyO33)) zU1,d0 (bB (.inl rfl)) zU1,d0 (aC7 (pre:=fun x:Int=>[.vc (pI .i64 x)]) (post:=fun r:Rat=>.va (eQ r)) (x:=x17) (r:=v26) rfl h27 rfl) zU2,d0 (cS rfl h29 rfl) zU2,trivial⟩ (fun bs25 G24=>?_)
   obtain⟨v30,h31,hF⟩:=aZ hF
   refine go ?_ ?_
   exact aM (fun a w hh=>⟨v28,v30,hF,gJ [0,1,2] hh⟩)
  refine cR ?_
  obtain rfl:=pZ hF
  exact qZ Jj20 ⟨x16,hRl19,rfl,rfl⟩ [1,2]
 refine cR ?_
 obtain rfl:=pZ hF
 exact qZ Jj9 ⟨x5,hRl8,rfl,rfl⟩ [0,1]
def f7 (c0:List Rat) (c1:List aD) (a0:Int):Option Rat:=
 (bL c0 a0).bind fun v4=>(bL c0 a0).bind fun v6=>(zR v4 v6).bind fun v8=>(bL c1 a0).bind fun v10=>(aFz v8 v10.inv).bind fun v12=>some v12
theorem aDg {c0:List Rat} {c1:List aD} {a0:Int} {r:Rat} (hF:f7 c0 c1 a0=some r):Ct Tryz.prog 104 [.vc (pI .i64 a0),.vc (pM ((kK cQ).e c0)),.vc (pM ((kK aD.cod).e c1))] (.va (eQ r)):=by
 unfold f7 at hF
 refine aG Tryz.func104 rfl (by kernel_rfl) Tryz.ntmps104 rfl (fun w0 M0=>?_)
 refine aK (aR (aO rfl tyZ32q (fun b1=>?_)))
 obtain⟨v4,h5,hF⟩:=aZ hF
 have hF:=sE h5 hF
 obtain⟨v8,h9,hF⟩:=bF hF mI
 obtain⟨v10,h11,hF⟩:=aZ hF
 obtain⟨v12,h13,hF⟩:=bF hF yY
 refine go ?_ ?_
 refine dr [0,0,3,7,0,0,48,112,255,0,0,1536,3584,7680,16383,32767] 15 1 ?_ (fun bs3 G2=>?_)
 exact cF
def nS (a0:List aD) (a1:List Rat):Option aP:=
 some (⟨(a0.length:Int),(f7 a1 a0)⟩:aP)
theorem xW {a0:List aD} {a1:List Rat} {r:aP} (hF:nS a0 a1=some r):Ct Tryz.prog 45 [.vc (pS aD.cod a0),.vc (pS cQ a1)] (.va (aP.enc r)):=by
 unfold nS at hF
 refine aG Tryz.func45 rfl (by kernel_rfl) Tryz.ntmps45 rfl (fun w0 M0=>?_)
 refine aK (aR (cC rfl rfl trivial (fun b1=>?_)))
 refine cC rfl rfl trivial (fun b2=>?_)
 refine aO rfl tyZ98q (fun b3=>?_)
 refine bT (aU (aK (aR (aQ (fX 2 1 rfl rfl rfl rfl (.one tyO23)) zU1 ?_))))
 refine aQ (uN rfl tyS23) zU1 ?_
 refine yO 1 [(3,0)] rfl zU1 rfl ?_
 refine yO 1 [(2,0)] rfl zU1 rfl ?_
 refine aQ (aEL (φ:=(f7 a1 a0)) (pre:=fun x:Int=>[.vc (pI .i64 x)]) (post:=fun r:Rat=>.va (eQ r)) (xs:=[.tmp 3,.tmp 2]) (cs:=[pM ((kK cQ).e a1),pM ((kK aD.cod).e a0)]) rfl rfl (fun x r h=>aDg h)) zU2 ?_
 refine aQ (dY (is:=[0,1]) (xs:=[.tmp 6,.tmp 7]) (ps:=[.vc (pI .i64 (a0.length:Int)),.vc (pFn Tryz.prog (fun x:Int=>[.vc (pI .i64 x)]) (fun r:Rat=>.va (eQ r)) (f7 a1 a0))]) rfl tyB98q rfl rfl ⟨trivial,trivial,trivial⟩ rfl) zU2 ?_
 exact cF
def rB (a0:Rat) (a1:Rat):Option Rat:=
 (qof 2 1).bind fun v6=>(zR a0 a1).bind fun v8=>(zR v6 v8).bind fun v10=>some v10
theorem aBy {a0:Rat} {a1:Rat} {r:Rat} (hF:rB a0 a1=some r):Ct Tryz.prog 107 [.va (eQ a0),.va (eQ a1)] (.va (eQ r)):=by
 unfold rB at hF
 refine aG Tryz.func107 rfl (by kernel_rfl) Tryz.ntmps107 rfl (fun w0 M0=>?_)
 refine aK (aR (cC rfl rfl trivial (fun b1=>?_)))
 refine cC rfl rfl trivial (fun b2=>?_)
 refine aO rfl tyZ32q (fun b3=>?_)
 obtain⟨v6,h7,hF⟩:=bF hF xE
 obtain⟨v8,h9,hF⟩:=bF hF mI
 obtain⟨v10,h11,hF⟩:=bF hF mI
 refine go ?_ ?_
 refine dr [0,0,0,7,15,31] 5 1 ?_ (fun bs5 G4=>?_)
 exact cF
def iA (c0:List aD) (c1:List Rat) (a0:Int):Option Rat:=
 (bL c0 a0).bind fun v4=>(bL c1 a0).bind fun v6=>(rB v4.load v6).bind fun v8=>(aEz v8).bind fun v10=>some v10
theorem aDD {c0:List aD} {c1:List Rat} {a0:Int} {r:Rat} (hF:iA c0 c1 a0=some r):Ct Tryz.prog 106 [.vc (pI .i64 a0),.vc (pM ((kK aD.cod).e c0)),.vc (pM ((kK cQ).e c1))] (.va (eQ r)):=by
 unfold iA at hF
 refine aG Tryz.func106 rfl (by kernel_rfl) Tryz.ntmps106 rfl (fun w0 M0=>?_)
 refine aK (aR (aO rfl tyZ32q (fun b1=>?_)))
 obtain⟨v4,h5,v6,h7,hF⟩:=wP hF
 obtain⟨v8,h9,hF⟩:=bF hF aBy
 obtain⟨v10,h11,hF⟩:=bF hF tL
 refine go ?_ ?_
 refine dr [0,0,3,7,15,0,0,96,224,511,1023,2047] 11 1 ?_ (fun bs3 G2=>?_)
 exact cF
def o9 (a0:List aD) (a1:List Rat):Option aP:=
 some (⟨(a0.length:Int),(iA a0 a1)⟩:aP)
theorem yX {a0:List aD} {a1:List Rat} {r:aP} (hF:o9 a0 a1=some r):Ct Tryz.prog 46 [.vc (pS aD.cod a0),.vc (pS cQ a1)] (.va (aP.enc r)):=by
 unfold o9 at hF
 refine aG Tryz.func46 rfl (by kernel_rfl) Tryz.ntmps46 rfl (fun w0 M0=>?_)
 refine aK (aR (cC rfl rfl trivial (fun b1=>?_)))
 refine cC rfl rfl trivial (fun b2=>?_)
 refine aO rfl tyZ98q (fun b3=>?_)
 refine bT (aU (aK (aR (aQ (fX 2 1 rfl rfl rfl rfl (.one tyO23)) zU1 ?_))))
 refine aQ (uN rfl tyS23) zU1 ?_
 refine yO 2 [(2,0)] rfl zU1 rfl ?_
 refine yO 1 [(3,0)] rfl zU1 rfl ?_
 refine aQ (aEL (φ:=(iA a0 a1)) (pre:=fun x:Int=>[.vc (pI .i64 x)]) (post:=fun r:Rat=>.va (eQ r)) (xs:=[.tmp 2,.tmp 3]) (cs:=[pM ((kK aD.cod).e a0),pM ((kK cQ).e a1)]) rfl rfl (fun x r h=>aDD h)) zU2 ?_
 refine aQ (dY (is:=[0,1]) (xs:=[.tmp 6,.tmp 7]) (ps:=[.vc (pI .i64 (a0.length:Int)),.vc (pFn Tryz.prog (fun x:Int=>[.vc (pI .i64 x)]) (fun r:Rat=>.va (eQ r)) (iA a0 a1))]) rfl tyB98q rfl rfl ⟨trivial,trivial,trivial⟩ rfl) zU2 ?_
 exact cF
def lC (c0:List Rat) (c1:a8) (c2:a8) (a0:Int):Option Rat:=
 (bL c0 a0).bind fun v4=>(bL c1.q a0).bind fun v6=>(bL c2.q a0).bind fun v8=>(aEl v6 v8).bind fun v10=>(rB v4 v10).bind fun v12=>some v12
theorem aE7 {c0:List Rat} {c1:a8} {c2:a8} {a0:Int} {r:Rat} (hF:lC c0 c1 c2 a0=some r):Ct Tryz.prog 108 [.vc (pI .i64 a0),.vc (pM ((kK cQ).e c0)),.vc (pM (a8.cod.e c1)),.vc (pM (a8.cod.e c2))] (.va (eQ r)):=by
 unfold lC at hF
 refine aG Tryz.func108 rfl (by kernel_rfl) Tryz.ntmps108 rfl (fun w0 M0=>?_)
 refine aK (aR (aO rfl tyZ32q (fun b1=>?_)))
 obtain⟨v4,h5,v6,h7,v8,h9,hF⟩:=bn3 hF
 obtain⟨v10,h11,hF⟩:=bF hF zA
 obtain⟨v12,h13,hF⟩:=bF hF aBy
 refine go ?_ ?_
 refine dr [0,0,3,7,0,16,0,112,240,0,512,0,3584,7680,16368,32767,65535] 16 1 ?_ (fun bs3 G2=>?_)
 exact cF
def zF (a0:List Rat) (a1:a8) (a2:a8):Option aP:=
 some (⟨(a0.length:Int),(lC a0 a2 a1)⟩:aP)
theorem aGM {a0:List Rat} {a1:a8} {a2:a8} {r:aP} (hF:zF a0 a1 a2=some r):Ct Tryz.prog 47 [.vc (pS cQ a0),.va (a8.enc a1),.va (a8.enc a2)] (.va (aP.enc r)):=by
 unfold zF at hF
 refine aG Tryz.func47 rfl (by kernel_rfl) Tryz.ntmps47 rfl (fun w0 M0=>?_)
 refine aK (aR (cC rfl rfl trivial (fun b1=>?_)))
 refine cC rfl rfl trivial (fun b2=>?_)
 refine cC rfl rfl trivial (fun b3=>?_)
 refine aO rfl tyZ98q (fun b4=>?_)
 refine bT (aU (aK (aR (aQ (fX 3 1 rfl rfl rfl rfl (.one tyO24)) zU1 ?_))))
 refine aQ (uN rfl tyS24) zU1 ?_
 refine yO 3 [(3,0)] rfl zU1 rfl ?_
 refine yO 1 [(5,0)] rfl zU1 rfl ?_
 refine yO 1 [(4,0)] rfl zU1 rfl ?_
 refine aQ (aEL (φ:=(lC a0 a2 a1)) (pre:=fun x:Int=>[.vc (pI .i64 x)]) (post:=fun r:Rat=>.va (eQ r)) (xs:=[.tmp 3,.tmp 5,.tmp 4]) (cs:=[pM ((kK cQ).e a0),pM (a8.cod.e a2),pM (a8.cod.e a1)]) rfl rfl (fun x r h=>aE7 h)) ⟨rfl,rfl,rfl,trivial⟩ ?_
 refine aQ (dY (is:=[0,1]) (xs:=[.tmp 8,.tmp 9]) (ps:=[.vc (pI .i64 (a0.length:Int)),.vc (pFn Tryz.prog (fun x:Int=>[.vc (pI .i64 x)]) (fun r:Rat=>.va (eQ r)) (lC a0 a2 a1))]) rfl tyB98q rfl rfl ⟨trivial,trivial,trivial⟩ rfl) zU2 ?_
 exact cF
def uO (K:Nat) (a0:kY) (a1:a8):Option Rat:=
 (nS a0.dofs a1.v).bind fun v6=>(o9 a0.dofs a1.q).bind fun v8=>(pX K [v6,v8]).bind fun v10=>some v10
theorem aFx {K:Nat} {a0:kY} {a1:a8} {r:Rat} (hF:uO K a0 a1=some r):Ct Tryz.prog 48 [.va (kY.enc a0),.va (a8.enc a1)] (.va (eQ r)):=by
 unfold uO at hF
 refine aG Tryz.func48 rfl (by kernel_rfl) Tryz.ntmps48 rfl (fun w0 M0=>?_)
 refine aK (aR (cC rfl rfl trivial (fun b1=>?_)))
 refine cC rfl rfl trivial (fun b2=>?_)
 refine aO rfl tyZ32q (fun b3=>?_)
 obtain⟨v6,h7,hF⟩:=bF hF xW
 obtain⟨v8,h9,hF⟩:=bF hF yX
 obtain⟨v10,h11,hF⟩:=bF hF wB
 refine go ?_ ?_
 refine gT [0,1,0,4,15,0,32,0,128,511,1023,2047,4095] 12 1 [.v (.vc (pP (some b1) 0)),.v (.vc (pS aD.cod a0.dofs)),.v (.vc (pP (some b2) 2)),.v (.vc (pS cQ a1.v)),.v (.va (aP.enc v6)),.v (.vc (pP (some b1) 0)),.v (.vc (pS aD.cod a0.dofs)),.v (.vc (pP (some b2) 1)),.v (.vc (pS cQ a1.q)),.v (.va (aP.enc v8)),.v (.vc (pS aP.cod [v6,v8])),.v (.va (eQ v10))] bC ⟨d0 (iU (off:=0) (k:=0) rfl tyF46_0) zU1,d0 (fX 2 1 rfl rfl rfl rfl (.one tyO23)) zU1,d0 (iU (off:=0) (k:=2) rfl tyF41_2) zU1,d0 (fX 1 1 rfl rfl rfl rfl (.one tyO24)) zU1,d0 (cS rfl h7 rfl) zU2,d0 (iU (off:=0) (k:=0) rfl tyF46_0) zU1,d0 (fX 2 1 rfl rfl rfl rfl (.one tyO23)) zU1,d0 (iU (off:=0) (k:=1) rfl tyF41_1) zU1,d0 (fX 1 1 rfl rfl rfl rfl (.one tyO24)) zU1,d0 (cS rfl h9 rfl) zU2,d0 (oM (C:=aP.cod) (xs:=[.tmp 9,.tmp 14]) (ps:=[.va (aP.enc v6),.va (aP.enc v8)]) (zs:=[v6,v8]) rfl tyS150 rfl ⟨⟨trivial,rfl⟩,⟨trivial,rfl⟩,trivial⟩ rfl) zU2,d0 (cS rfl h11 rfl) zU1,trivial⟩ (fun bs5 G4=>?_)
 exact cF
def tR (K:Nat) (a0:kY) (a1:List Rat) (a2:a8) (a3:a8):Option Rat:=
 (nS a0.dofs a2.v).bind fun v7=>(o9 a0.dofs a2.q).bind fun v9=>(zF a1 a2 a3).bind fun v11=>(pX K [v7,v9,v11]).bind fun v13=>(uO K a0 a3).bind fun v15=>(aEl v13 v15).bind fun v17=>some v17
theorem aCp {K:Nat} {a0:kY} {a1:List Rat} {a2:a8} {a3:a8} {r:Rat} (hF:tR K a0 a1 a2 a3=some r):Ct Tryz.prog 14 [.va (kY.enc a0),.vc (pS cQ a1),.va (a8.enc a2),.va (a8.enc a3)] (.va (eQ r)):=by
 unfold tR at hF
 refine aG Tryz.func14 rfl (by kernel_rfl) Tryz.ntmps14 rfl (fun w0 M0=>?_)
 refine aK (aR (cC rfl rfl trivial (fun b1=>?_)))
 refine cC rfl rfl trivial (fun b2=>?_)
 refine cC rfl rfl trivial (fun b3=>?_)
 refine aO rfl tyZ32q (fun b4=>?_)
 obtain⟨v7,h8,hF⟩:=bF hF xW
 obtain⟨v9,h10,hF⟩:=bF hF yX
 obtain⟨v11,h12,hF⟩:=bF hF aGM
 obtain⟨v13,h14,hF⟩:=bF hF wB
 obtain⟨v15,h16,hF⟩:=bF hF aFx
 obtain⟨v17,h18,hF⟩:=bF hF zA
 refine go ?_ ?_
 refine gT [0,1,0,4,15,0,32,0,128,511,0,0,0,8191,16383,32767,0,0,262143,524287,1048575] 20 1 [.v (.vc (pP (some b1) 0)),.v (.vc (pS aD.cod a0.dofs)),.v (.vc (pP (some b2) 2)),.v (.vc (pS cQ a2.v)),.v (.va (aP.enc v7)),.v (.vc (pP (some b1) 0)),.v (.vc (pS aD.cod a0.dofs)),.v (.vc (pP (some b2) 1)),.v (.vc (pS cQ a2.q)),.v (.va (aP.enc v9)),.v (.vc (pS cQ a1)),.v (.va (a8.enc a2)),.v (.va (a8.enc a3)),.v (.va (aP.enc v11)),.v (.vc (pS aP.cod [v7,v9,v11])),.v (.va (eQ v13)),.v (.va (kY.enc a0)),.v (.va (a8.enc a3)),.v (.va (eQ v15)),.v (.va (eQ v17))] bC ⟨d0 (iU (off:=0) (k:=0) rfl tyF46_0) zU1,d0 (fX 3 1 rfl rfl rfl rfl (.one tyO23)) zU1,d0 (iU (off:=0) (k:=2) rfl tyF41_2) zU1,d0 (fX 2 1 rfl rfl rfl rfl (.one tyO24)) zU1,d0 (cS rfl h8 rfl) zU2,d0 (iU (off:=0) (k:=0) rfl tyF46_0) zU1,d0 (fX 3 1 rfl rfl rfl rfl (.one tyO23)) zU1,d0 (iU (off:=0) (k:=1) rfl tyF41_1) zU1,d0 (fX 2 1 rfl rfl rfl rfl (.one tyO24)) zU1,d0 (cS rfl h10 rfl) zU2,d0 (bB (.inl rfl)) zU1,d0 (fX 2 4 rfl rfl rfl rfl (.agg tyA41)) zU1,d0 (fX 1 4 rfl rfl rfl rfl (.agg tyA41)) zU1,d0 (cS rfl h12 rfl) ⟨rfl,rfl,rfl,trivial⟩,d0 (oM (C:=aP.cod) (xs:=[.tmp 13,.tmp 18,.tmp 22]) (ps:=[.va (aP.enc v7),.va (aP.enc v9),.va (aP.enc v11)]) (zs:=[v7,v9,v11]) rfl tyS150 rfl ⟨⟨trivial,rfl⟩,⟨trivial,rfl⟩,⟨trivial,rfl⟩,trivial⟩ rfl) ⟨rfl,rfl,rfl,trivial⟩,d0 (cS rfl h14 rfl) zU1,d0 (fX 3 4 rfl rfl rfl rfl (.agg tyA46)) zU1,d0 (fX 1 4 rfl rfl rfl rfl (.agg tyA41)) zU1,d0 (cS rfl h16 rfl) zU2,d0 (cS rfl h18 rfl) zU2,trivial⟩ (fun bs6 G5=>?_)
 exact cF
def oS (K:Nat) (a0:a8) (a2:List Rat) (v3:Int) (x26:List Rat):Option a8:=
 some (⟨v3,x26,a2,a0.here⟩:a8)
def gK (K:Nat) (a0:a8) (a1:List Rat):Nat→(List Rat)→Int→Option (List Rat)
 |0,_,_=>none
 |k+1,x19,x25=>bif(decide (x25<(a0.q.length:Int))) then((bL a0.q x25).bind fun v37=>(bL a1 x25).bind fun v39=>(aAJ v37 v39).bind fun v41=>(qR x19 [v41]).bind fun x43=>(aT (x25+1)).bind fun v50=>gK K a0 a1 k x43 v50) else(some x19)
def sB (K:Nat) (a0:a8) (a1:List Rat) (a2:List Rat):Option a8:=
 (aT (a0.tick+1)).bind fun v3=>(gK K a0 a1 K ([]:List Rat) 0).bind fun x26=>oS K a0 a2 v3 x26
theorem aCK {K:Nat} {a0:a8} {a1:List Rat} {a2:List Rat} {r:a8} (hF:sB K a0 a1 a2=some r):Ct Tryz.prog 51 [.va (a8.enc a0),.vc (pS cQ a1),.vc (pS cQ a2)] (.va (a8.enc r)):=by
 unfold sB at hF
 refine aG Tryz.func51 rfl (by kernel_rfl) Tryz.ntmps51 rfl (fun w0 M0=>?_)
 refine aK (aR (cC rfl rfl trivial (fun b1=>?_)))
 refine aO rfl tyZ41q (fun b2=>?_)
 refine bT (aU (aK (aR (aQ (iU (off:=0) (k:=0) rfl tyF41_0) zU1 ?_))))
 refine aQ (fX 1 1 rfl rfl rfl rfl (.one tyO3)) zU1 ?_
 obtain⟨v3,h4,hF⟩:=aZ hF
 refine aQ (xJ rfl h4) ⟨rfl,lY _ _,trivial⟩ ?_
 refine lH ?_
 refine aQ (iU (off:=0) (k:=3) rfl tyF41_3) zU1 ?_
 refine aQ (fX 1 1 rfl rfl rfl rfl (.one tyO39)) zU1 ?_
 refine aCc cQ 32 ?_
 refine aQ (dY (is:=[0,2,3]) (xs:=[.tmp 11,.tmp 12,.tmp 14]) (ps:=[.vc (pI .i64 v3),.vc (pS cQ a2),.vc (pS cB a0.here)]) rfl tyB41_o1q rfl rfl ⟨trivial,trivial,trivial,trivial⟩ rfl) ⟨rfl,rfl,rfl,trivial⟩ ?_
 refine aO rfl tyZ41q (fun b11=>?_)
 refine go ?_ ?_
 refine aS (bV (fun H E=>∃(x26:List Rat),∃(b27:Option Nat),∃(c28:Nat),∃(n29:Nat),oS K a0 a2 v3 x26=some r∧x26.length=n29∧H=[⟨some b11,1,41,4,1,([pI .i64 v3]++[pO b27 n29 c28]++[pS cQ a2]++[pS cB a0.here])⟩,hO cQ b27 c28 32 n29 x26,⟨some b2,1,41,4,1,([pI .i64 0]++[pS cQ ([]:List Rat)]++[pS cQ ([]:List Rat)]++[pS cB ([]:List Bool)])⟩]∧E=[(6,.vc (pP (some b2) 0)),(7,.vc (pP (some b11) 0))]) ?_ (fun Jj33=>?_))
 ·rintro _ _ ⟨x26,b27,c28,n29,hF,q30,rfl,rfl⟩
  unfold oS at hF
  refine aU (aK (aR (aBB 1 0 1 rfl q30 rfl rfl rfl rfl rfl ?_)))
  exact cF
 obtain⟨x26',hL,hRl32⟩:=aZ hF
 refine gB (fun k a w=>∃(x19:List Rat),∃(x25:Int),∃(b20:Option Nat),∃(c21:Nat),∃(n22:Nat),gK K a0 a1 k x19 x25=some x26'∧x19.length=n22∧hs _ [⟨some b11,1,41,4,1,([pI .i64 v3]++[pO b20 n22 c21]++[pS cQ a2]++[pS cB a0.here])⟩,hO cQ b20 c21 32 n22 x19,⟨some b2,1,41,4,1,([pI .i64 0]++[pS cQ ([]:List Rat)]++[pS cQ ([]:List Rat)]++[pS cB ([]:List Bool)])⟩,⟨some b1,1,41,4,1,(a8.enc a0)⟩] [(1,.vc (pS cQ a1)),(3,.vc (pP (some b1) 0)),(6,.vc (pP (some b2) 0)),(7,.vc (pP (some b11) 0)),(8,.vc (pI .i64 x25))] a w) K (fun a w ⟨_,_,_,_,_,hF,_,_⟩=>by cases hF) (fun k a w ⟨x19,x25,b20,c21,n22,hF,q23,hh⟩=>gC ?_ hh) (fun a w hh=>⟨([]:List Rat),0,none,0,0,hL,rfl,gJ [0,1,2,3] hh⟩)
 rw [gK.eq_2] at hF
 refine go ?_ ?_
 refine aJ hF rfl (fun h34 hF=>?_) (fun h34 hF=>?_)
 ·refine go ?_ ?_
  refine aS ?_
  obtain⟨v37,h38,hF⟩:=aZ hF
  obtain⟨v39,h40,hF⟩:=aZ hF
  obtain⟨v41,h42,hF⟩:=bF hF w5
  refine gT [0,1,0,4,0,28,60,0,0,384,896,2044,4092,8191,16383,32767] 13 3 [.v (.vc (pP (some b11) 1)),.v (.vc (pO b20 n22 c21)),.v (.vc (pP (some b1) 1)),.v (.vc (pS cQ a0.q)),.v (.vc (pI .i64 x25)),.v (.vc (pM (cQ.e v37))),.v (.va (eQ v37)),.v (.vc (pS cQ a1)),.v (.vc (pI .i64 x25)),.v (.vc (pM (cQ.e v39))),.v (.va (eQ v39)),.v (.va (eQ v41)),.v (.vc (pS cQ [v41]))] bC ⟨d0 (iU (off:=0) (k:=1) rfl tyF41_1) zU1,d0 (fX 0 1 rfl rfl rfl rfl (.one tyO24)) zU1,d0 (iU (off:=0) (k:=1) rfl tyF41_1) zU1,d0 (fX 3 1 rfl rfl rfl rfl (.one tyO24)) zU1,d0 (bB (.inl rfl)) zU1,d0 (aCO rfl tyS24 h38) zU2,d0 (aAP 4 rfl rfl (.agg tyA32)) zU1,d0 (bB (.inl rfl)) zU1,d0 (bB (.inl rfl)) zU1,d0 (aCO rfl tyS24 h40) zU2,d0 (aAP 4 rfl rfl (.agg tyA32)) zU1,d0 (cS rfl h42 rfl) zU2,d0 (oM (C:=cQ) (xs:=[.tmp 34]) (ps:=[.va (eQ v41)]) (zs:=[v41]) rfl tyS24 rfl ⟨⟨trivial,rfl⟩,trivial⟩ rfl) zU1,trivial⟩ (fun bs36 G35=>?_)
  obtain⟨x43,h44,hF⟩:=aZ hF
  refine nH 1 rfl tyS24 rfl rfl q23 rfl rfl h44 (fun b45 c46 H47 e48=>?_)
  cases e48
  obtain⟨v50,h51,hF⟩:=aZ hF
  refine go ?_ ?_
  exact aM (fun a w hh=>⟨x43,v50,b45,c46,(n22+[v41].length),hF,(eJ h44 q23),gJ [0,1,2,3] hh⟩)
 refine cR ?_
 obtain rfl:=pZ hF
 exact qZ Jj33 ⟨x19,b20,c21,n22,hRl32,q23,rfl,rfl⟩ [0,1,2]
def mY (K:Nat) (a0:a8) (x36:List Rat) (x42:List Rat):Option a8:=
 (sB K a0 x42 x36).bind fun v50=>some v50
def fP (K:Nat) (a0:a8) (a1:List Rat) (v7:Rat):Nat→(List Rat)→(List Rat)→Int→Option ((List Rat)×(List Rat))
 |0,_,_,_=>none
 |k+1,x23,x29,x35=>bif(decide (x35<(a1.length:Int))) then((bL a0.v x35).bind fun v55=>(bL a1 x35).bind fun v57=>(zR v7 v57).bind fun v59=>(aAJ v55 v59).bind fun v61=>(qR x29 [v61]).bind fun x63=>(bL a0.v x35).bind fun v72=>(bL a1 x35).bind fun v74=>(aAJ v72 v74).bind fun v76=>(qR x23 [v76]).bind fun x78=>(aT (x35+1)).bind fun v85=>fP K a0 a1 v7 k x78 x63 v85) else(some (x23,x29))
def kX (K:Nat) (a0:a8) (a1:List Rat):Option a8:=
 (qof 1 2).bind fun v7=>(fP K a0 a1 v7 K ([]:List Rat) ([]:List Rat) 0).bind fun(x36,x42)=>mY K a0 x36 x42
theorem xP {K:Nat} {a0:a8} {a1:List Rat} {r:a8} (hF:kX K a0 a1=some r):Ct Tryz.prog 15 [.va (a8.enc a0),.vc (pS cQ a1)] (.va (a8.enc r)):=by
 unfold kX at hF
 refine aG Tryz.func15 rfl (by kernel_rfl) Tryz.ntmps15 rfl (fun w0 M0=>?_)
 refine aK (aR (cC rfl rfl trivial (fun b1=>?_)))
 refine aO rfl tyZ41q (fun b2=>?_)
 refine bT (aU (aK (aR (tV cQ 32 rfl ?_))))
 refine bT (aU (aK (aR (tV cQ 32 rfl ?_))))
 obtain⟨v7,h8,hF⟩:=bF hF bS
 refine go ?_ ?_
 refine aO rfl tyZ32q (fun b9=>?_)
 refine go ?_ ?_
 refine aS (bV (fun H E=>∃(x36:List Rat),∃(x42:List Rat),∃(b37:Option Nat),∃(c38:Nat),∃(n39:Nat),∃(b43:Option Nat),∃(c44:Nat),∃(n45:Nat),mY K a0 x36 x42=some r∧x36.length=n39∧x42.length=n45∧H=[hO cQ b37 c38 32 n39 x36,hO cQ b43 c44 32 n45 x42,⟨some b2,1,41,4,1,([pI .i64 0]++[pS cQ ([]:List Rat)]++[pS cQ ([]:List Rat)]++[pS cB ([]:List Bool)])⟩,⟨some b1,1,41,4,1,(a8.enc a0)⟩]∧E=[(2,.vc (pP (some b1) 0)),(4,.vc (pP (some b2) 0)),(5,.vc (pO b43 n45 c44)),(6,.vc (pO b37 n39 c38))]) ?_ (fun Jj49=>?_))
 ·rintro _ _ ⟨x36,x42,b37,c38,n39,b43,c44,n45,hF,q40,q46,rfl,rfl⟩
  unfold mY at hF
  refine aU (aK (aR (aQ (fX 3 4 rfl rfl rfl rfl (.agg tyA41)) zU1 ?_)))
  refine lH ?_
  refine lH ?_
  refine zQ 1 [5,45] rfl q46 zU2 rfl ?_
  refine zQ 0 [6,46] rfl q40 zU2 rfl ?_
  obtain⟨v50,h51,hF⟩:=bF hF aCK
  exact cF
 obtain⟨⟨x36',x42'⟩,hL,hRl48⟩:=aZ hF
 refine gB (fun k a w=>∃(x23:List Rat),∃(x29:List Rat),∃(x35:Int),∃(b24:Option Nat),∃(c25:Nat),∃(n26:Nat),∃(b30:Option Nat),∃(c31:Nat),∃(n32:Nat),fP K a0 a1 v7 k x23 x29 x35=some (x36',x42')∧x23.length=n26∧x29.length=n32∧hs _ [⟨some b9,1,32,4,1,(eQ v7)⟩,hO cQ b24 c25 32 n26 x23,hO cQ b30 c31 32 n32 x29,⟨some b2,1,41,4,1,([pI .i64 0]++[pS cQ ([]:List Rat)]++[pS cQ ([]:List Rat)]++[pS cB ([]:List Bool)])⟩,⟨some b1,1,41,4,1,(a8.enc a0)⟩] [(1,.vc (pS cQ a1)),(2,.vc (pP (some b1) 0)),(4,.vc (pP (some b2) 0)),(5,.vc (pO b30 n32 c31)),(6,.vc (pO b24 n26 c25)),(7,.vc (pP (some b9) 0)),(8,.vc (pI .i64 x35))] a w) K (fun a w ⟨_,_,_,_,_,_,_,_,_,hF,_,_,_⟩=>by cases hF) (fun k a w ⟨x23,x29,x35,b24,c25,n26,b30,c31,n32,hF,q27,q33,hh⟩=>gC ?_ hh) (fun a w hh=>⟨([]:List Rat),([]:List Rat),0,none,0,0,none,0,0,hL,rfl,rfl,gJ [0,1,2,3,4] hh⟩)
 rw [fP.eq_2] at hF
 refine go ?_ ?_
 refine aJ hF rfl (fun h52 hF=>?_) (fun h52 hF=>?_)
 ·refine go ?_ ?_
  refine aS (aK ?_)
  obtain⟨v55,h56,hF⟩:=aZ hF
  obtain⟨v57,h58,hF⟩:=aZ hF
  obtain⟨v59,h60,hF⟩:=bF hF aDP
  obtain⟨v61,h62,hF⟩:=bF hF w5
  refine gT [0,0,2,0,14,30,0,0,0,384,896,1984,4094,8190,16383,32767] 14 2 [.v (.vc (pO b30 n32 c31)),.v (.vc (pP (some b1) 2)),.v (.vc (pS cQ a0.v)),.v (.vc (pI .i64 x35)),.v (.vc (pM (cQ.e v55))),.v (.va (eQ v55)),.v (.va (eQ v7)),.v (.vc (pS cQ a1)),.v (.vc (pI .i64 x35)),.v (.vc (pM (cQ.e v57))),.v (.va (eQ v57)),.v (.va (eQ v59)),.v (.va (eQ v61)),.v (.vc (pS cQ [v61]))] bC ⟨d0 (bB (.inl rfl)) zU1,d0 (iU (off:=0) (k:=2) rfl tyF41_2) zU1,d0 (fX 4 1 rfl rfl rfl rfl (.one tyO24)) zU1,d0 (bB (.inl rfl)) zU1,d0 (aCO rfl tyS24 h56) zU2,d0 (aAP 4 rfl rfl (.agg tyA32)) zU1,d0 (fX 0 4 rfl rfl rfl rfl (.agg tyA32)) zU1,d0 (bB (.inl rfl)) zU1,d0 (bB (.inl rfl)) zU1,d0 (aCO rfl tyS24 h58) zU2,d0 (aAP 4 rfl rfl (.agg tyA32)) zU1,d0 (cS rfl h60 rfl) zU2,d0 (cS rfl h62 rfl) zU2,d0 (oM (C:=cQ) (xs:=[.tmp 28]) (ps:=[.va (eQ v61)]) (zs:=[v61]) rfl tyS24 rfl ⟨⟨trivial,rfl⟩,trivial⟩ rfl) zU1,trivial⟩ (fun bs54 G53=>?_)
  obtain⟨x63,h64,hF⟩:=aZ hF
  refine nH 2 rfl tyS24 rfl rfl q33 rfl rfl h64 (fun b65 c66 H67 e68=>?_)
  cases e68
  have hF:=sE h56 hF
  have hF:=sE h58 hF
  obtain⟨v76,h77,hF⟩:=bF hF w5
  refine go ?_ ?_
  refine gT [0,0,2,0,14,30,0,0,192,448,1022,2046,4095,8191] 12 2 [.v (.vc (pO b24 n26 c25)),.v (.vc (pP (some b1) 2)),.v (.vc (pS cQ a0.v)),.v (.vc (pI .i64 x35)),.v (.vc (pM (cQ.e v55))),.v (.va (eQ v55)),.v (.vc (pS cQ a1)),.v (.vc (pI .i64 x35)),.v (.vc (pM (cQ.e v57))),.v (.va (eQ v57)),.v (.va (eQ v76)),.v (.vc (pS cQ [v76]))] bC ⟨d0 (bB (.inl rfl)) zU1,d0 (iU (off:=0) (k:=2) rfl tyF41_2) zU1,d0 (fX 4 1 rfl rfl rfl rfl (.one tyO24)) zU1,d0 (bB (.inl rfl)) zU1,d0 (aCO rfl tyS24 h56) zU2,d0 (aAP 4 rfl rfl (.agg tyA32)) zU1,d0 (bB (.inl rfl)) zU1,d0 (bB (.inl rfl)) zU1,d0 (aCO rfl tyS24 h58) zU2,d0 (aAP 4 rfl rfl (.agg tyA32)) zU1,d0 (cS rfl h77 rfl) zU2,d0 (oM (C:=cQ) (xs:=[.tmp 41]) (ps:=[.va (eQ v76)]) (zs:=[v76]) rfl tyS24 rfl ⟨⟨trivial,rfl⟩,trivial⟩ rfl) zU1,trivial⟩ (fun bs71 G70=>?_)
  obtain⟨x78,h79,hF⟩:=aZ hF
  refine nH 1 rfl tyS24 rfl rfl q27 rfl rfl h79 (fun b80 c81 H82 e83=>?_)
  cases e83
  obtain⟨v85,h86,hF⟩:=aZ hF
  refine go ?_ ?_
  exact aM (fun a w hh=>⟨x78,x63,v85,b80,c81,(n26+[v76].length),b65,c66,(n32+[v61].length),hF,(eJ h79 q27),(eJ h64 q33),gJ [0,1,2,3,4] hh⟩)
 refine cR ?_
 obtain⟨rfl,rfl⟩:=sm2 hF
 exact qZ Jj49 ⟨x23,x29,b24,c25,n26,b30,c31,n32,hRl48,q27,q33,rfl,rfl⟩ [1,2,3,4]
def rS (K:Nat):Option Bool:=
 some true
def oF (K:Nat) (a0:List Rat) (a1:List Rat):Nat→Int→Option (LR Bool Unit)
 |0,_=>none
 |k+1,x3=>bif(decide (x3<(a0.length:Int))) then((bL a0 x3).bind fun v9=>(bL a1 x3).bind fun v11=>(aHd v9 v11).bind fun v13=>bif(!v13) then(some (.ret false)) else((aT (x3+1)).bind fun v16=>oF K a0 a1 k v16)) else(some (.go ()))
def t7 (K:Nat) (a0:List Rat) (a1:List Rat):Option Bool:=
 bif((a0.length:Int) != (a1.length:Int)) then(some false) else((oF K a0 a1 K 0).bind fun o=>match o with| .ret r=>some r| .go _=>rS K)
theorem aB9 {K:Nat} {a0:List Rat} {a1:List Rat} {r:Bool} (hF:t7 K a0 a1=some r):Ct Tryz.prog 29 [.vc (pS cQ a0),.vc (pS cQ a1)] (.vc (pB r)):=by
 unfold t7 at hF
 refine aG Tryz.func29 rfl (by kernel_rfl) Tryz.ntmps29 rfl (fun w0 M0=>?_)
 refine go ?_ ?_
 refine aJ hF rfl (fun h1 hF=>?_) (fun h1 hF=>?_)
 ·exact cF
 refine go ?_ ?_
 refine aS (bV (fun H E=>rS K=some r∧H=[]∧E=[]) ?_ (fun Jj5=>?_))
 ·rintro _ _ ⟨hF,rfl,rfl⟩
  unfold rS at hF
  exact cF
 obtain⟨ol4,hL,hRl4⟩:=aZ hF
 refine gB (fun k a w=>∃(x3:Int),oF K a0 a1 k x3=some ol4∧hs _ [] [(0,.vc (pS cQ a0)),(1,.vc (pS cQ a1)),(5,.vc (pI .i64 x3))] a w) K (fun a w ⟨_,hF,_⟩=>by cases hF) (fun k a w ⟨x3,hF,hh⟩=>gC ?_ hh) (fun a w hh=>⟨0,hL,gJ [] hh⟩)
 rw [oF.eq_2] at hF
 refine go ?_ ?_
 refine aJ hF rfl (fun h6 hF=>?_) (fun h6 hF=>?_)
 ·refine go ?_ ?_
  refine aS (aK ?_)
  obtain⟨v9,h10,hF⟩:=aZ hF
  obtain⟨v11,h12,hF⟩:=aZ hF
  obtain⟨v13,h14,hF⟩:=bF hF aDb
  refine dr [0,0,3,7,0,0,48,112,255,511] 10 0 ?_ (fun bs8 G7=>?_)
  refine bT (aU (aJ hF rfl (fun h15 hF=>?_) (fun h15 hF=>?_)))
  ·exact cF
  obtain⟨v16,h17,hF⟩:=aZ hF
  refine go ?_ ?_
  exact aM (fun a w hh=>⟨v16,hF,gJ [] hh⟩)
 refine cR ?_
 obtain rfl:=pZ hF
 exact qZ Jj5 ⟨hRl4,rfl,rfl⟩ []
def vQ (K:Nat) (c1:List (List Rat)) (x26:List Rat):Option (List (List Rat)):=
 (qR c1 [x26]).bind fun x34=>some x34
def sJ (K:Nat) (a0:List aE):Nat→(List Rat)→Int→Option (List Rat)
 |0,_,_=>none
 |k+1,x19,x25=>bif(decide (x25<(a0.length:Int))) then((bL a0 x25).bind fun v42=>(bL x19 v42.dof).bind fun v47=>(aAJ v47 v42.k).bind fun v49=>(bL x19 v42.dof).bind fun v51=>(oO x19 v42.dof v49).bind fun x53=>(aT (x25+1)).bind fun v56=>sJ K a0 k x53 v56) else(some x19)
def wR (K:Nat) (c0:Int) (c1:List (List Rat)) (a0:List aE):Option (List (List Rat)):=
 (yJ c0 0).bind fun x7=>(sJ K a0 K x7 0).bind fun x26=>vQ K c1 x26
theorem aAT {K:Nat} {c0:Int} {c1:List (List Rat)} {a0:List aE} {r:List (List Rat)} (hF:wR K c0 c1 a0=some r) {p1:Nat} {b3:Option Nat} {c4 n2:Nat} (q5:c1.length=n2):CtO Tryz.prog 112 [⟨some p1,1,74,1,1,[pO b3 n2 c4]⟩,hO (kK cQ) b3 c4 24 n2 c1] [.vc (pS aE.cod a0),.vc (pM (cI.e c0)),.vc (pP (some p1) 0)] (fun Ho q=>∃b60 c61 n59,r.length=n59∧Ho=[⟨some p1,1,74,1,1,[pO b60 n59 c61]⟩,hO (kK cQ) b60 c61 24 n59 r]∧q=.any):=by
 unfold wR at hF
 refine aG Tryz.func112 rfl (by kernel_rfl) Tryz.ntmps112 rfl (fun w0 M0=>?_)
 obtain⟨x7,h8,hF⟩:=aZ hF
 refine go ?_ ?_
 refine uV (C:=cQ) rfl tyS24 rfl tyZ32q rfl h8 (fun b9=>?_)
 refine go ?_ ?_
 refine aS (bV (fun H E=>∃(x26:List Rat),vQ K c1 x26=some r∧x26.length=x7.length∧H=[hO cQ b9 x7.length 32 x7.length x26,⟨some p1,1,74,1,1,[pO b3 n2 c4]⟩,hO (kK cQ) b3 c4 24 n2 c1]∧E=[(2,.vc (pP (some p1) 0)),(4,.vc (pO b9 x7.length x7.length))]) ?_ (fun Jj33=>?_))
 ·rintro _ _ ⟨x26,hF,q30,rfl,rfl⟩
  unfold vQ at hF
  refine aU (aR (aQ (fX 1 1 rfl rfl rfl rfl (.one tyO74)) zU1 ?_))
  refine lH ?_
  refine zQ 0 [4,29] rfl q30 zU2 rfl ?_
  refine aQ (oM (C:=(kK cQ)) (xs:=[.tmp 29]) (ps:=[.vc (pS cQ x26)]) (zs:=[x26]) rfl tyS74 rfl ⟨⟨trivial,rfl⟩,trivial⟩ rfl) zU1 ?_
  obtain⟨x34,h35,hF⟩:=aZ hF
  refine nH 1 rfl tyS74 rfl rfl q5 rfl rfl h35 (fun b36 c37 H38 e39=>?_)
  cases e39
  refine mR (t_s 0 rfl rfl rfl tyO74.s) zU2 ?_
  refine bT ?_
  obtain rfl:=pZ hF
  exact aBR (.inr rfl) Tryz.results112 .nil rfl [0,1] rfl (by decide) ⟨b36,c37,(n2+[x26].length),(eJ h35 q5),rfl,rfl⟩
 obtain⟨x26',hL,hRl32⟩:=aZ hF
 refine gB (fun k a w=>∃(x19:List Rat),∃(x25:Int),sJ K a0 k x19 x25=some x26'∧x19.length=x7.length∧hs _ [hO cQ b9 x7.length 32 x7.length x19,⟨some p1,1,74,1,1,[pO b3 n2 c4]⟩,hO (kK cQ) b3 c4 24 n2 c1] [(2,.vc (pP (some p1) 0)),(4,.vc (pO b9 x7.length x7.length)),(9,.vc (pS aE.cod a0)),(10,.vc (pI .i64 (a0.length:Int))),(11,.vc (pI .i64 x25))] a w) K (fun a w ⟨_,_,hF,_,_⟩=>by cases hF) (fun k a w ⟨x19,x25,hF,q23,hh⟩=>gC ?_ hh) (fun a w hh=>⟨x7,0,hL,rfl,gJ [0,1,2] hh⟩)
 rw [sJ.eq_2] at hF
 refine go ?_ ?_
 refine aJ hF rfl (fun h41 hF=>?_) (fun h41 hF=>?_)
 ·refine go ?_ ?_
  refine aS ?_
  obtain⟨v42,h43,hF⟩:=aZ hF
  refine go ?_ ?_
  refine aO rfl tyZ104q (fun b44=>?_)
  obtain⟨v47,h48,hF⟩:=aZ hF
  obtain⟨v49,h50,hF⟩:=bF hF uR
  have hF:=sE h48 hF
  refine go ?_ ?_
  refine dr [0,0,2,0,0,16,56,120,0,256,1016,2047,4095] 12 1 ?_ (fun bs46 G45=>?_)
  obtain⟨x53,h54,v56,h57,hF⟩:=wP hF
  refine go ?_ ?_
  exact aM (fun a w hh=>⟨x53,v56,hF,(bK h54 q23),gJ [1,2,3] hh⟩)
 refine cR ?_
 obtain rfl:=pZ hF
 exact qZ Jj33 ⟨x19,hRl32,q23,rfl,rfl⟩ [0,1,2]
def p9 (K:Nat):Option Int:=
 some (-1)
def mK (K:Nat) (a0:List aE) (a1:(aE→Option Bool)):Nat→Int→Option (LR Int Unit)
 |0,_=>none
 |k+1,x2=>bif(decide (x2<(a0.length:Int))) then((bL a0 x2).bind fun v6=>(a1 v6).bind fun v8=>bif v8 then(some (.ret x2)) else((aT (x2+1)).bind fun v11=>mK K a0 a1 k v11)) else(some (.go ()))
def sQ (K:Nat) (a0:List aE) (a1:(aE→Option Bool)):Option Int:=
 (mK K a0 a1 K 0).bind fun o=>match o with| .ret r=>some r| .go _=>p9 K
theorem aBa {K:Nat} {a0:List aE} {a1:(aE→Option Bool)} {r:Int} (hF:sQ K a0 a1=some r):Ct Tryz.prog 178 [.vc (pS aE.cod a0),.vc (pFn Tryz.prog (fun x:aE=>[.va (aE.enc x)]) (fun r:Bool=>.vc (pB r)) a1)] (.vc (pI .i64 r)):=by
 unfold sQ at hF
 refine aG Tryz.func178 rfl (by kernel_rfl) Tryz.ntmps178 rfl (fun w0 M0=>?_)
 refine go ?_ ?_
 refine aS (bV (fun H E=>p9 K=some r∧H=[]∧E=[]) ?_ (fun Jj4=>?_))
 ·rintro _ _ ⟨hF,rfl,rfl⟩
  unfold p9 at hF
  exact cF
 obtain⟨ol3,hL,hRl3⟩:=aZ hF
 refine gB (fun k a w=>∃(x2:Int),mK K a0 a1 k x2=some ol3∧hs _ [] [(0,.vc (pS aE.cod a0)),(1,.vc (pFn Tryz.prog (fun x:aE=>[.va (aE.enc x)]) (fun r:Bool=>.vc (pB r)) a1)),(7,.vc (pI .i64 (a0.length:Int))),(8,.vc (pI .i64 x2))] a w) K (fun a w ⟨_,hF,_⟩=>by cases hF) (fun k a w ⟨x2,hF,hh⟩=>gC ?_ hh) (fun a w hh=>⟨0,hL,gJ [] hh⟩)
 rw [mK.eq_2] at hF
 refine go ?_ ?_
 refine aJ hF rfl (fun h5 hF=>?_) (fun h5 hF=>?_)
 ·refine go ?_ ?_
  refine aS ?_
  obtain⟨v6,h7,v8,h9,hF⟩:=wP hF
  refine go ?_ ?_
  refine aQ (aC7 (pre:=fun x:aE=>[.va (aE.enc x)]) (post:=fun r:Bool=>.vc (pB r)) (x:=v6) (r:=v8) rfl h9 rfl) zU2 ?_
  refine bT (aU (aJ hF rfl (fun h10 hF=>?_) (fun h10 hF=>?_)))
  ·exact cF
  obtain⟨v11,h12,hF⟩:=aZ hF
  refine go ?_ ?_
  exact aM (fun a w hh=>⟨v11,hF,gJ [] hh⟩)
 refine cR ?_
 obtain rfl:=pZ hF
 exact qZ Jj4 ⟨hRl3,rfl,rfl⟩ []
def qI (K:Nat) (a0:List aE) (a1:(aE→Option Bool)):Option Bool:=
 (sQ K a0 a1).bind fun v1=>some (decide (0≤v1))
theorem aAl {K:Nat} {a0:List aE} {a1:(aE→Option Bool)} {r:Bool} (hF:qI K a0 a1=some r):Ct Tryz.prog 158 [.vc (pS aE.cod a0),.vc (pFn Tryz.prog (fun x:aE=>[.va (aE.enc x)]) (fun r:Bool=>.vc (pB r)) a1)] (.vc (pB r)):=by
 unfold qI at hF
 refine aG Tryz.func158 rfl (by kernel_rfl) Tryz.ntmps158 rfl (fun w0 M0=>?_)
 obtain⟨v1,h2,hF⟩:=bF hF aBa
 exact cF
def uE (c0:Int) (a0:aE):Option Bool:=
 bif(decide (a0.dof<0)) then(some true) else(some (decide (c0≤a0.dof)))
theorem aDG {c0:Int} {a0:aE} {r:Bool} (hF:uE c0 a0=some r):Ct Tryz.prog 159 [.va (aE.enc a0),.vc (pM (cI.e c0))] (.vc (pB r)):=by
 unfold uE at hF
 refine aG Tryz.func159 rfl (by kernel_rfl) Tryz.ntmps159 rfl (fun w0 M0=>?_)
 refine aK (aR (cC rfl rfl trivial (fun b1=>?_)))
 refine go ?_ ?_
 refine eW hF (fun h2 hF=>?_) (fun h2 hF=>?_)
 ·exact cF
 exact cF
def tP (K:Nat) (a0:List aE) (a1:Int):Option Bool:=
 (qI K a0 (uE a1)).bind fun v2=>some (!v2)
theorem y5 {K:Nat} {a0:List aE} {a1:Int} {r:Bool} (hF:tP K a0 a1=some r):Ct Tryz.prog 113 [.vc (pS aE.cod a0),.vc (pI .i64 a1)] (.vc (pB r)):=by
 unfold tP at hF
 refine aG Tryz.func113 rfl (by kernel_rfl) Tryz.ntmps113 rfl (fun w0 M0=>?_)
 refine aK (aR (cC rfl rfl trivial (fun b1=>?_)))
 refine aQ (bB (.inr rfl)) ⟨k_B _,trivial⟩ ?_
 refine bT (aU (aK (aR (lH ?_))))
 refine yO 0 [(3,0)] rfl zU1 rfl ?_
 refine aQ (aEL (φ:=(uE a1)) (pre:=fun x:aE=>[.va (aE.enc x)]) (post:=fun r:Bool=>.vc (pB r)) (xs:=[.tmp 3]) (cs:=[pM (cI.e a1)]) rfl rfl (fun x r h=>aDG h)) zU1 ?_
 obtain⟨v2,h3,hF⟩:=bF hF aAl
 exact cF
def zC (a0:List (List Rat)):Option Int:=
 bif((a0.length:Int)==0) then(some 0) else((bL a0 0).bind fun v2=>some (v2.length:Int))
theorem aCN {a0:List (List Rat)} {r:Int} (hF:zC a0=some r):Ct Tryz.prog 161 [.vc (pS (kK cQ) a0)] (.vc (pI .i64 r)):=by
 unfold zC at hF
 refine aG Tryz.func161 rfl (by kernel_rfl) Tryz.ntmps161 rfl (fun w0 M0=>?_)
 refine go ?_ ?_
 refine aJ hF rfl (fun h1 hF=>?_) (fun h1 hF=>?_)
 ·exact cF
 obtain⟨v2,h3,hF⟩:=aZ hF
 exact cF
def qG (K:Nat):Option Int:=
 some (-1)
def l7 (K:Nat) (a0:List (List Rat)) (a1:((List Rat)→Option Bool)):Nat→Int→Option (LR Int Unit)
 |0,_=>none
 |k+1,x2=>bif(decide (x2<(a0.length:Int))) then((bL a0 x2).bind fun v6=>(a1 v6).bind fun v8=>bif v8 then(some (.ret x2)) else((aT (x2+1)).bind fun v11=>l7 K a0 a1 k v11)) else(some (.go ()))
def oT (K:Nat) (a0:List (List Rat)) (a1:((List Rat)→Option Bool)):Option Int:=
 (l7 K a0 a1 K 0).bind fun o=>match o with| .ret r=>some r| .go _=>qG K
theorem wF {K:Nat} {a0:List (List Rat)} {a1:((List Rat)→Option Bool)} {r:Int} (hF:oT K a0 a1=some r):Ct Tryz.prog 182 [.vc (pS (kK cQ) a0),.vc (pFn Tryz.prog (fun x:(List Rat)=>[.vc (pS cQ x)]) (fun r:Bool=>.vc (pB r)) a1)] (.vc (pI .i64 r)):=by
 unfold oT at hF
 refine aG Tryz.func182 rfl (by kernel_rfl) Tryz.ntmps182 rfl (fun w0 M0=>?_)
 refine go ?_ ?_
 refine aS (bV (fun H E=>qG K=some r∧H=[]∧E=[]) ?_ (fun Jj4=>?_))
 ·rintro _ _ ⟨hF,rfl,rfl⟩
  unfold qG at hF
  exact cF
 obtain⟨ol3,hL,hRl3⟩:=aZ hF
 refine gB (fun k a w=>∃(x2:Int),l7 K a0 a1 k x2=some ol3∧hs _ [] [(0,.vc (pS (kK cQ) a0)),(1,.vc (pFn Tryz.prog (fun x:(List Rat)=>[.vc (pS cQ x)]) (fun r:Bool=>.vc (pB r)) a1)),(7,.vc (pI .i64 (a0.length:Int))),(8,.vc (pI .i64 x2))] a w) K (fun a w ⟨_,hF,_⟩=>by cases hF) (fun k a w ⟨x2,hF,hh⟩=>gC ?_ hh) (fun a w hh=>⟨0,hL,gJ [] hh⟩)
 rw [l7.eq_2] at hF
 refine go ?_ ?_
 refine aJ hF rfl (fun h5 hF=>?_) (fun h5 hF=>?_)
 ·refine go ?_ ?_
  refine aS ?_
  obtain⟨v6,h7,v8,h9,hF⟩:=wP hF
  refine go ?_ ?_
  refine aQ (aC7 (pre:=fun x:(List Rat)=>[.vc (pS cQ x)]) (post:=fun r:Bool=>.vc (pB r)) (x:=v6) (r:=v8) rfl h9 rfl) zU2 ?_
  refine bT (aU (aJ hF rfl (fun h10 hF=>?_) (fun h10 hF=>?_)))
  ·exact cF
  obtain⟨v11,h12,hF⟩:=aZ hF
  refine go ?_ ?_
  exact aM (fun a w hh=>⟨v11,hF,gJ [] hh⟩)
 refine cR ?_
 obtain rfl:=pZ hF
 exact qZ Jj4 ⟨hRl3,rfl,rfl⟩ []
def p7 (K:Nat) (a0:List (List Rat)) (a1:((List Rat)→Option Bool)):Option Bool:=
 (oT K a0 a1).bind fun v1=>some (decide (0≤v1))
theorem aAe {K:Nat} {a0:List (List Rat)} {a1:((List Rat)→Option Bool)} {r:Bool} (hF:p7 K a0 a1=some r):Ct Tryz.prog 179 [.vc (pS (kK cQ) a0),.vc (pFn Tryz.prog (fun x:(List Rat)=>[.vc (pS cQ x)]) (fun r:Bool=>.vc (pB r)) a1)] (.vc (pB r)):=by
 unfold p7 at hF
 refine aG Tryz.func179 rfl (by kernel_rfl) Tryz.ntmps179 rfl (fun w0 M0=>?_)
 obtain⟨v1,h2,hF⟩:=bF hF wF
 exact cF
def vI (c0:List (List Rat)) (a0:List Rat):Option Bool:=
 (bL c0 0).bind fun v1=>some ((a0.length:Int) != (v1.length:Int))
theorem aEb {c0:List (List Rat)} {a0:List Rat} {r:Bool} (hF:vI c0 a0=some r):Ct Tryz.prog 180 [.vc (pS cQ a0),.vc (pM ((kK (kK cQ)).e c0))] (.vc (pB r)):=by
 unfold vI at hF
 refine aG Tryz.func180 rfl (by kernel_rfl) Tryz.ntmps180 rfl (fun w0 M0=>?_)
 obtain⟨v1,h2,hF⟩:=aZ hF
 exact cF
def aAL (K:Nat) (a0:List (List Rat)):Option Bool:=
 bif(decide ((a0.length:Int)≤64)) then((zC a0).bind fun v3=>bif(decide (v3≤64)) then((p7 K a0 (vI a0)).bind fun v6=>some (!v6)) else(some false)) else(some false)
theorem aFt {K:Nat} {a0:List (List Rat)} {r:Bool} (hF:aAL K a0=some r):Ct Tryz.prog 160 [.vc (pS (kK cQ) a0)] (.vc (pB r)):=by
 unfold aAL at hF
 refine aG Tryz.func160 rfl (by kernel_rfl) Tryz.ntmps160 rfl (fun w0 M0=>?_)
 refine aK (aR (cC rfl rfl trivial (fun b1=>?_)))
 refine go ?_ ?_
 refine eW hF (fun h2 hF=>?_) (fun h2 hF=>?_)
 ·obtain⟨v3,h4,hF⟩:=bF hF aCN
  refine go ?_ ?_
  refine eW hF (fun h5 hF=>?_) (fun h5 hF=>?_)
  ·refine aAa (fX 0 1 rfl rfl rfl rfl (.one tyO74)) zU1 ?_
   refine yO 0 [(1,0)] rfl zU1 rfl ?_
   refine aAa (aEL (φ:=(vI a0)) (pre:=fun x:(List Rat)=>[.vc (pS cQ x)]) (post:=fun r:Bool=>.vc (pB r)) (xs:=[.tmp 1]) (cs:=[pM ((kK (kK cQ)).e a0)]) rfl rfl (fun x r h=>aEb h)) zU1 ?_
   obtain⟨v6,h7,hF⟩:=bF hF aAe
   exact cF
  exact cF
 exact cF
def tY (K:Nat) (c0:((List Nat×List (List Rat))×List Int×Rat)) (x54:List Nat) (x60:List (List Rat)):Option ((List Nat×List (List Rat))×List Int×Rat):=
 some ((x54,x60),c0.2.1,c0.2.2)
def nE (K:Nat) (a0:Int) (a1:Int) (v22:Rat):Nat→(List Nat)→(List (List Rat))→Int→Option ((List Nat)×(List (List Rat)))
 |0,_,_,_=>none
 |k+1,x41,x47,x53=>(bL x41 a0).bind fun v68=>bif(decide (x53<((x47.getD v68 []).length:Int))) then((bL x41 a1).bind fun v71=>(bL (x47.getD v71 []) x53).bind fun v73=>(zN v73).bind fun v75=>bif(v75 != 0) then((bL x41 a0).bind fun v80=>(bL x41 a0).bind fun v82=>(bL (x47.getD v82 []) x53).bind fun v84=>(bL x41 a1).bind fun v86=>(bL (x47.getD v86 []) x53).bind fun v88=>(zR v22 v88).bind fun v90=>(aEl v84 v90).bind fun v92=>(bL (x47.getD v80 []) x53).bind fun v94=>(oO (x47.getD v80 []) x53 v92).bind fun x96=>(aT (x53+1)).bind fun v99=>nE K a0 a1 v22 k x41 (x47.set v80 x96) v99) else((aT (x53+1)).bind fun v101=>nE K a0 a1 v22 k x41 x47 v101)) else(some (x41,x47))
def yG (K:Nat) (c0:((List Nat×List (List Rat))×List Int×Rat)) (a0:Int) (a1:Int) (a2:Int):Option ((List Nat×List (List Rat))×List Int×Rat):=
 (bL c0.1.1 a0).bind fun v20=>(bL (c0.1.2.getD v20 []) a2).bind fun v22=>(zN v22).bind fun v25=>bif(v25==0) then(some ((c0.1.1,c0.1.2),c0.2.1,c0.2.2)) else((nE K a0 a1 v22 K c0.1.1 c0.1.2 a2).bind fun(x54,x60)=>tY K c0 x54 x60)
theorem aDc {K:Nat} {c0:((List Nat×List (List Rat))×List Int×Rat)} {a0:Int} {a1:Int} {a2:Int} {r:((List Nat×List (List Rat))×List Int×Rat)} (hF:yG K c0 a0 a1 a2=some r) {p0:Nat} {b5:Option Nat} {c6 n4:Nat} {g3:List u7} {N9:Nat} (q7:c0.1.1.length=n4) (q10:c0.1.2.length=N9) (q11:iE g3 c0.1.2) (q12:(∀k∈c0.1.1,k<N9)) {b16:Option Nat} {c17 n15:Nat} (q18:c0.2.1.length=n15):CtO Tryz.prog 181 ([⟨some p0,1,178,6,1,([pO b5 n4 c6]++[pO b16 n15 c17]++(eQ c0.2.2))⟩,hO (cH g3) b5 c6 24 n4 c0.1.1,hO cI b16 c17 3 n15 c0.2.1]++f8 cQ 32 g3 c0.1.2) [.vc (pI .i64 a0),.vc (pI .i64 a1),.vc (pI .i64 a2),.vc (pP (some p0) 0)] (fun Ho q=>∃b107 c108 n106 g105 N111,∃b118 c119 n117,r.1.1.length=n106∧r.1.2.length=N111∧iE g105 r.1.2∧(∀k∈r.1.1,k<N111)∧r.2.1.length=n117∧Ho=([⟨some p0,1,178,6,1,([pO b107 n106 c108]++[pO b118 n117 c119]++(eQ r.2.2))⟩,hO (cH g105) b107 c108 24 n106 r.1.1,hO cI b118 c119 3 n117 r.2.1]++f8 cQ 32 g105 r.1.2)∧q=.any):=by
 unfold yG at hF
 refine aG Tryz.func181 rfl (by kernel_rfl) Tryz.ntmps181 rfl (fun w0 M0=>?_)
 obtain⟨v20,h21,v22,h23,hF⟩:=wP hF
 refine go ?_ ?_
 refine aQ (gN (3+v20) rfl tyS24 (aAH 3 rfl q11 q10 (q12 _ (aV h21))) (gZ q11 q10 (q12 _ (aV h21))) (aN h23).1 (aN h23).2.1) zU2 ?_
 refine aQ (lE (k:=4) (3+v20) rfl (aAH 3 rfl q11 q10 (q12 _ (aV h21))) h23 rfl (.agg tyA32) rfl) zU1 ?_
 refine aO rfl tyZ32q (fun b24=>?_)
 obtain⟨v25,h26,hF⟩:=bF hF lN
 refine go ?_ ?_
 refine aJ hF rfl (fun h27 hF=>?_) (fun h27 hF=>?_)
 ·refine sT (sS ?_)
  obtain rfl:=pZ hF
  exact aAj (.inl rfl) Tryz.results181 .nil rfl 4 [1,2,3] rfl rfl (by decide) ⟨b5,c6,n4,g3,N9,b16,c17,n15,q7,q10,q11,q12,q18,rfl,rfl⟩
 refine go ?_ ?_
 refine aS (bV (fun H E=>∃(x54:List Nat),∃(x60:List (List Rat)),∃(b55:Option Nat),∃(c56:Nat),∃(n57:Nat),∃(g61:List u7),∃(N62:Nat),tY K c0 x54 x60=some r∧x54.length=n57∧x60.length=N62∧iE g61 x60∧(∀k∈x54,k<N62)∧H=([⟨some p0,1,178,6,1,([pO b55 n57 c56]++[pO b16 n15 c17]++(eQ c0.2.2))⟩,hO (cH g61) b55 c56 24 n57 x54,hO cI b16 c17 3 n15 c0.2.1]++f8 cQ 32 g61 x60)∧E=[(3,.vc (pP (some p0) 0))]) ?_ (fun Jj67=>?_))
 ·rintro _ _ ⟨x54,x60,b55,c56,n57,g61,N62,hF,q58,q63,q64,q65,rfl,rfl⟩
  unfold tY at hF
  obtain rfl:=pZ hF
  exact aAj (.inr rfl) Tryz.results181 .nil rfl 3 [0,1,2] rfl rfl (by decide) ⟨b55,c56,n57,g61,N62,b16,c17,n15,q58,q63,q64,q65,q18,rfl,rfl⟩
 obtain⟨⟨x54',x60'⟩,hL,hRl66⟩:=aZ hF
 refine gB (fun k a w=>∃(x41:List Nat),∃(x47:List (List Rat)),∃(x53:Int),∃(b42:Option Nat),∃(c43:Nat),∃(n44:Nat),∃(g48:List u7),∃(N49:Nat),nE K a0 a1 v22 k x41 x47 x53=some (x54',x60')∧x41.length=n44∧x47.length=N49∧iE g48 x47∧(∀k∈x41,k<N49)∧hs _ ([⟨some b24,1,32,4,1,(eQ v22)⟩,⟨some p0,1,178,6,1,([pO b42 n44 c43]++[pO b16 n15 c17]++(eQ c0.2.2))⟩,hO (cH g48) b42 c43 24 n44 x41,hO cI b16 c17 3 n15 c0.2.1]++f8 cQ 32 g48 x47) [(0,.vc (pI .i64 a0)),(1,.vc (pI .i64 a1)),(3,.vc (pP (some p0) 0)),(7,.vc (pP (some b24) 0)),(8,.vc (pI .i64 x53))] a w) K (fun a w ⟨_,_,_,_,_,_,_,_,hF,_,_,_,_,_⟩=>by cases hF) (fun k a w ⟨x41,x47,x53,b42,c43,n44,g48,N49,hF,q45,q50,q51,q52,hh⟩=>gC ?_ hh) (fun a w hh=>⟨c0.1.1,c0.1.2,a2,b5,c6,n4,g3,N9,hL,q7,q10,q11,q12,bR 4 [0,1,2,3] rfl rfl (by decide) (by exact⟨rfl,rfl,rfl,rfl,rfl,trivial⟩) hh⟩)
 rw [nE.eq_2] at hF
 obtain⟨v68,h69,hF⟩:=aZ hF
 refine go ?_ ?_
 refine aQ (aEd (C:=cQ) (xs:=(x47.getD v68 [])) (T:=32) rfl tyS24 (gZ q51 q50 (q52 _ (aV h69)))) zU1 ?_
 refine go ?_ ?_
 refine aJ hF rfl (fun h70 hF=>?_) (fun h70 hF=>?_)
 ·refine go ?_ ?_
  refine aS ?_
  obtain⟨v71,h72,v73,h74,hF⟩:=wP hF
  refine go ?_ ?_
  refine aQ (gN (4+v71) rfl tyS24 (aAH 4 rfl q51 q50 (q52 _ (aV h72))) (gZ q51 q50 (q52 _ (aV h72))) (aN h74).1 (aN h74).2.1) zU2 ?_
  refine aQ (lE (k:=4) (4+v71) rfl (aAH 4 rfl q51 q50 (q52 _ (aV h72))) h74 rfl (.agg tyA32) rfl) zU1 ?_
  obtain⟨v75,h76,hF⟩:=bF hF lN
  refine go ?_ ?_
  refine aJ hF rfl (fun h77 hF=>?_) (fun h77 hF=>?_)
  ·have hF:=sE h69 hF
   have hF:=sE h69 hF
   obtain⟨v84,h85,hF⟩:=aZ hF
   have hF:=sE h72 hF
   have hF:=sE h74 hF
   obtain⟨v90,h91,hF⟩:=bF hF mI
   obtain⟨v92,h93,hF⟩:=bF hF zA
   have hF:=sE h85 hF
   refine gT (0::1::0::7::15::0::0::64::0::448::960::0::4032::8128::0::0::32768::0::229376::491520::0::2064384::4161536::8372224::16777152::33554431::67108863::[]) 26 1 (.v (.vc (pP (some p0) 0))::.v (.vc (pO b42 n44 c43))::.v (.vc (pI .i64 a0))::.v (.vc (pE b42 a0 (cH g48).n 0))::.v (.vc (pO (gX g48 v68).1 (gX g48 v68).2.1 (gX g48 v68).2.2))::.v (.vc (pI .i64 x53))::.v (.vc (pP (some p0) 0))::.v (.vc (pO b42 n44 c43))::.v (.vc (pI .i64 a0))::.v (.vc (pE b42 a0 (cH g48).n 0))::.v (.vc (pO (gX g48 v68).1 (gX g48 v68).2.1 (gX g48 v68).2.2))::.v (.vc (pI .i64 x53))::.v (.vc (pE (gX g48 v68).1 x53 cQ.n 0))::.v (.va (eQ v84))::.v (.va (eQ v22))::.v (.vc (pP (some p0) 0))::.v (.vc (pO b42 n44 c43))::.v (.vc (pI .i64 a1))::.v (.vc (pE b42 a1 (cH g48).n 0))::.v (.vc (pO (gX g48 v71).1 (gX g48 v71).2.1 (gX g48 v71).2.2))::.v (.vc (pI .i64 x53))::.v (.vc (pE (gX g48 v71).1 x53 cQ.n 0))::.v (.va (eQ v73))::.v (.va (eQ v90))::.v (.va (eQ v92))::.v (.vc (pE (gX g48 v68).1 x53 cQ.n 0))::[]) bC ⟨d0 (iU (off:=0) (k:=0) rfl tyF178_0) zU1,d0 (fX 1 1 rfl rfl rfl rfl (.one tyO74)) zU1,d0 (bB (.inl rfl)) zU1,d0 (gN (C:=(cH g48)) 2 rfl tyS74 rfl q45 (aN h69).1 (aN h69).2.1) zU2,d0 (lE (C:=(cH g48)) (k:=1) 2 rfl rfl h69 rfl (.one tyO24) rfl) zU1,d0 (bB (.inl rfl)) zU1,d0 (iU (off:=0) (k:=0) rfl tyF178_0) zU1,d0 (fX 1 1 rfl rfl rfl rfl (.one tyO74)) zU1,d0 (bB (.inl rfl)) zU1,d0 (gN (C:=(cH g48)) 2 rfl tyS74 rfl q45 (aN h69).1 (aN h69).2.1) zU2,d0 (lE (C:=(cH g48)) (k:=1) 2 rfl rfl h69 rfl (.one tyO24) rfl) zU1,d0 (bB (.inl rfl)) zU1,d0 (gN (4+v68) rfl tyS24 (iC 4 rfl q51 q50 (q52 _ (aV h69))) (gZ q51 q50 (q52 _ (aV h69))) (aN h85).1 (aN h85).2.1) zU2,d0 (lE (k:=4) (4+v68) rfl (iC 4 rfl q51 q50 (q52 _ (aV h69))) h85 rfl (.agg tyA32) rfl) zU1,d0 (fX 0 4 rfl rfl rfl rfl (.agg tyA32)) zU1,d0 (iU (off:=0) (k:=0) rfl tyF178_0) zU1,d0 (fX 1 1 rfl rfl rfl rfl (.one tyO74)) zU1,d0 (bB (.inl rfl)) zU1,d0 (gN (C:=(cH g48)) 2 rfl tyS74 rfl q45 (aN h72).1 (aN h72).2.1) zU2,d0 (lE (C:=(cH g48)) (k:=1) 2 rfl rfl h72 rfl (.one tyO24) rfl) zU1,d0 (bB (.inl rfl)) zU1,d0 (gN (4+v71) rfl tyS24 (iC 4 rfl q51 q50 (q52 _ (aV h72))) (gZ q51 q50 (q52 _ (aV h72))) (aN h74).1 (aN h74).2.1) zU2,d0 (lE (k:=4) (4+v71) rfl (iC 4 rfl q51 q50 (q52 _ (aV h72))) h74 rfl (.agg tyA32) rfl) zU1,d0 (cS rfl h91 rfl) zU2,d0 (cS rfl h93 rfl) zU2,d0 (gN (4+v68) rfl tyS24 (iC 4 rfl q51 q50 (q52 _ (aV h69))) (gZ q51 q50 (q52 _ (aV h69))) (aN h85).1 (aN h85).2.1) zU2,trivial⟩ (fun bs79 G78=>?_)
   obtain⟨x96,h97,hF⟩:=aZ hF
   refine mR (xV (H':=([⟨some b24,1,32,4,1,(eQ v22)⟩,⟨some p0,1,178,6,1,([pO b42 n44 c43]++[pO b16 n15 c17]++(eQ c0.2.2))⟩,hO (cH g48) b42 c43 24 n44 x41,hO cI b16 c17 3 n15 c0.2.1]++f8 cQ 32 g48 (x47.set v68 x96))) (4+v68) rfl (aAH 4 rfl q51 q50 (q52 _ (aV h69))) h85 h97 tyA32.s (hH:=stN 4 rfl q51 q50 (q52 _ (aV h69)))) zU2 ?_
   obtain⟨v99,h100,hF⟩:=aZ hF
   refine go ?_ ?_
   exact aM (fun a w hh=>⟨x41,(x47.set v68 x96),v99,b42,c43,n44,g48,N49,hF,q45,(uG q50),(yW q51 q50 (q52 _ (aV h69)) (bK h97 rfl)),q52,bR 4 [0,1,2,3] rfl rfl (by decide) (by exact⟨rfl,rfl,rfl,rfl,rfl,trivial⟩) hh⟩)
  obtain⟨v101,h102,hF⟩:=aZ hF
  refine go ?_ ?_
  exact aM (fun a w hh=>⟨x41,x47,v101,b42,c43,n44,g48,N49,hF,q45,q50,q51,q52,bR 4 [0,1,2,3] rfl rfl (by decide) (by exact⟨rfl,rfl,rfl,rfl,rfl,trivial⟩) hh⟩)
 refine cR ?_
 obtain⟨rfl,rfl⟩:=sm2 hF
 exact lD Jj67 ⟨x41,x47,b42,c43,n44,g48,N49,hRl66,q45,q50,q51,q52,rfl,rfl⟩ 4 [1,2,3] rfl rfl zU1
def rH (c0:Int) (a0:List Rat):Option Bool:=
 (bL a0 c0).bind fun v1=>(zN v1).bind fun v3=>some (v3 != 0)
theorem aDQ {c0:Int} {a0:List Rat} {r:Bool} (hF:rH c0 a0=some r):Ct Tryz.prog 183 [.vc (pS cQ a0),.vc (pM (cI.e c0))] (.vc (pB r)):=by
 unfold rH at hF
 refine aG Tryz.func183 rfl (by kernel_rfl) Tryz.ntmps183 rfl (fun w0 M0=>?_)
 obtain⟨v1,h2,hF⟩:=aZ hF
 obtain⟨v3,h4,hF⟩:=bF hF lN
 exact cF
def uM (K:Nat) (x104:List Int) (x110:List Nat) (x116:List (List Rat)) (x122:Rat):Option iV:=
 some (⟨(aBb x116 x110),x104,x122⟩:iV)
def uU (K:Nat) (x103:Int) (recl123:(List Int)→(List Nat)→(List (List Rat))→Rat→Int→Option ((List Int)×(List Nat)×(List (List Rat))×Rat)) (x238:List Int) (x244:List Nat) (x250:List (List Rat)) (x256:Rat):Option ((List Int)×(List Nat)×(List (List Rat))×Rat):=
 (qR x238 [x103]).bind fun x259=>(aT (x103+1)).bind fun v266=>recl123 x259 x244 x250 x256 v266
def oI (K:Nat) (x84:List Int) (x103:Int) (x184:List Nat):Nat→(List Int)→(List Nat)→(List (List Rat))→Rat→Int→Option ((List Int)×(List Nat)×(List (List Rat))×Rat)
 |0,_,_,_,_,_=>none
 |k+1,x218,x224,x230,x236,x237=>bif(decide (x237<(x184.length:Int))) then(bif(x237 != (x84.length:Int)) then((yG K ((x224,x230),x218,x236) x237 (x84.length:Int) x103).bind fun v270=>(aT (x237+1)).bind fun v291=>oI K x84 x103 x184 k v270.2.1 v270.1.1 v270.1.2 v270.2.2 v291) else((aT (x237+1)).bind fun v293=>oI K x84 x103 x184 k x218 x224 x230 x236 v293)) else(some (x218,x224,x230,x236))
def uX (K:Nat) (x84:List Int) (x103:Int) (v156:Rat) (recl123:(List Int)→(List Nat)→(List (List Rat))→Rat→Int→Option ((List Int)×(List Nat)×(List (List Rat))×Rat)) (x184:List Nat) (x190:List (List Rat)):Option ((List Int)×(List Nat)×(List (List Rat))×Rat):=
 (oI K x84 x103 x184 K x84 x184 x190 v156 0).bind fun(x238,x244,x250,x256)=>uU K x103 recl123 x238 x244 x250 x256
def rK (K:Nat) (x84:List Int) (v154:Rat):Nat→(List Nat)→(List (List Rat))→Int→Option ((List Nat)×(List (List Rat)))
 |0,_,_,_=>none
 |k+1,x171,x177,x183=>(bL x171 (x84.length:Int)).bind fun v295=>bif(decide (x183<((x177.getD v295 []).length:Int))) then((bL x171 (x84.length:Int)).bind fun v300=>(bL x171 (x84.length:Int)).bind fun v302=>(bL (x177.getD v302 []) x183).bind fun v304=>(aFz v304 v154).bind fun v306=>(bL (x177.getD v300 []) x183).bind fun v308=>(oO (x177.getD v300 []) x183 v306).bind fun x310=>(aT (x183+1)).bind fun v313=>rK K x84 v154 k x171 (x177.set v300 x310) v313) else(some (x171,x177))
def rM (K:Nat) (x84:List Int) (x103:Int) (recl123:(List Int)→(List Nat)→(List (List Rat))→Rat→Int→Option ((List Int)×(List Nat)×(List (List Rat))×Rat)) (x136:List Nat) (x142:List (List Rat)) (x148:Rat):Option ((List Int)×(List Nat)×(List (List Rat))×Rat):=
 (bL x136 (x84.length:Int)).bind fun v152=>(bL (x142.getD v152 []) x103).bind fun v154=>(zR x148 v154).bind fun v156=>(rK K x84 v154 K x136 x142 x103).bind fun(x184,x190)=>uX K x84 x103 v156 recl123 x184 x190
def fV (K:Nat) (a1:Int):Nat→(List Int)→(List Nat)→(List (List Rat))→Rat→Int→Option ((List Int)×(List Nat)×(List (List Rat))×Rat)
 |0,_,_,_,_,_=>none
 |k+1,x84,x90,x96,x102,x103=>bif(decide (x103<a1)) then((slL (aBb x96 x90) (x84.length:Int) ((aBb x96 x90).length:Int)).bind fun x128=>(oT K x128 (rH x103)).bind fun v130=>bif(decide (v130<0)) then((aT (x103+1)).bind fun v133=>fV K a1 k x84 x90 x96 x102 v133) else(bif(decide (0<v130)) then((aT ((x84.length:Int)+v130)).bind fun v318=>(aT ((x84.length:Int)+v130)).bind fun v320=>(bL x90 v320).bind fun v322=>(bL x90 (x84.length:Int)).bind fun v324=>(bL x90 (x84.length:Int)).bind fun v326=>(oO x90 (x84.length:Int) v322).bind fun x328=>(bL x328 v318).bind fun v331=>(oO x328 v318 v324).bind fun x334=>(aEz x102).bind fun v337=>rM K x84 x103 (fV K a1 k) x334 x96 v337) else(rM K x84 x103 (fV K a1 k) x90 x96 x102))) else(some (x84,x90,x96,x102))
def vX (K:Nat) (a1:Int) (v2:Rat) (x50:List Nat) (x56:List (List Rat)):Option iV:=
 (fV K a1 K ([]:List Int) x50 x56 v2 0).bind fun(x104,x110,x116,x122)=>uM K x104 x110 x116 x122
def rX (K:Nat) (a0:List (List Rat)):Nat→(List Nat)→(List (List Rat))→Int→Option ((List Nat)×(List (List Rat)))
 |0,_,_,_=>none
 |k+1,x37,x43,x49=>bif(decide (x49<(a0.length:Int))) then((bL a0 x49).bind fun v340=>(nR v340).bind fun v344=>(qR x37 [x43.length]).bind fun x353=>(aT (x49+1)).bind fun v360=>rX K a0 k x353 (x43++[v344]) v360) else(some (x37,x43))
def zY (K:Nat) (a0:List (List Rat)) (a1:Int):Option iV:=
 (qof 1 1).bind fun v2=>(rX K a0 K ([]:List Nat) ([]:List (List Rat)) 0).bind fun(x50,x56)=>vX K a1 v2 x50 x56
theorem aEN {K:Nat} {a0:List (List Rat)} {a1:Int} {r:iV} (hF:zY K a0 a1=some r):Ct Tryz.prog 162 [.vc (pS (kK cQ) a0),.vc (pI .i64 a1)] (.va (iV.enc r)):=by
 unfold zY at hF
 refine aG Tryz.func162 rfl (by kernel_rfl) Tryz.ntmps162 rfl (fun w0 M0=>?_)
 refine aK (aR (aO rfl tyZ178q (fun b1=>?_)))
 refine bT (aU (aK (aR ?_)))
 obtain⟨v2,h3,hF⟩:=bF hF xE
 refine aQ (cS rfl h3 rfl) ⟨lY _ _,lY _ _,trivial⟩ ?_
 refine aLv cQ 32 ?_
 refine aCc (cH ([]:List u7)) 24 ?_
 refine aCc cI 3 ?_
 refine aQ (dY (is:=[2]) (xs:=[.tmp 15]) (ps:=[.va (eQ v2)]) rfl tyB178_o0_o1q rfl rfl ⟨trivial,trivial⟩ rfl) zU1 ?_
 refine aO rfl tyZ178q (fun b23=>?_)
 refine go ?_ ?_
 refine aS (bV (fun H E=>∃(x50:List Nat),∃(x56:List (List Rat)),∃(b51:Option Nat),∃(c52:Nat),∃(n53:Nat),∃(g57:List u7),∃(N58:Nat),vX K a1 v2 x50 x56=some r∧x50.length=n53∧x56.length=N58∧iE g57 x56∧(∀k∈x50,k<N58)∧H=([⟨some b23,1,178,6,1,([pO b51 n53 c52]++[pO none 0 0]++(eQ v2))⟩,hO cI none 0 3 0 ([]:List Int),hO (cH g57) b51 c52 24 n53 x50,⟨some b1,1,178,6,1,([pS (kK cQ) ([]:List (List Rat))]++[pS cI ([]:List Int)]++(eQ 0))⟩]++f8 cQ 32 g57 x56)∧E=[(1,.vc (pI .i64 a1)),(4,.vc (pP (some b1) 0)),(5,.vc (pP (some b23) 0))]) ?_ (fun Jj63=>?_))
 ·rintro _ _ ⟨x50,x56,b51,c52,n53,g57,N58,hF,q54,q59,q60,q61,rfl,rfl⟩
  unfold vX at hF
  refine go ?_ ?_
  refine aQ (aGy (xs:=[.tmp 5]) (cs:=[pP (some b23) 0]) rfl rfl) zU1 ?_
  refine go ?_ ?_
  refine aS (bV (fun H E=>∃(x104:List Int),∃(x110:List Nat),∃(x116:List (List Rat)),∃(x122:Rat),∃(b105:Option Nat),∃(c106:Nat),∃(n107:Nat),∃(b111:Option Nat),∃(c112:Nat),∃(n113:Nat),∃(g117:List u7),∃(N118:Nat),uM K x104 x110 x116 x122=some r∧x104.length=n107∧x110.length=n113∧x116.length=N118∧iE g117 x116∧(∀k∈x110,k<N118)∧H=([⟨some b23,1,178,6,1,([pO b111 n113 c112]++[pO b105 n107 c106]++(eQ x122))⟩,hO cI b105 c106 3 n107 x104,hO (cH g117) b111 c112 24 n113 x110,⟨some b1,1,178,6,1,([pS (kK cQ) ([]:List (List Rat))]++[pS cI ([]:List Int)]++(eQ 0))⟩]++f8 cQ 32 g117 x116)∧E=[(4,.vc (pP (some b1) 0)),(5,.vc (pP (some b23) 0))]) ?_ (fun Jj124=>?_))
  ·rintro _ _ ⟨x104,x110,x116,x122,b105,c106,n107,b111,c112,n113,g117,N118,hF,q108,q114,q119,q120,q121,rfl,rfl⟩
   unfold uM at hF
   refine aU (aK (aR (aUp 2 4 rfl rfl q120 (aDO q119 q121) ?_)))
   refine aBB 2 0 0 rfl ((aCF _ _).trans q114) rfl rfl rfl rfl rfl ?_
   refine aBB 1 0 1 rfl q108 rfl rfl rfl rfl rfl ?_
   exact cF
  obtain⟨⟨x104',x110',x116',x122'⟩,hL,hRl123⟩:=aZ hF
  refine gB (fun k a w=>∃(x84:List Int),∃(x90:List Nat),∃(x96:List (List Rat)),∃(x102:Rat),∃(x103:Int),∃(b85:Option Nat),∃(c86:Nat),∃(n87:Nat),∃(b91:Option Nat),∃(c92:Nat),∃(n93:Nat),∃(g97:List u7),∃(N98:Nat),fV K a1 k x84 x90 x96 x102 x103=some (x104',x110',x116',x122')∧x84.length=n87∧x90.length=n93∧x96.length=N98∧iE g97 x96∧(∀k∈x90,k<N98)∧hs _ ([⟨some b23,1,178,6,1,([pO b91 n93 c92]++[pO b85 n87 c86]++(eQ x102))⟩,hO cI b85 c86 3 n87 x84,hO (cH g97) b91 c92 24 n93 x90,⟨some b1,1,178,6,1,([pS (kK cQ) ([]:List (List Rat))]++[pS cI ([]:List Int)]++(eQ 0))⟩]++f8 cQ 32 g97 x96) [(4,.vc (pP (some b1) 0)),(5,.vc (pP (some b23) 0)),(8,.vc (pF 181 [pP (some b23) 0])),(32,.vc (pI .i64 a1)),(33,.vc (pI .i64 x103))] a w) K (fun a w ⟨_,_,_,_,_,_,_,_,_,_,_,_,_,hF,_,_,_,_,_,_⟩=>by cases hF) (fun k a w ⟨x84,x90,x96,x102,x103,b85,c86,n87,b91,c92,n93,g97,N98,hF,q88,q94,q99,q100,q101,hh⟩=>gC ?_ hh) (fun a w hh=>⟨([]:List Int),x50,x56,v2,0,none,0,0,b51,c52,n53,g57,N58,hL,rfl,q54,q59,q60,q61,bR 4 [0,1,2,3] rfl rfl (by decide) (by exact⟨rfl,rfl,rfl,rfl,rfl,trivial⟩) hh⟩)
  rw [fV.eq_2] at hF
  refine go ?_ ?_
  refine aJ hF rfl (fun h126 hF=>?_) (fun h126 hF=>?_)
  ·refine go ?_ ?_
   refine aS (go ?_ ?_)
   refine aO rfl tyZ3q (fun b127=>?_)
   obtain⟨x128,h129,hF⟩:=aZ hF
   refine go ?_ ?_
   refine aQ (aTd (i:=3) rfl tyS74 rfl rfl rfl rfl (aKO h129).1 (aTH h129 q94)) zU2 ?_
   refine yO 0 [(9,0)] rfl zU1 rfl ?_
   refine aQ (aEL (φ:=(rH x103)) (pre:=fun x:(List Rat)=>[.vc (pS cQ x)]) (post:=fun r:Bool=>.vc (pB r)) (xs:=[.tmp 9]) (cs:=[pM (cI.e x103)]) rfl rfl (fun x r h=>aDQ h)) zU1 ?_
   obtain⟨v130,h131,hF⟩:=bF hF wF
   refine aQ (aQm (pre':=[.vc (pC (pO b91 n93 c92) (x84.length:Int).toNat 1),.vc (pFn Tryz.prog (fun x:(List Rat)=>[.vc (pS cQ x)]) (fun r:Bool=>.vc (pB r)) (rH x103))]) rfl h131 rfl (aUC (aKO h129).2.2 (aP5 2 4 [] (by rw [List.append_nil];rfl) rfl q100 (aDO q99 q101) q94)) (fun _ _ _ h=>h)) zU2 ?_
   refine go ?_ ?_
   refine aJ hF rfl (fun h132 hF=>?_) (fun h132 hF=>?_)
   ·refine cR ?_
    obtain⟨v133,h134,hF⟩:=aZ hF
    refine go ?_ ?_
    exact aM (fun a w hh=>⟨x84,x90,x96,x102,v133,b85,c86,n87,b91,c92,n93,g97,N98,hF,q88,q94,q99,q100,q101,bR 4 [0,1,2,3] rfl rfl (by decide) (by exact⟨rfl,rfl,rfl,rfl,rfl,trivial⟩) hh⟩)
   refine iP (aU (aK (xZ (fun H E=>∃(x136:List Nat),∃(x142:List (List Rat)),∃(x148:Rat),∃(b137:Option Nat),∃(c138:Nat),∃(n139:Nat),∃(g143:List u7),∃(N144:Nat),rM K x84 x103 (fV K a1 k) x136 x142 x148=some (x104',x110',x116',x122')∧x136.length=n139∧x142.length=N144∧iE g143 x142∧(∀k∈x136,k<N144)∧H=([⟨some b23,1,178,6,1,([pO b137 n139 c138]++[pO b85 n87 c86]++(eQ x148))⟩,hO cI b85 c86 3 n87 x84,hO (cH g143) b137 c138 24 n139 x136,⟨some b1,1,178,6,1,([pS (kK cQ) ([]:List (List Rat))]++[pS cI ([]:List Int)]++(eQ 0))⟩]++f8 cQ 32 g143 x142)∧E=[(4,.vc (pP (some b1) 0)),(5,.vc (pP (some b23) 0)),(8,.vc (pF 181 [pP (some b23) 0])),(9,.vc (pM (cI.e x103))),(10,.vc (pI .i64 (x84.length:Int))),(32,.vc (pI .i64 a1)),(33,.vc (pI .i64 x103))]) ?_ (fun Jj149=>?_))))
   ·rintro _ _ ⟨x136,x142,x148,b137,c138,n139,g143,N144,hF,q140,q145,q146,q147,rfl,rfl⟩
    unfold rM at hF
    refine aK ?_
    obtain⟨v152,h153,hF⟩:=aZ hF
    obtain⟨v154,h155,hF⟩:=aZ hF
    refine gT [0,1,0,7,15,0,63,127,0,511] 9 1 [.v (.vc (pP (some b23) 0)),.v (.vc (pO b137 n139 c138)),.v (.vc (pI .i64 (x84.length:Int))),.v (.vc (pE b137 (x84.length:Int) (cH g143).n 0)),.v (.vc (pO (gX g143 v152).1 (gX g143 v152).2.1 (gX g143 v152).2.2)),.v (.vc (pI .i64 x103)),.v (.vc (pE (gX g143 v152).1 x103 cQ.n 0)),.v (.va (eQ v154)),.a 32 (eQ 0)] bC ⟨d0 (iU (off:=0) (k:=0) rfl tyF178_0) zU1,d0 (fX 0 1 rfl rfl rfl rfl (.one tyO74)) zU1,d0 (bB (.inl rfl)) zU1,d0 (gN (C:=(cH g143)) 2 rfl tyS74 rfl q140 (aN h153).1 (aN h153).2.1) zU2,d0 (lE (C:=(cH g143)) (k:=1) 2 rfl rfl h153 rfl (.one tyO24) rfl) zU1,d0 (aAP 1 rfl rfl (.one tyO3)) zU1,d0 (gN (4+v152) rfl tyS24 (iC 4 rfl q146 q145 (q147 _ (aV h153))) (gZ q146 q145 (q147 _ (aV h153))) (aN h155).1 (aN h155).2.1) zU2,d0 (lE (k:=4) (4+v152) rfl (iC 4 rfl q146 q145 (q147 _ (aV h153))) h155 rfl (.agg tyA32) rfl) zU1,⟨rfl,.alc tyZ32q⟩,trivial⟩ (fun bs151 G150=>?_)
    obtain⟨v156,h157,hF⟩:=bF hF mI
    refine go ?_ ?_
    refine aS (bV (fun H E=>∃(x184:List Nat),∃(x190:List (List Rat)),∃(b185:Option Nat),∃(c186:Nat),∃(n187:Nat),∃(g191:List u7),∃(N192:Nat),uX K x84 x103 v156 (fV K a1 k) x184 x190=some (x104',x110',x116',x122')∧x184.length=n187∧x190.length=N192∧iE g191 x190∧(∀k∈x184,k<N192)∧H=([⟨some b23,1,178,6,1,([pO b185 n187 c186]++[pO b85 n87 c86]++(eQ v156))⟩,hO cI b85 c86 3 n87 x84,hO (cH g191) b185 c186 24 n187 x184,⟨some b1,1,178,6,1,([pS (kK cQ) ([]:List (List Rat))]++[pS cI ([]:List Int)]++(eQ 0))⟩]++f8 cQ 32 g191 x190)∧E=[(4,.vc (pP (some b1) 0)),(5,.vc (pP (some b23) 0)),(8,.vc (pF 181 [pP (some b23) 0])),(9,.vc (pM (cI.e x103))),(10,.vc (pI .i64 (x84.length:Int))),(32,.vc (pI .i64 a1)),(33,.vc (pI .i64 x103))]) ?_ (fun Jj197=>?_))
    ·rintro _ _ ⟨x184,x190,b185,c186,n187,g191,N192,hF,q188,q193,q194,q195,rfl,rfl⟩
     unfold uX at hF
     refine go ?_ ?_
     refine aS (bV (fun H E=>∃(x238:List Int),∃(x244:List Nat),∃(x250:List (List Rat)),∃(x256:Rat),∃(b239:Option Nat),∃(c240:Nat),∃(n241:Nat),∃(b245:Option Nat),∃(c246:Nat),∃(n247:Nat),∃(g251:List u7),∃(N252:Nat),uU K x103 (fV K a1 k) x238 x244 x250 x256=some (x104',x110',x116',x122')∧x238.length=n241∧x244.length=n247∧x250.length=N252∧iE g251 x250∧(∀k∈x244,k<N252)∧H=([⟨some b23,1,178,6,1,([pO b245 n247 c246]++[pO b239 n241 c240]++(eQ x256))⟩,hO cI b239 c240 3 n241 x238,hO (cH g251) b245 c246 24 n247 x244,⟨some b1,1,178,6,1,([pS (kK cQ) ([]:List (List Rat))]++[pS cI ([]:List Int)]++(eQ 0))⟩]++f8 cQ 32 g251 x250)∧E=[(4,.vc (pP (some b1) 0)),(5,.vc (pP (some b23) 0)),(8,.vc (pF 181 [pP (some b23) 0])),(9,.vc (pM (cI.e x103))),(32,.vc (pI .i64 a1)),(33,.vc (pI .i64 x103))]) ?_ (fun Jj258=>?_))
     ·rintro _ _ ⟨x238,x244,x250,x256,b239,c240,n241,b245,c246,n247,g251,N252,hF,q242,q248,q253,q254,q255,rfl,rfl⟩
      unfold uU at hF
      refine go ?_ ?_
      refine aQ (oM (C:=cI) (xs:=[.tmp 133]) (ps:=[.vc (pI .i64 x103)]) (zs:=[x103]) rfl tyS22 rfl ⟨⟨trivial,rfl⟩,trivial⟩ rfl) zU1 ?_
      obtain⟨x259,h260,hF⟩:=aZ hF
      refine nH 1 rfl tyS22 rfl rfl q242 rfl rfl h260 (fun b261 c262 H263 e264=>?_)
      cases e264
      obtain⟨v266,h267,hF⟩:=aZ hF
      refine go ?_ ?_
      exact aM (fun a w hh=>⟨x259,x244,x250,x256,v266,b261,c262,(n241+[x103].length),b245,c246,n247,g251,N252,hF,(eJ h260 q242),q248,q253,q254,q255,bR 4 [0,1,2,3] rfl rfl (by decide) (by exact⟨rfl,rfl,rfl,rfl,rfl,trivial⟩) hh⟩)
     obtain⟨⟨x238',x244',x250',x256'⟩,hL,hRl257⟩:=aZ hF
     refine gB (fun k a w=>∃(x218:List Int),∃(x224:List Nat),∃(x230:List (List Rat)),∃(x236:Rat),∃(x237:Int),∃(b219:Option Nat),∃(c220:Nat),∃(n221:Nat),∃(b225:Option Nat),∃(c226:Nat),∃(n227:Nat),∃(g231:List u7),∃(N232:Nat),oI K x84 x103 x184 k x218 x224 x230 x236 x237=some (x238',x244',x250',x256')∧x218.length=n221∧x224.length=n227∧x230.length=N232∧iE g231 x230∧(∀k∈x224,k<N232)∧hs _ ([⟨some b23,1,178,6,1,([pO b225 n227 c226]++[pO b219 n221 c220]++(eQ x236))⟩,hO cI b219 c220 3 n221 x218,hO (cH g231) b225 c226 24 n227 x224,⟨some b1,1,178,6,1,([pS (kK cQ) ([]:List (List Rat))]++[pS cI ([]:List Int)]++(eQ 0))⟩]++f8 cQ 32 g231 x230) [(4,.vc (pP (some b1) 0)),(5,.vc (pP (some b23) 0)),(8,.vc (pF 181 [pP (some b23) 0])),(9,.vc (pM (cI.e x103))),(10,.vc (pI .i64 (x84.length:Int))),(32,.vc (pI .i64 a1)),(33,.vc (pI .i64 x103)),(118,.vc (pI .i64 (x184.length:Int))),(119,.vc (pI .i64 x237))] a w) K (fun a w ⟨_,_,_,_,_,_,_,_,_,_,_,_,_,hF,_,_,_,_,_,_⟩=>by cases hF) (fun k a w ⟨x218,x224,x230,x236,x237,b219,c220,n221,b225,c226,n227,g231,N232,hF,q222,q228,q233,q234,q235,hh⟩=>gC ?_ hh) (fun a w hh=>⟨x84,x184,x190,v156,0,b85,c86,n87,b185,c186,n187,g191,N192,hL,q88,q188,q193,q194,q195,bR 4 [0,1,2,3] rfl rfl (by decide) (by exact⟨rfl,rfl,rfl,rfl,rfl,rfl,rfl,rfl,rfl,trivial⟩) hh⟩)
     rw [oI.eq_2] at hF
     refine go ?_ ?_
     refine aJ hF rfl (fun h268 hF=>?_) (fun h268 hF=>?_)
     ·refine go ?_ ?_
      refine aS (go ?_ ?_)
      refine aJ hF rfl (fun h269 hF=>?_) (fun h269 hF=>?_)
      ·obtain⟨v270,h271,hF⟩:=aZ hF
       refine go ?_ ?_
       refine wK (f:=181) (cs:=[pP (some b23) 0]) (pre:=[.vc (pI .i64 x237),.vc (pI .i64 (x84.length:Int)),.vc (pI .i64 x103)]) (xs:=[.tmp 126,.tmp 127,.tmp 128]) 4 [0,2,1] [3] rfl (aDc h271 q228 q233 q234 q235 q222) ⟨rfl,rfl,rfl,rfl,trivial⟩ rfl rfl rfl (by decide) ?_
       rintro _ _ ⟨b276,c277,n275,g274,N280,b287,c288,n286,q278,q281,q282,q283,q289,rfl,rfl⟩
       refine s8 (p8 [⟨some b23,1,178,6,1,([pO b276 n275 c277]++[pO b287 n286 c288]++(eQ v270.2.2))⟩,hO (cH g274) b276 c277 24 n275 v270.1.1,hO cI b287 c288 3 n286 v270.2.1] (f8 cQ 32 g274 v270.1.2) [⟨some b1,1,178,6,1,([pS (kK cQ) ([]:List (List Rat))]++[pS cI ([]:List Int)]++(eQ 0))⟩]) ?_
       obtain⟨v291,h292,hF⟩:=aZ hF
       refine go ?_ ?_
       exact aM (fun a w hh=>⟨v270.2.1,v270.1.1,v270.1.2,v270.2.2,v291,b287,c288,n286,b276,c277,n275,g274,N280,hF,q289,q278,q281,q282,q283,bR 4 [0,2,1,3] rfl rfl (by decide) (by exact⟨rfl,rfl,rfl,rfl,rfl,rfl,rfl,rfl,rfl,trivial⟩) hh⟩)
      obtain⟨v293,h294,hF⟩:=aZ hF
      refine go ?_ ?_
      exact aM (fun a w hh=>⟨x218,x224,x230,x236,v293,b219,c220,n221,b225,c226,n227,g231,N232,hF,q222,q228,q233,q234,q235,bR 4 [0,1,2,3] rfl rfl (by decide) (by exact⟨rfl,rfl,rfl,rfl,rfl,rfl,rfl,rfl,rfl,trivial⟩) hh⟩)
     refine cR ?_
     obtain⟨rfl,rfl,rfl,rfl⟩:=sm4 hF
     exact lD Jj258 ⟨x218,x224,x230,x236,b219,c220,n221,b225,c226,n227,g231,N232,hRl257,q222,q228,q233,q234,q235,rfl,rfl⟩ 4 [0,1,2,3] rfl rfl ⟨rfl,rfl,rfl,rfl,rfl,rfl,trivial⟩
    obtain⟨⟨x184',x190'⟩,hL,hRl196⟩:=aZ hF
    refine gB (fun k a w=>∃(x171:List Nat),∃(x177:List (List Rat)),∃(x183:Int),∃(b172:Option Nat),∃(c173:Nat),∃(n174:Nat),∃(g178:List u7),∃(N179:Nat),rK K x84 v154 k x171 x177 x183=some (x184',x190')∧x171.length=n174∧x177.length=N179∧iE g178 x177∧(∀k∈x171,k<N179)∧hs _ ([⟨some (bs151 8),1,32,4,1,(eQ v154)⟩,⟨some b23,1,178,6,1,([pO b172 n174 c173]++[pO b85 n87 c86]++(eQ v156))⟩,hO cI b85 c86 3 n87 x84,hO (cH g178) b172 c173 24 n174 x171,⟨some b1,1,178,6,1,([pS (kK cQ) ([]:List (List Rat))]++[pS cI ([]:List Int)]++(eQ 0))⟩]++f8 cQ 32 g178 x177) [(4,.vc (pP (some b1) 0)),(5,.vc (pP (some b23) 0)),(8,.vc (pF 181 [pP (some b23) 0])),(9,.vc (pM (cI.e x103))),(10,.vc (pI .i64 (x84.length:Int))),(12,.vc (pP (some (bs151 8)) 0)),(13,.vc (pI .i64 x183)),(32,.vc (pI .i64 a1)),(33,.vc (pI .i64 x103))] a w) K (fun a w ⟨_,_,_,_,_,_,_,_,hF,_,_,_,_,_⟩=>by cases hF) (fun k a w ⟨x171,x177,x183,b172,c173,n174,g178,N179,hF,q175,q180,q181,q182,hh⟩=>gC ?_ hh) (fun a w hh=>⟨x136,x142,x103,b137,c138,n139,g143,N144,hL,q140,q145,q146,q147,bR 5 [0,1,2,3,4] rfl rfl (by decide) (by exact⟨rfl,rfl,rfl,rfl,rfl,rfl,rfl,rfl,rfl,trivial⟩) hh⟩)
    rw [rK.eq_2] at hF
    obtain⟨v295,h296,hF⟩:=aZ hF
    refine go ?_ ?_
    refine aQ (aEd (C:=cQ) (xs:=(x177.getD v295 [])) (T:=32) rfl tyS24 (gZ q181 q180 (q182 _ (aV h296)))) zU1 ?_
    refine go ?_ ?_
    refine aJ hF rfl (fun h297 hF=>?_) (fun h297 hF=>?_)
    ·refine go ?_ ?_
     refine aS ?_
     have hF:=sE h296 hF
     have hF:=sE h296 hF
     obtain⟨v304,h305,hF⟩:=aZ hF
     obtain⟨v306,h307,hF⟩:=bF hF yY
     have hF:=sE h305 hF
     refine gT [0,1,0,7,15,0,0,64,0,448,960,0,4032,8128,0,32704,65535,131071] 17 1 [.v (.vc (pP (some b23) 0)),.v (.vc (pO b172 n174 c173)),.v (.vc (pI .i64 (x84.length:Int))),.v (.vc (pE b172 (x84.length:Int) (cH g178).n 0)),.v (.vc (pO (gX g178 v295).1 (gX g178 v295).2.1 (gX g178 v295).2.2)),.v (.vc (pI .i64 x183)),.v (.vc (pP (some b23) 0)),.v (.vc (pO b172 n174 c173)),.v (.vc (pI .i64 (x84.length:Int))),.v (.vc (pE b172 (x84.length:Int) (cH g178).n 0)),.v (.vc (pO (gX g178 v295).1 (gX g178 v295).2.1 (gX g178 v295).2.2)),.v (.vc (pI .i64 x183)),.v (.vc (pE (gX g178 v295).1 x183 cQ.n 0)),.v (.va (eQ v304)),.v (.va (eQ v154)),.v (.va (eQ v306)),.v (.vc (pE (gX g178 v295).1 x183 cQ.n 0))] bC ⟨d0 (iU (off:=0) (k:=0) rfl tyF178_0) zU1,d0 (fX 1 1 rfl rfl rfl rfl (.one tyO74)) zU1,d0 (bB (.inl rfl)) zU1,d0 (gN (C:=(cH g178)) 3 rfl tyS74 rfl q175 (aN h296).1 (aN h296).2.1) zU2,d0 (lE (C:=(cH g178)) (k:=1) 3 rfl rfl h296 rfl (.one tyO24) rfl) zU1,d0 (bB (.inl rfl)) zU1,d0 (iU (off:=0) (k:=0) rfl tyF178_0) zU1,d0 (fX 1 1 rfl rfl rfl rfl (.one tyO74)) zU1,d0 (bB (.inl rfl)) zU1,d0 (gN (C:=(cH g178)) 3 rfl tyS74 rfl q175 (aN h296).1 (aN h296).2.1) zU2,d0 (lE (C:=(cH g178)) (k:=1) 3 rfl rfl h296 rfl (.one tyO24) rfl) zU1,d0 (bB (.inl rfl)) zU1,d0 (gN (5+v295) rfl tyS24 (iC 5 rfl q181 q180 (q182 _ (aV h296))) (gZ q181 q180 (q182 _ (aV h296))) (aN h305).1 (aN h305).2.1) zU2,d0 (lE (k:=4) (5+v295) rfl (iC 5 rfl q181 q180 (q182 _ (aV h296))) h305 rfl (.agg tyA32) rfl) zU1,d0 (fX 0 4 rfl rfl rfl rfl (.agg tyA32)) zU1,d0 (cS rfl h307 rfl) zU2,d0 (gN (5+v295) rfl tyS24 (iC 5 rfl q181 q180 (q182 _ (aV h296))) (gZ q181 q180 (q182 _ (aV h296))) (aN h305).1 (aN h305).2.1) zU2,trivial⟩ (fun bs299 G298=>?_)
     obtain⟨x310,h311,hF⟩:=aZ hF
     refine mR (xV (H':=([⟨some (bs151 8),1,32,4,1,(eQ v154)⟩,⟨some b23,1,178,6,1,([pO b172 n174 c173]++[pO b85 n87 c86]++(eQ v156))⟩,hO cI b85 c86 3 n87 x84,hO (cH g178) b172 c173 24 n174 x171,⟨some b1,1,178,6,1,([pS (kK cQ) ([]:List (List Rat))]++[pS cI ([]:List Int)]++(eQ 0))⟩]++f8 cQ 32 g178 (x177.set v295 x310))) (5+v295) rfl (aAH 5 rfl q181 q180 (q182 _ (aV h296))) h305 h311 tyA32.s (hH:=stN 5 rfl q181 q180 (q182 _ (aV h296)))) zU2 ?_
     obtain⟨v313,h314,hF⟩:=aZ hF
     refine go ?_ ?_
     exact aM (fun a w hh=>⟨x171,(x177.set v295 x310),v313,b172,c173,n174,g178,N179,hF,q175,(uG q180),(yW q181 q180 (q182 _ (aV h296)) (bK h311 rfl)),q182,bR 5 [0,1,2,3,4] rfl rfl (by decide) (by exact⟨rfl,rfl,rfl,rfl,rfl,rfl,rfl,rfl,rfl,trivial⟩) hh⟩)
    refine cR ?_
    obtain⟨rfl,rfl⟩:=sm2 hF
    exact lD Jj197 ⟨x171,x177,b172,c173,n174,g178,N179,hRl196,q175,q180,q181,q182,rfl,rfl⟩ 5 [1,2,3,4] rfl rfl ⟨rfl,rfl,rfl,rfl,rfl,rfl,rfl,trivial⟩
   refine go ?_ ?_
   refine aJ hF rfl (fun h315 hF=>?_) (fun h315 hF=>?_)
   ·refine aK ?_
    obtain⟨v318,h319,hF⟩:=aZ hF
    have hF:=sE h319 hF
    obtain⟨v322,h323,hF⟩:=aZ hF
    obtain⟨v324,h325,hF⟩:=aZ hF
    have hF:=sE h325 hF
    obtain⟨x328,h329,hF⟩:=aZ hF
    obtain⟨v331,h332,hF⟩:=aZ hF
    refine sF (HsM [(0,fun G316=>([⟨some b23,1,178,6,1,([pO b91 n93 c92]++[pO b85 n87 c86]++(eQ x102))⟩,hO cI b85 c86 3 n87 x84,hO (cH g97) b91 c92 24 n93 x90,⟨some b1,1,178,6,1,([pS (kK cQ) ([]:List (List Rat))]++[pS cI ([]:List Int)]++(eQ 0))⟩]++f8 cQ 32 g97 x96)),(1,fun G316=>([⟨some b23,1,178,6,1,([pO b91 n93 c92]++[pO b85 n87 c86]++(eQ x102))⟩,hO cI b85 c86 3 n87 x84,hO (cH g97) b91 c92 24 n93 x328,⟨some b1,1,178,6,1,([pS (kK cQ) ([]:List (List Rat))]++[pS cI ([]:List Int)]++(eQ 0))⟩]++f8 cQ 32 g97 x96))]) [21] [0,1,0,0,8,0,0,96,0,256,0,0,3072,7936,16128,0,32768,0,229376,491520,1048327,2096903,4194303,8388607] 23 1 [.v (.vc (pP (some b23) 0)),.v (.vc (pO b91 n93 c92)),.v (.vc (pI .i64 (x84.length:Int))),.v (.vc (pP (some b23) 0)),.v (.vc (pO b91 n93 c92)),.v (.vc (pI .i64 (x84.length:Int))),.v (.vc (pI .i64 v130)),.v (.vc (pI .i64 v318)),.v (.vc (pP (some b23) 0)),.v (.vc (pO b91 n93 c92)),.v (.vc (pI .i64 (x84.length:Int))),.v (.vc (pI .i64 v130)),.v (.vc (pI .i64 v318)),.v (.vc (pE b91 v318 (cH g97).n 0)),.v (.vc (pO (gX g97 v322).1 (gX g97 v322).2.1 (gX g97 v322).2.2)),.v (.vc (pP (some b23) 0)),.v (.vc (pO b91 n93 c92)),.v (.vc (pI .i64 (x84.length:Int))),.v (.vc (pE b91 (x84.length:Int) (cH g97).n 0)),.v (.vc (pO (gX g97 v324).1 (gX g97 v324).2.1 (gX g97 v324).2.2)),.v (.vc (pE b91 (x84.length:Int) (cH g97).n 0)),.g (fun _ _=>.any),.v (.vc (pE b91 v318 (cH g97).n 0))] bC ⟨d1 0 (iU (off:=0) (k:=0) rfl tyF178_0) zU1,d1 0 (fX 0 1 rfl rfl rfl rfl (.one tyO74)) zU1,d1 0 (bB (.inl rfl)) zU1,⟨rfl,.run (L:=[0,1]) ⟨fun G316 A=>iU (off:=0) (k:=0) rfl tyF178_0,fun G316 A=>iU (off:=0) (k:=0) rfl tyF178_0,trivial⟩ (fun G316=>zU1)⟩,⟨rfl,.run (L:=[0,1]) ⟨fun G316 A=>fX 0 1 rfl rfl rfl rfl (.one tyO74),fun G316 A=>fX 0 1 rfl rfl rfl rfl (.one tyO74),trivial⟩ (fun G316=>zU1)⟩,⟨rfl,.run (L:=[0,1]) ⟨fun G316 A=>bB (.inl rfl),fun G316 A=>bB (.inl rfl),trivial⟩ (fun G316=>zU1)⟩,⟨rfl,.run (L:=[0,1]) ⟨fun G316 A=>bB (.inl rfl),fun G316 A=>bB (.inl rfl),trivial⟩ (fun G316=>zU1)⟩,⟨rfl,.run (L:=[0,1]) ⟨fun G316 A=>xJ rfl h319,fun G316 A=>xJ rfl h319,trivial⟩ (fun G316=>zU2)⟩,d1 0 (iU (off:=0) (k:=0) rfl tyF178_0) zU1,d1 0 (fX 0 1 rfl rfl rfl rfl (.one tyO74)) zU1,d1 0 (bB (.inl rfl)) zU1,d1 0 (bB (.inl rfl)) zU1,d1 0 (xJ rfl h319) zU2,d1 0 (gN (C:=(cH g97)) 2 rfl tyS74 rfl q94 (aN h323).1 (aN h323).2.1) zU2,d1 0 (lE (C:=(cH g97)) (k:=1) 2 rfl rfl h323 rfl (.one tyO24) rfl) zU1,d1 0 (iU (off:=0) (k:=0) rfl tyF178_0) zU1,d1 0 (fX 0 1 rfl rfl rfl rfl (.one tyO74)) zU1,d1 0 (bB (.inl rfl)) zU1,d1 0 (gN (C:=(cH g97)) 2 rfl tyS74 rfl q94 (aN h325).1 (aN h325).2.1) zU2,d1 0 (lE (C:=(cH g97)) (k:=1) 2 rfl rfl h325 rfl (.one tyO24) rfl) zU1,d1 0 (gN (C:=(cH g97)) 2 rfl tyS74 rfl q94 (aN h325).1 (aN h325).2.1) zU2,⟨rfl,.hvy [0] ⟨fun G316 A=>aDu (xV (C:=(cH g97)) 2 rfl rfl h325 h329 tyO24.s),trivial⟩ (fun G316=>zU2)⟩,d1 1 (gN (C:=(cH g97)) 2 rfl tyS74 rfl (bK h329 q94) (aN h332).1 (aN h332).2.1) zU2,trivial⟩ (fun bs317 G316=>?_)
    obtain⟨x334,h335,hF⟩:=aZ hF
    refine mR (xV (C:=(cH g97)) 2 rfl rfl h332 h335 tyO24.s) zU2 ?_
    refine bT (aU (aR (aQ (iU (off:=0) (k:=2) rfl tyF178_2) zU1 ?_)))
    refine aQ (fX 0 4 rfl rfl rfl rfl (.agg tyA32)) zU1 ?_
    obtain⟨v337,h338,hF⟩:=bF hF tL
    refine aQ (cS rfl h338 rfl) zU1 ?_
    refine aQ (iU (off:=0) (k:=2) rfl tyF178_2) zU1 ?_
    refine mR (t_s 0 rfl rfl rfl tyA32.s) zU2 ?_
    refine bT ?_
    exact lD Jj149 ⟨x334,x96,v337,b91,c92,n93,g97,N98,hF,(bK h335 (bK h329 q94)),q99,q100,(aKE (aKE q101 h329 (q101 _ (aV h323))) h335 (q101 _ (aV h325))),rfl,rfl⟩ 4 [0,1,2,3] rfl rfl ⟨rfl,rfl,rfl,rfl,rfl,rfl,rfl,trivial⟩
   refine iP ?_
   exact lD Jj149 ⟨x90,x96,x102,b91,c92,n93,g97,N98,hF,q94,q99,q100,q101,rfl,rfl⟩ 4 [0,1,2,3] rfl rfl ⟨rfl,rfl,rfl,rfl,rfl,rfl,rfl,trivial⟩
  refine cR ?_
  obtain⟨rfl,rfl,rfl,rfl⟩:=sm4 hF
  exact lD Jj124 ⟨x84,x90,x96,x102,b85,c86,n87,b91,c92,n93,g97,N98,hRl123,q88,q94,q99,q100,q101,rfl,rfl⟩ 4 [0,1,2,3] rfl rfl zU2
 obtain⟨⟨x50',x56'⟩,hL,hRl62⟩:=aZ hF
 refine gB (fun k a w=>∃(x37:List Nat),∃(x43:List (List Rat)),∃(x49:Int),∃(b38:Option Nat),∃(c39:Nat),∃(n40:Nat),∃(g44:List u7),∃(N45:Nat),rX K a0 k x37 x43 x49=some (x50',x56')∧x37.length=n40∧x43.length=N45∧iE g44 x43∧(∀k∈x37,k<N45)∧hs _ ([⟨some b23,1,178,6,1,([pO b38 n40 c39]++[pO none 0 0]++(eQ v2))⟩,hO cI none 0 3 0 ([]:List Int),hO (cH g44) b38 c39 24 n40 x37,⟨some b1,1,178,6,1,([pS (kK cQ) ([]:List (List Rat))]++[pS cI ([]:List Int)]++(eQ 0))⟩]++f8 cQ 32 g44 x43) [(1,.vc (pI .i64 a1)),(4,.vc (pP (some b1) 0)),(5,.vc (pP (some b23) 0)),(17,.vc (pS (kK cQ) a0)),(18,.vc (pI .i64 (a0.length:Int))),(19,.vc (pI .i64 x49))] a w) K (fun a w ⟨_,_,_,_,_,_,_,_,hF,_,_,_,_,_⟩=>by cases hF) (fun k a w ⟨x37,x43,x49,b38,c39,n40,g44,N45,hF,q41,q46,q47,q48,hh⟩=>gC ?_ hh) (fun a w hh=>⟨([]:List Nat),([]:List (List Rat)),0,none,0,0,([]:List u7),0,hL,rfl,(rfl),aE1,(by simp),bR 4 [0,1,2,3] rfl rfl (by decide) (by exact⟨rfl,rfl,rfl,rfl,rfl,rfl,trivial⟩) hh⟩)
 rw [rX.eq_2] at hF
 refine go ?_ ?_
 refine aJ hF rfl (fun h339 hF=>?_) (fun h339 hF=>?_)
 ·refine go ?_ ?_
  refine aS ?_
  obtain⟨v340,h341,v344,h345,hF⟩:=wP hF
  refine go ?_ ?_
  refine sF (HsM [(0,fun G342=>([⟨some b23,1,178,6,1,([pO b38 n40 c39]++[pO none 0 0]++(eQ v2))⟩,hO cI none 0 3 0 ([]:List Int),hO (cH g44) b38 c39 24 n40 x37,⟨some b1,1,178,6,1,([pS (kK cQ) ([]:List (List Rat))]++[pS cI ([]:List Int)]++(eQ 0))⟩]++f8 cQ 32 g44 x43)),(1,fun G342=>([hO cQ ((G342 3).1) ((G342 3).2) 32 v344.length v344,⟨some b23,1,178,6,1,([pO b38 n40 c39]++[pO none 0 0]++(eQ v2))⟩,hO cI none 0 3 0 ([]:List Int),hO (cH g44) b38 c39 24 n40 x37,⟨some b1,1,178,6,1,([pS (kK cQ) ([]:List (List Rat))]++[pS cI ([]:List Int)]++(eQ 0))⟩]++f8 cQ 32 g44 x43)),(3,fun G342=>([hO cQ ((G342 4).1) ((G342 4).2) 32 v344.length v344,⟨some b23,1,178,6,1,([pO b38 n40 c39]++[pO none 0 0]++(eQ v2))⟩,hO cI none 0 3 0 ([]:List Int),hO (cH (g44++[((G342 4).1,v344.length,(G342 4).2)])) b38 c39 24 n40 x37,⟨some b1,1,178,6,1,([pS (kK cQ) ([]:List (List Rat))]++[pS cI ([]:List Int)]++(eQ 0))⟩]++f8 cQ 32 g44 x43))]) [3,4] [0,1,0,4,12,31,63,127] 5 3 [.v (.vc (pP (some b23) 0)),.v (.vc (pO b38 n40 c39)),.v (.vc (pS cQ v340)),.g (fun b c=>.vc (pO b v344.length c)),.g (fun b c=>.vc (pS (cH (g44++[(b,v344.length,c)])) [x43.length]))] bC ⟨⟨rfl,.run (L:=[0,1,3]) ⟨fun G342 A=>iU (off:=0) (k:=0) rfl tyF178_0,fun G342 A=>iU (off:=0) (k:=0) rfl tyF178_0,fun G342 A=>iU (off:=0) (k:=0) rfl tyF178_0,trivial⟩ (fun G342=>zU1)⟩,⟨rfl,.run (L:=[0,1,3]) ⟨fun G342 A=>fX 0 1 rfl rfl rfl rfl (.one tyO74),fun G342 A=>fX 1 1 rfl rfl rfl rfl (.one tyO74),fun G342 A=>fX 1 1 rfl rfl rfl rfl (.one tyO74),trivial⟩ (fun G342=>zU1)⟩,d1 0 (bB (.inl rfl)) zU1,⟨rfl,.hvy [0] ⟨fun G342 A=>aMy rfl (zO h345) rfl,trivial⟩ (fun G342=>zU1)⟩,⟨rfl,.hvy [1] ⟨fun G342 A=>aR3 ((G342 3).1) ((G342 3).2) (aSm (rs:=x43) rfl tyS74 q47.1 (show([hO cQ ((G342 3).1) ((G342 3).2) 32 v344.length v344,⟨some b23,1,178,6,1,([pO b38 n40 c39]++[pO none 0 0]++(eQ v2))⟩,hO cI none 0 3 0 ([]:List Int),hO (cH (g44++[((G342 3).1,v344.length,(G342 3).2)])) b38 c39 24 n40 x37,⟨some b1,1,178,6,1,([pS (kK cQ) ([]:List (List Rat))]++[pS cI ([]:List Int)]++(eQ 0))⟩]++f8 cQ 32 g44 x43)++A=([hO cQ ((G342 3).1) ((G342 3).2) 32 v344.length v344,⟨some b23,1,178,6,1,([pO b38 n40 c39]++[pO none 0 0]++(eQ v2))⟩,hO cI none 0 3 0 ([]:List Int),hO (cH g44) b38 c39 24 n40 x37,⟨some b1,1,178,6,1,([pS (kK cQ) ([]:List (List Rat))]++[pS cI ([]:List Int)]++(eQ 0))⟩]++f8 cQ 32 g44 x43)++A from by rw [aIq (N:=x43.length) ((G342 3).1,v344.length,(G342 3).2) q47.1 (aDO q46 q48)])),trivial⟩ (fun G342=>zU1)⟩,trivial⟩ (fun bs343 G342=>?_)
  refine aEB (g:=((G342 4).1,v344.length,(G342 4).2)) 0 5 rfl rfl rfl q47 ?_
  obtain⟨x353,h354,hF⟩:=aZ hF
  refine nH 2 rfl tyS74 rfl rfl q41 rfl rfl h354 (fun b355 c356 H357 e358=>?_)
  cases e358
  obtain⟨v360,h361,hF⟩:=aZ hF
  refine go ?_ ?_
  exact aM (fun a w hh=>⟨x353,(x43++[v344]),v360,b355,c356,(n40+[x43.length].length),(g44++[((G342 4).1,v344.length,(G342 4).2)]),(N45+1),hF,(eJ h354 q41),(aEC q46),(aAG q47 rfl),(aOv q48 q46 h354),bR 4 [0,1,2,3] rfl rfl (by decide) (by exact⟨rfl,rfl,rfl,rfl,rfl,rfl,trivial⟩) hh⟩)
 refine cR ?_
 obtain⟨rfl,rfl⟩:=sm2 hF
 exact lD Jj63 ⟨x37,x43,b38,c39,n40,g44,N45,hRl62,q41,q46,q47,q48,rfl,rfl⟩ 4 [0,1,2,3] rfl rfl ⟨rfl,rfl,rfl,trivial⟩
def t9 (K:Nat):Option Int:=
 some (-1)
def qQ (K:Nat) (a0:List Int) (a1:Int):Nat→Int→Option (LR Int Unit)
 |0,_=>none
 |k+1,x2=>bif(decide (x2<(a0.length:Int))) then((bL a0 x2).bind fun v6=>bif(a1==v6) then(some (.ret x2)) else((aT (x2+1)).bind fun v9=>qQ K a0 a1 k v9)) else(some (.go ()))
def wZ (K:Nat) (a0:List Int) (a1:Int):Option Int:=
 (qQ K a0 a1 K 0).bind fun o=>match o with| .ret r=>some r| .go _=>t9 K
theorem aDa {K:Nat} {a0:List Int} {a1:Int} {r:Int} (hF:wZ K a0 a1=some r):Ct Tryz.prog 184 [.vc (pS cI a0),.vc (pI .i64 a1)] (.vc (pI .i64 r)):=by
 unfold wZ at hF
 refine aG Tryz.func184 rfl (by kernel_rfl) Tryz.ntmps184 rfl (fun w0 M0=>?_)
 refine go ?_ ?_
 refine aS (bV (fun H E=>t9 K=some r∧H=[]∧E=[]) ?_ (fun Jj4=>?_))
 ·rintro _ _ ⟨hF,rfl,rfl⟩
  unfold t9 at hF
  exact cF
 obtain⟨ol3,hL,hRl3⟩:=aZ hF
 refine gB (fun k a w=>∃(x2:Int),qQ K a0 a1 k x2=some ol3∧hs _ [] [(0,.vc (pS cI a0)),(1,.vc (pI .i64 a1)),(7,.vc (pI .i64 (a0.length:Int))),(8,.vc (pI .i64 x2))] a w) K (fun a w ⟨_,hF,_⟩=>by cases hF) (fun k a w ⟨x2,hF,hh⟩=>gC ?_ hh) (fun a w hh=>⟨0,hL,gJ [] hh⟩)
 rw [qQ.eq_2] at hF
 refine go ?_ ?_
 refine aJ hF rfl (fun h5 hF=>?_) (fun h5 hF=>?_)
 ·refine go ?_ ?_
  refine aS ?_
  obtain⟨v6,h7,hF⟩:=aZ hF
  refine go ?_ ?_
  refine aJ hF rfl (fun h8 hF=>?_) (fun h8 hF=>?_)
  ·exact cF
  obtain⟨v9,h10,hF⟩:=aZ hF
  refine go ?_ ?_
  exact aM (fun a w hh=>⟨v9,hF,gJ [] hh⟩)
 refine cR ?_
 obtain rfl:=pZ hF
 exact qZ Jj4 ⟨hRl3,rfl,rfl⟩ []
def tX (K:Nat) (a0:List Int) (a1:Int):Option Bool:=
 (wZ K a0 a1).bind fun v1=>some (decide (0≤v1))
theorem aBX {K:Nat} {a0:List Int} {a1:Int} {r:Bool} (hF:tX K a0 a1=some r):Ct Tryz.prog 163 [.vc (pS cI a0),.vc (pI .i64 a1)] (.vc (pB r)):=by
 unfold tX at hF
 refine aG Tryz.func163 rfl (by kernel_rfl) Tryz.ntmps163 rfl (fun w0 M0=>?_)
 obtain⟨v1,h2,hF⟩:=bF hF aDa
 exact cF
def vU (K:Nat) (x25:List (List Rat)):Option ((List (List Rat))×Int):=
 some (x25,0)
def vP (K:Nat) (x18:List (List Rat)) (x24:Int) (recl31:(List (List Rat))→Int→Option (List (List Rat))) (x65:List Rat):Option (List (List Rat)):=
 (qR x18 [x65]).bind fun x73=>(aT (x24+1)).bind fun v80=>recl31 x73 v80
def sD (K:Nat) (v6:iV) (x24:Int):Nat→(List Rat)→Int→Option (List Rat)
 |0,_,_=>none
 |k+1,x58,x64=>bif(decide (x64<(v6.pivots.length:Int))) then((bL v6.pivots x64).bind fun v83=>(bL v6.rows x64).bind fun v85=>(bL v85 x24).bind fun v87=>(aEz v87).bind fun v89=>(bL x58 v83).bind fun v91=>(oO x58 v83 v89).bind fun x93=>(aT (x64+1)).bind fun v96=>sD K v6 x24 k x93 v96) else(some x58)
def mN (K:Nat) (v4:Int) (v6:iV):Nat→(List (List Rat))→Int→Option (List (List Rat))
 |0,_,_=>none
 |k+1,x18,x24=>bif(decide (x24<v4)) then((tX K v6.pivots x24).bind fun v34=>bif v34 then((aT (x24+1)).bind fun v37=>mN K v4 v6 k x18 v37) else((yJ v4 0).bind fun x39=>(qof 1 1).bind fun v44=>(bL x39 x24).bind fun v46=>(oO x39 x24 v44).bind fun x48=>(sD K v6 x24 K x48 0).bind fun x65=>vP K x18 x24 (mN K v4 v6 k) x65)) else(some x18)
def zW (K:Nat) (a0:List (List Rat)):Option ((List (List Rat))×Int):=
 (aAL K a0).bind fun v1=>bif(!v1) then(some ([],1)) else((zC a0).bind fun v4=>(zY K a0 v4).bind fun v6=>(mN K v4 v6 K ([]:List (List Rat)) 0).bind fun x25=>vU K x25)
theorem aE4 {K:Nat} {a0:List (List Rat)} {r:(List (List Rat))×Int} (hF:zW K a0=some r):Ct Tryz.prog 114 [.vc (pS (kK cQ) a0)] (.t2 (.vc (pS (kK cQ) r.1)) (.vc (pI .i64 r.2))):=by
 unfold zW at hF
 refine aG Tryz.func114 rfl (by kernel_rfl) Tryz.ntmps114 rfl (fun w0 M0=>?_)
 refine aK (aR (aQ (bB (.inr rfl)) ⟨dA (kK cQ),trivial⟩ ?_))
 obtain⟨v1,h2,hF⟩:=bF hF aFt
 refine go ?_ ?_
 refine aJ hF rfl (fun h3 hF=>?_) (fun h3 hF=>?_)
 ·refine aK (aR (aQ (bB (.inr rfl)) ⟨dA (kK cQ),trivial⟩ ?_))
  exact cF
 obtain⟨v4,h5,hF⟩:=bF hF aCN
 obtain⟨v6,h7,hF⟩:=bF hF aEN
 refine go ?_ ?_
 refine aO rfl tyZ178q (fun b8=>?_)
 refine mR (t_s 0 rfl rfl rfl tyA178.s) zU2 ?_
 refine bT (aU (aK (aR (tV (kK cQ) 24 rfl ?_))))
 refine go ?_ ?_
 refine aS (bV (fun H E=>∃(x25:List (List Rat)),∃(b26:Option Nat),∃(c27:Nat),∃(n28:Nat),vU K x25=some r∧x25.length=n28∧H=[hO (kK cQ) b26 c27 24 n28 x25]∧E=[(6,.vc (pO b26 n28 c27))]) ?_ (fun Jj32=>?_))
 ·rintro _ _ ⟨x25,b26,c27,n28,hF,q29,rfl,rfl⟩
  unfold vU at hF
  refine go ?_ ?_
  refine sT (sS (aAd 0 [2,6,59] rfl q29 ⟨rfl,rfl,rfl,trivial⟩ rfl ?_))
  obtain rfl:=pZ hF
  exact rY (.inl rfl) Tryz.results114 (.tmp rfl (.tmp rfl .nil)) rfl rfl
 obtain⟨x25',hL,hRl31⟩:=aZ hF
 refine gB (fun k a w=>∃(x18:List (List Rat)),∃(x24:Int),∃(b19:Option Nat),∃(c20:Nat),∃(n21:Nat),mN K v4 v6 k x18 x24=some x25'∧x18.length=n21∧hs _ [hO (kK cQ) b19 c20 24 n21 x18,⟨some b8,1,178,6,1,(iV.enc v6)⟩] [(4,.vc (pI .i64 v4)),(5,.vc (pP (some b8) 0)),(6,.vc (pO b19 n21 c20)),(19,.vc (pI .i64 v4)),(20,.vc (pI .i64 x24))] a w) K (fun a w ⟨_,_,_,_,_,hF,_,_⟩=>by cases hF) (fun k a w ⟨x18,x24,b19,c20,n21,hF,q22,hh⟩=>gC ?_ hh) (fun a w hh=>⟨([]:List (List Rat)),0,none,0,0,hL,rfl,gJ [0,1] hh⟩)
 rw [mN.eq_2] at hF
 refine go ?_ ?_
 refine aJ hF rfl (fun h33 hF=>?_) (fun h33 hF=>?_)
 ·refine go ?_ ?_
  refine aS ?_
  obtain⟨v34,h35,hF⟩:=bF hF aBX
  refine go ?_ ?_
  refine aJ hF rfl (fun h36 hF=>?_) (fun h36 hF=>?_)
  ·refine cR ?_
   obtain⟨v37,h38,hF⟩:=aZ hF
   refine go ?_ ?_
   exact aM (fun a w hh=>⟨x18,v37,b19,c20,n21,hF,q22,gJ [0,1] hh⟩)
  obtain⟨x39,h40,hF⟩:=aZ hF
  refine go ?_ ?_
  refine uV (C:=cQ) rfl tyS24 rfl tyZ32q rfl h40 (fun b41=>?_)
  obtain⟨v44,h45,hF⟩:=bF hF xE
  obtain⟨v46,h47,x48,h49,hF⟩:=wP hF
  refine go ?_ ?_
  refine aS (bV (fun H E=>∃(x65:List Rat),vP K x18 x24 (mN K v4 v6 k) x65=some x25'∧x65.length=x39.length∧H=[hO cQ b41 x39.length 32 x39.length x65,hO (kK cQ) b19 c20 24 n21 x18,⟨some b8,1,178,6,1,(iV.enc v6)⟩]∧E=[(4,.vc (pI .i64 v4)),(5,.vc (pP (some b8) 0)),(6,.vc (pO b19 n21 c20)),(8,.vc (pO b41 x39.length x39.length)),(19,.vc (pI .i64 v4)),(20,.vc (pI .i64 x24))]) ?_ (fun Jj72=>?_))
  ·rintro _ _ ⟨x65,hF,q69,rfl,rfl⟩
   unfold vP at hF
   refine aU (aR (lH ?_))
   refine lH ?_
   refine zQ 0 [8,55] rfl q69 zU2 rfl ?_
   refine aQ (oM (C:=(kK cQ)) (xs:=[.tmp 55]) (ps:=[.vc (pS cQ x65)]) (zs:=[x65]) rfl tyS74 rfl ⟨⟨trivial,rfl⟩,trivial⟩ rfl) zU1 ?_
   obtain⟨x73,h74,hF⟩:=aZ hF
   refine nH 0 rfl tyS74 rfl rfl q22 rfl rfl h74 (fun b75 c76 H77 e78=>?_)
   cases e78
   obtain⟨v80,h81,hF⟩:=aZ hF
   refine go ?_ ?_
   exact aM (fun a w hh=>⟨x73,v80,b75,c76,(n21+[x65].length),hF,(eJ h74 q22),gJ [0,1] hh⟩)
  obtain⟨x65',hL,hRl71⟩:=aZ hF
  refine gB (fun k a w=>∃(x58:List Rat),∃(x64:Int),sD K v6 x24 k x58 x64=some x65'∧x58.length=x39.length∧hs _ [hO cQ b41 x39.length 32 x39.length x58,hO (kK cQ) b19 c20 24 n21 x18,⟨some b8,1,178,6,1,(iV.enc v6)⟩] [(4,.vc (pI .i64 v4)),(5,.vc (pP (some b8) 0)),(6,.vc (pO b19 n21 c20)),(7,.vc (pI .i64 x24)),(8,.vc (pO b41 x39.length x39.length)),(19,.vc (pI .i64 v4)),(20,.vc (pI .i64 x24)),(34,.vc (pS cI v6.pivots)),(35,.vc (pI .i64 (v6.pivots.length:Int))),(36,.vc (pI .i64 x64))] a w) K (fun a w ⟨_,_,hF,_,_⟩=>by cases hF) (fun k a w ⟨x58,x64,hF,q62,hh⟩=>gC ?_ hh) (fun a w hh=>⟨x48,0,hL,(bK h49 rfl),gJ [0,1,2] hh⟩)
  rw [sD.eq_2] at hF
  refine go ?_ ?_
  refine aJ hF rfl (fun h82 hF=>?_) (fun h82 hF=>?_)
  ·refine go ?_ ?_
   refine aS ?_
   obtain⟨v83,h84,v85,h86,v87,h88,hF⟩:=bn3 hF
   obtain⟨v89,h90,hF⟩:=bF hF tL
   obtain⟨v91,h92,x93,h94,v96,h97,hF⟩:=bn3 hF
   refine go ?_ ?_
   exact aM (fun a w hh=>⟨x93,v96,hF,(bK h94 q62),gJ [0,1,2] hh⟩)
  refine cR ?_
  obtain rfl:=pZ hF
  exact qZ Jj72 ⟨x58,hRl71,q62,rfl,rfl⟩ [0,1,2]
 refine cR ?_
 obtain rfl:=pZ hF
 exact qZ Jj32 ⟨x18,b19,c20,n21,hRl31,q22,rfl,rfl⟩ [0]
def xR (K:Nat) (x25:List (List Rat)):Option ((List (List Rat))×Int):=
 bif(decide (64<(x25.length:Int))) then(some ([],4)) else((zW K x25).bind fun v34=>some (v34.1,v34.2))
def rN (K:Nat) (a0:List aD) (a1:List aA):Nat→(List (List Rat))→Int→Option (LR ((List (List Rat))×Int) (List (List Rat)))
 |0,_,_=>none
 |k+1,x18,x24=>bif(decide (x24<(a1.length:Int))) then((bL a1 x24).bind fun v37=>(tP K v37.j (a0.length:Int)).bind fun v40=>bif(!v40) then(some (.ret ([],1))) else((tP K v37.t (a0.length:Int)).bind fun v43=>bif(!v43) then(some (.ret ([],1))) else((wR K (a0.length:Int) x18 v37.j).bind fun v46=>bif(decide (0<(v37.t.length:Int))) then((wR K (a0.length:Int) v46 v37.t).bind fun v55=>(aT (x24+1)).bind fun v63=>rN K a0 a1 k v55 v63) else((aT (x24+1)).bind fun v65=>rN K a0 a1 k v46 v65)))) else(some (.go x18))
def aA7 (K:Nat) (a0:List aD) (a1:List aA):Option ((List (List Rat))×Int):=
 (yJ (a0.length:Int) 0).bind fun x2=>(rN K a0 a1 K [x2] 0).bind fun o=>match o with| .ret r=>some r| .go x25=>xR K x25
theorem aFU {K:Nat} {a0:List aD} {a1:List aA} {r:(List (List Rat))×Int} (hF:aA7 K a0 a1=some r):Ct Tryz.prog 52 [.vc (pS aD.cod a0),.vc (pS aA.cod a1)] (.t2 (.vc (pS (kK cQ) r.1)) (.vc (pI .i64 r.2))):=by
 unfold aA7 at hF
 refine aG Tryz.func52 rfl (by kernel_rfl) Tryz.ntmps52 rfl (fun w0 M0=>?_)
 refine aK (aR (aQ (bB (.inr rfl)) ⟨dA (kK cQ),trivial⟩ ?_))
 refine go ?_ ?_
 refine aO rfl tyZ3q (fun b1=>?_)
 obtain⟨x2,h3,hF⟩:=aZ hF
 refine go ?_ ?_
 refine uV (C:=cQ) rfl tyS24 rfl tyZ32q rfl h3 (fun b4=>?_)
 refine zQ 0 [14] rfl rfl zU1 rfl ?_
 refine aKY (aI9 (C:=(kK cQ)) (xs:=[.tmp 14]) (ps:=[.vc (pS cQ x2)]) (zs:=[x2]) rfl tyS74 rfl ⟨⟨trivial,rfl⟩,trivial⟩ rfl) zU1 (fun b7 _=>?_)
 refine aO rfl tyZ74q (fun b10=>?_)
 refine mR (t_s 0 rfl rfl rfl tyO74.s) zU2 ?_
 refine bT (aU (aK (aR (yO 2 [(6,0)] rfl zU1 rfl ?_))))
 refine aQ (aGy (xs:=[.tmp 6,.tmp 7]) (cs:=[pM (cI.e (a0.length:Int)),pP (some b10) 0]) rfl rfl) zU2 ?_
 refine go ?_ ?_
 refine aS (bV (fun H E=>∃(x25:List (List Rat)),∃(b26:Option Nat),∃(c27:Nat),∃(n28:Nat),xR K x25=some r∧x25.length=n28∧H=[⟨some b10,1,74,1,1,[pO b26 n28 c27]⟩,hO (kK cQ) b26 c27 24 n28 x25]∧E=[(7,.vc (pP (some b10) 0))]) ?_ (fun Jj32=>?_))
 ·rintro _ _ ⟨x25,b26,c27,n28,hF,q29,rfl,rfl⟩
  unfold xR at hF
  refine go ?_ ?_
  refine aJ hF rfl (fun h33 hF=>?_) (fun h33 hF=>?_)
  ·refine aK (aR (aQ (bB (.inr rfl)) ⟨dA (kK cQ),trivial⟩ ?_))
   exact cF
  refine iP (aU (aK (aR (aQ (fX 0 1 rfl rfl rfl rfl (.one tyO74)) zU1 ?_))))
  refine zQ 1 [48,51] rfl q29 zU2 rfl ?_
  obtain⟨v34,h35,hF⟩:=bF hF aE4
  exact cF
 obtain⟨ol31,hL,hRl31⟩:=aZ hF
 refine gB (fun k a w=>∃(x18:List (List Rat)),∃(x24:Int),∃(b19:Option Nat),∃(c20:Nat),∃(n21:Nat),rN K a0 a1 k x18 x24=some ol31∧x18.length=n21∧hs _ [⟨some b10,1,74,1,1,[pO b19 n21 c20]⟩,hO (kK cQ) b19 c20 24 n21 x18] [(6,.vc (pM (cI.e (a0.length:Int)))),(7,.vc (pP (some b10) 0)),(8,.vc (pF 112 [pM (cI.e (a0.length:Int)),pP (some b10) 0])),(17,.vc (pS aA.cod a1)),(18,.vc (pI .i64 (a1.length:Int))),(19,.vc (pI .i64 x24))] a w) K (fun a w ⟨_,_,_,_,_,hF,_,_⟩=>by cases hF) (fun k a w ⟨x18,x24,b19,c20,n21,hF,q22,hh⟩=>gC ?_ hh) (fun a w hh=>⟨[x2],0,b7,1,1,hL,rfl,gJ [0,1] hh⟩)
 rw [rN.eq_2] at hF
 refine go ?_ ?_
 refine aJ hF rfl (fun h36 hF=>?_) (fun h36 hF=>?_)
 ·refine go ?_ ?_
  refine aS ?_
  obtain⟨v37,h38,hF⟩:=aZ hF
  refine go ?_ ?_
  refine aO rfl tyZ49q (fun b39=>?_)
  obtain⟨v40,h41,hF⟩:=bF hF y5
  refine go ?_ ?_
  refine eW hF (fun h42 hF=>?_) (fun h42 hF=>?_)
  ·refine go ?_ ?_
   refine oU rfl ?_
   refine aK (aR (aQ (bB (.inr rfl)) ⟨dA (kK cQ),trivial⟩ ?_))
   exact cF
  obtain⟨v43,h44,hF⟩:=bF hF y5
  refine go ?_ ?_
  refine aJ hF rfl (fun h45 hF=>?_) (fun h45 hF=>?_)
  ·refine aK (aR (aQ (bB (.inr rfl)) ⟨dA (kK cQ),trivial⟩ ?_))
   exact cF
  obtain⟨v46,h47,hF⟩:=aZ hF
  refine go ?_ ?_
  refine aAs (f:=112) (cs:=[pM (cI.e (a0.length:Int)),pP (some b10) 0]) (pre:=[.vc (pS aE.cod v37.j)]) (xs:=[.tmp 37]) [1,2] [0] rfl (aAT h47 q22) zU2 rfl rfl (by decide) ?_
  rintro _ _ ⟨b50,c51,n49,q52,rfl,rfl⟩
  refine go ?_ ?_
  refine aJ hF rfl (fun h54 hF=>?_) (fun h54 hF=>?_)
  ·obtain⟨v55,h56,hF⟩:=aZ hF
   refine go ?_ ?_
   refine aAs (f:=112) (cs:=[pM (cI.e (a0.length:Int)),pP (some b10) 0]) (pre:=[.vc (pS aE.cod v37.t)]) (xs:=[.tmp 45]) [0,1] [2] rfl (aAT h56 q52) zU2 rfl rfl (by decide) ?_
   rintro _ _ ⟨b59,c60,n58,q61,rfl,rfl⟩
   obtain⟨v63,h64,hF⟩:=aZ hF
   refine go ?_ ?_
   exact aM (fun a w hh=>⟨v55,v63,b59,c60,n58,hF,q61,gJ [0,1] hh⟩)
  obtain⟨v65,h66,hF⟩:=aZ hF
  refine go ?_ ?_
  exact aM (fun a w hh=>⟨v46,v65,b50,c51,n49,hF,q52,gJ [0,1] hh⟩)
 refine cR ?_
 obtain rfl:=pZ hF
 exact qZ Jj32 ⟨x18,b19,c20,n21,hRl31,q22,rfl,rfl⟩ [0,1]
def kN (c0:List aE) (c1:List Rat) (c2:List aD) (a0:Int):Option Rat:=
 (bL c0 a0).bind fun v2=>(bL c0 a0).bind fun v6=>(bL c1 v2.dof).bind fun v8=>(zR v6.k v8).bind fun v10=>(bL c2 v2.dof).bind fun v12=>(aFz v10 v12.inv).bind fun v14=>some v14
theorem aCE {c0:List aE} {c1:List Rat} {c2:List aD} {a0:Int} {r:Rat} (hF:kN c0 c1 c2 a0=some r):Ct Tryz.prog 115 [.vc (pI .i64 a0),.vc (pM ((kK aE.cod).e c0)),.vc (pM ((kK cQ).e c1)),.vc (pM ((kK aD.cod).e c2))] (.va (eQ r)):=by
 unfold kN at hF
 refine aG Tryz.func115 rfl (by kernel_rfl) Tryz.ntmps115 rfl (fun w0 M0=>?_)
 refine aK (aR (aO rfl tyZ32q (fun b1=>?_)))
 obtain⟨v2,h3,hF⟩:=aZ hF
 have hF:=sE h3 hF
 obtain⟨v8,h9,hF⟩:=aZ hF
 obtain⟨v10,h11,hF⟩:=bF hF mI
 obtain⟨v12,h13,hF⟩:=aZ hF
 obtain⟨v14,h15,hF⟩:=bF hF yY
 refine go ?_ ?_
 refine dr [0,0,3,7,15,0,0,96,224,511,0,0,3072,7168,15360,32767,65535] 16 1 ?_ (fun bs5 G4=>?_)
 exact cF
def uI (K:Nat) (a0:List aD) (a1:List Rat) (a2:List aE):Option (Rat×Int):=
 (tP K a2 (a0.length:Int)).bind fun v5=>bif(!v5) then(some (0,1)) else((pX K [(⟨(a2.length:Int),(kN a2 a1 a0)⟩:aP)]).bind fun v8=>some (v8,0))
theorem aAz {K:Nat} {a0:List aD} {a1:List Rat} {a2:List aE} {r:Rat×Int} (hF:uI K a0 a1 a2=some r):Ct Tryz.prog 53 [.vc (pS aD.cod a0),.vc (pS cQ a1),.vc (pS aE.cod a2)] (.t2 (.va (eQ r.1)) (.vc (pI .i64 r.2))):=by
 unfold uI at hF
 refine aG Tryz.func53 rfl (by kernel_rfl) Tryz.ntmps53 rfl (fun w0 M0=>?_)
 refine aK (aR (cC rfl rfl trivial (fun b1=>?_)))
 refine cC rfl rfl trivial (fun b2=>?_)
 refine cC rfl rfl trivial (fun b3=>?_)
 refine aO rfl tyZ32q (fun b4=>?_)
 obtain⟨v5,h6,hF⟩:=bF hF y5
 refine go ?_ ?_
 refine aJ hF rfl (fun h7 hF=>?_) (fun h7 hF=>?_)
 ·refine aK (aR (aQ (dY (is:=[]) (xs:=[]) (ps:=[]) rfl tyB32q rfl rfl trivial rfl) trivial ?_))
  exact cF
 refine iP (aU (aK (aR (aQ (fX 1 1 rfl rfl rfl rfl (.one tyO47)) zU1 ?_))))
 refine aQ (uN rfl tyS47) zU1 ?_
 refine yO 1 [(5,0)] rfl zU1 rfl ?_
 refine yO 1 [(4,0)] rfl zU1 rfl ?_
 refine yO 1 [(3,0)] rfl zU1 rfl ?_
 refine aQ (aEL (φ:=(kN a2 a1 a0)) (pre:=fun x:Int=>[.vc (pI .i64 x)]) (post:=fun r:Rat=>.va (eQ r)) (xs:=[.tmp 5,.tmp 4,.tmp 3]) (cs:=[pM ((kK aE.cod).e a2),pM ((kK cQ).e a1),pM ((kK aD.cod).e a0)]) rfl rfl (fun x r h=>aCE h)) ⟨rfl,rfl,rfl,trivial⟩ ?_
 refine aQ (dY (is:=[0,1]) (xs:=[.tmp 15,.tmp 16]) (ps:=[.vc (pI .i64 (a2.length:Int)),.vc (pFn Tryz.prog (fun x:Int=>[.vc (pI .i64 x)]) (fun r:Rat=>.va (eQ r)) (kN a2 a1 a0))]) rfl tyB98q rfl rfl ⟨trivial,trivial,trivial⟩ rfl) zU2 ?_
 refine aQ (oM (C:=aP.cod) (xs:=[.tmp 17]) (ps:=[.va ([pI .i64 (a2.length:Int)]++[pFn Tryz.prog (fun x:Int=>[.vc (pI .i64 x)]) (fun r:Rat=>.va (eQ r)) (kN a2 a1 a0)])]) (zs:=[(⟨(a2.length:Int),(kN a2 a1 a0)⟩:aP)]) rfl tyS150 rfl ⟨⟨trivial,rfl⟩,trivial⟩ rfl) zU1 ?_
 obtain⟨v8,h9,hF⟩:=bF hF wB
 exact cF
def sU (K:Nat) (x17:List aE):Option (List aE):=
 some x17
def o7 (K:Nat) (a0:List Rat):Nat→(List aE)→Int→Option (List aE)
 |0,_,_=>none
 |k+1,x10,x16=>bif(decide (x16<(a0.length:Int))) then((bL a0 x16).bind fun v26=>(qR x10 [(⟨x16,v26⟩:aE)]).bind fun x28=>(aT (x16+1)).bind fun v35=>o7 K a0 k x28 v35) else(some x10)
def vN (K:Nat) (a0:List Rat):Option (List aE):=
 (o7 K a0 K ([]:List aE) 0).bind fun x17=>sU K x17
theorem aCz {K:Nat} {a0:List Rat} {r:List aE} (hF:vN K a0=some r):Ct Tryz.prog 54 [.vc (pS cQ a0)] (.vc (pS aE.cod r)):=by
 unfold vN at hF
 refine aG Tryz.func54 rfl (by kernel_rfl) Tryz.ntmps54 rfl (fun w0 M0=>?_)
 refine aK (aR (aQ (bB (.inr rfl)) ⟨dA aE.cod,trivial⟩ ?_))
 refine bT (aU (aK (aR (tV aE.cod 104 rfl ?_))))
 refine go ?_ ?_
 refine aS (bV (fun H E=>∃(x17:List aE),∃(b18:Option Nat),∃(c19:Nat),∃(n20:Nat),sU K x17=some r∧x17.length=n20∧H=[hO aE.cod b18 c19 104 n20 x17]∧E=[(3,.vc (pO b18 n20 c19))]) ?_ (fun Jj24=>?_))
 ·rintro _ _ ⟨x17,b18,c19,n20,hF,q21,rfl,rfl⟩
  unfold sU at hF
  refine go ?_ ?_
  refine sT (sS (aAd 0 [2,3,20] rfl q21 ⟨rfl,rfl,rfl,trivial⟩ rfl ?_))
  obtain rfl:=pZ hF
  exact rY (.inl rfl) Tryz.results54 (.tmp rfl .nil) rfl rfl
 obtain⟨x17',hL,hRl23⟩:=aZ hF
 refine gB (fun k a w=>∃(x10:List aE),∃(x16:Int),∃(b11:Option Nat),∃(c12:Nat),∃(n13:Nat),o7 K a0 k x10 x16=some x17'∧x10.length=n13∧hs _ [hO aE.cod b11 c12 104 n13 x10] [(0,.vc (pS cQ a0)),(3,.vc (pO b11 n13 c12)),(4,.vc (pI .i64 x16))] a w) K (fun a w ⟨_,_,_,_,_,hF,_,_⟩=>by cases hF) (fun k a w ⟨x10,x16,b11,c12,n13,hF,q14,hh⟩=>gC ?_ hh) (fun a w hh=>⟨([]:List aE),0,none,0,0,hL,rfl,gJ [0] hh⟩)
 rw [o7.eq_2] at hF
 refine go ?_ ?_
 refine aJ hF rfl (fun h25 hF=>?_) (fun h25 hF=>?_)
 ·refine go ?_ ?_
  refine aS ?_
  obtain⟨v26,h27,hF⟩:=aZ hF
  refine go ?_ ?_
  refine aQ (dY (is:=[0,1]) (xs:=[.tmp 12,.tmp 16]) (ps:=[.vc (pI .i64 x16),.va (eQ v26)]) rfl tyB104q rfl rfl ⟨trivial,trivial,trivial⟩ rfl) zU2 ?_
  refine aQ (oM (C:=aE.cod) (xs:=[.tmp 17]) (ps:=[.va ([pI .i64 x16]++(eQ v26))]) (zs:=[(⟨x16,v26⟩:aE)]) rfl tyS47 rfl ⟨⟨trivial,rfl⟩,trivial⟩ rfl) zU1 ?_
  obtain⟨x28,h29,hF⟩:=aZ hF
  refine nH 0 rfl tyS47 rfl rfl q14 rfl rfl h29 (fun b30 c31 H32 e33=>?_)
  cases e33
  obtain⟨v35,h36,hF⟩:=aZ hF
  refine go ?_ ?_
  exact aM (fun a w hh=>⟨x28,v35,b30,c31,(n13+[(⟨x16,v26⟩:aE)].length),hF,(eJ h29 q14),gJ [0] hh⟩)
 refine cR ?_
 obtain rfl:=pZ hF
 exact qZ Jj24 ⟨x10,b11,c12,n13,hRl23,q14,rfl,rfl⟩ [0]
def y4 (K:Nat) (a0:List aD) (a1:List Rat):Option Rat:=
 (nS a0 a1).bind fun v2=>(pX K [v2]).bind fun v4=>some v4
theorem aED {K:Nat} {a0:List aD} {a1:List Rat} {r:Rat} (hF:y4 K a0 a1=some r):Ct Tryz.prog 55 [.vc (pS aD.cod a0),.vc (pS cQ a1)] (.va (eQ r)):=by
 unfold y4 at hF
 refine aG Tryz.func55 rfl (by kernel_rfl) Tryz.ntmps55 rfl (fun w0 M0=>?_)
 refine aK (aR (aO rfl tyZ32q (fun b1=>?_)))
 obtain⟨v2,h3,hF⟩:=bF hF xW
 refine go ?_ ?_
 refine aQ (oM (C:=aP.cod) (xs:=[.tmp 7]) (ps:=[.va (aP.enc v2)]) (zs:=[v2]) rfl tyS150 rfl ⟨⟨trivial,rfl⟩,trivial⟩ rfl) zU1 ?_
 obtain⟨v4,h5,hF⟩:=bF hF wB
 exact cF
def z4 (K:Nat) (a0:List aD) (a1:List Rat):Option Rat:=
 (o9 a0 a1).bind fun v2=>(pX K [v2]).bind fun v4=>some v4
theorem aFb {K:Nat} {a0:List aD} {a1:List Rat} {r:Rat} (hF:z4 K a0 a1=some r):Ct Tryz.prog 56 [.vc (pS aD.cod a0),.vc (pS cQ a1)] (.va (eQ r)):=by
 unfold z4 at hF
 refine aG Tryz.func56 rfl (by kernel_rfl) Tryz.ntmps56 rfl (fun w0 M0=>?_)
 refine aK (aR (aO rfl tyZ32q (fun b1=>?_)))
 obtain⟨v2,h3,hF⟩:=bF hF yX
 refine go ?_ ?_
 refine aQ (oM (C:=aP.cod) (xs:=[.tmp 7]) (ps:=[.va (aP.enc v2)]) (zs:=[v2]) rfl tyS150 rfl ⟨⟨trivial,rfl⟩,trivial⟩ rfl) zU1 ?_
 obtain⟨v4,h5,hF⟩:=bF hF wB
 exact cF
def kQ (K:Nat):Option Bool:=
 (qof 1 2).bind fun v1=>(qof 1 1).bind fun v3=>(qof (-3) 1).bind fun v5=>(qof 1 1).bind fun v7=>(qof 2 1).bind fun v9=>(qof 1 1).bind fun v11=>(qof (-1) 1).bind fun v13=>(aA7 K [(⟨v1,0,false,0,0⟩:aD),(⟨v3,v5,false,0,0⟩:aD)] [(⟨0,0,0,0,0,[(⟨0,v11⟩:aE),(⟨1,v13⟩:aE)],([]:List aE),0,0⟩:aA)]).bind fun v16=>bif(v16.2 != 0) then(some false) else(bif((v16.1.length:Int) != 1) then(some false) else((bL v16.1 0).bind fun v20=>(vN K v20).bind fun v22=>(uI K [(⟨v1,0,false,0,0⟩:aD),(⟨v3,v5,false,0,0⟩:aD)] [v7,v9] v22).bind fun v24=>(uI K [(⟨v1,0,false,0,0⟩:aD),(⟨v3,v5,false,0,0⟩:aD)] [v7,v9] [(⟨2,0⟩:aE)]).bind fun v27=>(y4 K [(⟨v1,0,false,0,0⟩:aD),(⟨v3,v5,false,0,0⟩:aD)] [v7,v9]).bind fun v30=>(qof 6 1).bind fun v32=>(aHd v30 v32).bind fun v34=>bif v34 then((qof 5 1).bind fun v37=>(qof 4 1).bind fun v39=>(z4 K [(⟨v1,0,false,0,0⟩:aD),(⟨v3,v5,false,0,0⟩:aD)] [v37,v39]).bind fun v41=>(qof 24 1).bind fun v43=>(aHd v41 v43).bind fun v45=>bif v45 then((bL v16.1 0).bind fun v50=>(qof 1 1).bind fun v52=>(qof 1 1).bind fun v54=>(t7 K v50 [v52,v54]).bind fun v56=>bif v56 then(bif(v24.2==0) then((qof 4 1).bind fun v60=>(aHd v24.1 v60).bind fun v62=>bif v62 then(some (v27.2==1)) else(some false)) else(some false)) else(some false)) else(some false)) else(some false)))
theorem uQ {K:Nat} {r:Bool} (hF:kQ K=some r):Ct Tryz.prog 16 [] (.vc (pB r)):=by
 unfold kQ at hF
 refine aG Tryz.func16 rfl (by kernel_rfl) Tryz.ntmps16 rfl (fun w0 M0=>?_)
 refine go ?_ ?_
 refine aQ (bB (.inr rfl)) ⟨k_F _,trivial⟩ ?_
 obtain⟨v1,h2,hF⟩:=bF hF bS
 refine go ?_ ?_
 refine aQ (lU (cs:=[]) (pre:=[.vc (pI .i64 1),.vc (pI .i64 2)]) rfl h2 rfl) ⟨rfl,lY _ _,lY _ _,trivial⟩ ?_
 refine aQ (dY (is:=[0]) (xs:=[.tmp 13]) (ps:=[.va (eQ v1)]) rfl tyB36q rfl rfl ⟨trivial,trivial⟩ rfl) zU1 ?_
 refine lH ?_
 obtain⟨v3,h4,hF⟩:=bF hF bS
 refine aQ (lU (cs:=[]) (pre:=[.vc (pI .i64 1),.vc (pI .i64 1)]) rfl h4 rfl) ⟨rfl,lY _ _,lY _ _,trivial⟩ ?_
 refine lH ?_
 obtain⟨v5,h6,hF⟩:=bF hF bS
 refine aQ (lU (cs:=[]) (pre:=[.vc (pI .i64 (-3)),.vc (pI .i64 1)]) rfl h6 rfl) ⟨rfl,lY _ _,lY _ _,trivial⟩ ?_
 refine aQ (dY (is:=[0,1]) (xs:=[.tmp 16,.tmp 18]) (ps:=[.va (eQ v3),.va (eQ v5)]) rfl tyB36q rfl rfl ⟨trivial,trivial,trivial⟩ rfl) zU2 ?_
 refine aQ (oM (C:=aD.cod) (xs:=[.tmp 14,.tmp 19]) (ps:=[.va ((eQ v1)++(eQ 0)++[pB false]++(eQ 0)++(eQ 0)),.va ((eQ v3)++(eQ v5)++[pB false]++(eQ 0)++(eQ 0))]) (zs:=[(⟨v1,0,false,0,0⟩:aD),(⟨v3,v5,false,0,0⟩:aD)]) rfl tyS23 rfl ⟨⟨trivial,rfl⟩,⟨trivial,rfl⟩,trivial⟩ rfl) zU2 ?_
 obtain⟨v7,h8,hF⟩:=bF hF bS
 refine go ?_ ?_
 refine aQ (lU (cs:=[]) (pre:=[.vc (pI .i64 1),.vc (pI .i64 1)]) rfl h8 rfl) ⟨rfl,lY _ _,lY _ _,trivial⟩ ?_
 refine lH ?_
 obtain⟨v9,h10,hF⟩:=bF hF bS
 refine aQ (lU (cs:=[]) (pre:=[.vc (pI .i64 2),.vc (pI .i64 1)]) rfl h10 rfl) ⟨rfl,lY _ _,lY _ _,trivial⟩ ?_
 refine aQ (oM (C:=cQ) (xs:=[.tmp 22,.tmp 24]) (ps:=[.va (eQ v7),.va (eQ v9)]) (zs:=[v7,v9]) rfl tyS24 rfl ⟨⟨trivial,rfl⟩,⟨trivial,rfl⟩,trivial⟩ rfl) zU2 ?_
 obtain⟨v11,h12,hF⟩:=bF hF bS
 refine go ?_ ?_
 refine aQ (lU (cs:=[]) (pre:=[.vc (pI .i64 1),.vc (pI .i64 1)]) rfl h12 rfl) ⟨rfl,lY _ _,lY _ _,trivial⟩ ?_
 refine aQ (dY (is:=[0,1]) (xs:=[.const (.int .i64 (0)),.tmp 27]) (ps:=[.vc (pI .i64 0),.va (eQ v11)]) rfl tyB104q rfl rfl ⟨trivial,trivial,trivial⟩ rfl) ⟨lY _ _,rfl,trivial⟩ ?_
 refine lH ?_
 obtain⟨v13,h14,hF⟩:=bF hF bS
 refine aQ (lU (cs:=[]) (pre:=[.vc (pI .i64 (-1)),.vc (pI .i64 1)]) rfl h14 rfl) ⟨rfl,lY _ _,lY _ _,trivial⟩ ?_
 refine aQ (dY (is:=[0,1]) (xs:=[.const (.int .i64 (1)),.tmp 30]) (ps:=[.vc (pI .i64 1),.va (eQ v13)]) rfl tyB104q rfl rfl ⟨trivial,trivial,trivial⟩ rfl) ⟨lY _ _,rfl,trivial⟩ ?_
 refine aQ (oM (C:=aE.cod) (xs:=[.tmp 28,.tmp 31]) (ps:=[.va ([pI .i64 0]++(eQ v11)),.va ([pI .i64 1]++(eQ v13))]) (zs:=[(⟨0,v11⟩:aE),(⟨1,v13⟩:aE)]) rfl tyS47 rfl ⟨⟨trivial,rfl⟩,⟨trivial,rfl⟩,trivial⟩ rfl) zU2 ?_
 refine aQ (dY (is:=[5]) (xs:=[.tmp 32]) (ps:=[.vc (pS aE.cod [(⟨0,v11⟩:aE),(⟨1,v13⟩:aE)])]) rfl tyB49q rfl rfl ⟨trivial,trivial⟩ rfl) zU1 ?_
 refine aO rfl tyZ49q (fun b15=>?_)
 refine go ?_ ?_
 refine aQ (oM (C:=aA.cod) (xs:=[.tmp 36]) (ps:=[.va ([pI .i64 0]++[pI .i64 0]++[pI .i64 0]++[pI .i64 0]++(eQ 0)++[pS aE.cod [(⟨0,v11⟩:aE),(⟨1,v13⟩:aE)]]++[pS aE.cod ([]:List aE)]++(eQ 0)++(eQ 0))]) (zs:=[(⟨0,0,0,0,0,[(⟨0,v11⟩:aE),(⟨1,v13⟩:aE)],([]:List aE),0,0⟩:aA)]) rfl tyS25 rfl ⟨⟨trivial,rfl⟩,trivial⟩ rfl) zU1 ?_
 obtain⟨v16,h17,hF⟩:=bF hF aFU
 refine go ?_ ?_
 refine eW hF (fun h18 hF=>?_) (fun h18 hF=>?_)
 ·refine go ?_ ?_
  refine oU rfl ?_
  exact cF
 refine go ?_ ?_
 refine aJ hF rfl (fun h19 hF=>?_) (fun h19 hF=>?_)
 ·exact cF
 obtain⟨v20,h21,hF⟩:=aZ hF
 obtain⟨v22,h23,hF⟩:=bF hF aCz
 obtain⟨v24,h25,hF⟩:=bF hF aAz
 refine go ?_ ?_
 refine aO rfl tyZ32q (fun b26=>?_)
 refine go ?_ ?_
 refine aQ (dY (is:=[0]) (xs:=[.const (.int .i64 (2))]) (ps:=[.vc (pI .i64 2)]) rfl tyB104q rfl rfl ⟨trivial,trivial⟩ rfl) ⟨lY _ _,trivial⟩ ?_
 refine aQ (oM (C:=aE.cod) (xs:=[.tmp 61]) (ps:=[.va ([pI .i64 2]++(eQ 0))]) (zs:=[(⟨2,0⟩:aE)]) rfl tyS47 rfl ⟨⟨trivial,rfl⟩,trivial⟩ rfl) zU1 ?_
 obtain⟨v27,h28,hF⟩:=bF hF aAz
 refine go ?_ ?_
 refine aO rfl tyZ32q (fun b29=>?_)
 obtain⟨v30,h31,hF⟩:=bF hF aED
 obtain⟨v32,h33,hF⟩:=bF hF bS
 refine go ?_ ?_
 refine aQ (lU (cs:=[]) (pre:=[.vc (pI .i64 6),.vc (pI .i64 1)]) rfl h33 rfl) ⟨rfl,lY _ _,lY _ _,trivial⟩ ?_
 obtain⟨v34,h35,hF⟩:=bF hF aCA
 refine aQ (cS rfl h35 rfl) zU2 ?_
 refine lH ?_
 refine eW hF (fun h36 hF=>?_) (fun h36 hF=>?_)
 ·refine aAa (bB (.inl rfl)) zU1 ?_
  refine aAa (bB (.inl rfl)) zU1 ?_
  obtain⟨v37,h38,hF⟩:=bF hF bS
  refine aAa (lU (cs:=[]) (pre:=[.vc (pI .i64 5),.vc (pI .i64 1)]) rfl h38 rfl) ⟨rfl,lY _ _,lY _ _,trivial⟩ ?_
  refine aAa (bB (.inl rfl)) zU1 ?_
  obtain⟨v39,h40,hF⟩:=bF hF bS
  refine aAa (lU (cs:=[]) (pre:=[.vc (pI .i64 4),.vc (pI .i64 1)]) rfl h40 rfl) ⟨rfl,lY _ _,lY _ _,trivial⟩ ?_
  refine aAa (oM (C:=cQ) (xs:=[.tmp 75,.tmp 77]) (ps:=[.va (eQ v37),.va (eQ v39)]) (zs:=[v37,v39]) rfl tyS24 rfl ⟨⟨trivial,rfl⟩,⟨trivial,rfl⟩,trivial⟩ rfl) zU2 ?_
  obtain⟨v41,h42,hF⟩:=bF hF aFb
  refine aAa (cS rfl h42 rfl) zU2 ?_
  refine aAa (bB (.inl rfl)) zU1 ?_
  obtain⟨v43,h44,hF⟩:=bF hF bS
  refine aAa (lU (cs:=[]) (pre:=[.vc (pI .i64 24),.vc (pI .i64 1)]) rfl h44 rfl) ⟨rfl,lY _ _,lY _ _,trivial⟩ ?_
  obtain⟨v45,h46,hF⟩:=bF hF aCA
  refine go ?_ ?_
  rcases Bool.eq_false_or_eq_true v45 with h49|h49
  ·have hF:=aAU h49 hF
   have hF:=sE h21 hF
   obtain⟨v52,h53,hF⟩:=bF hF bS
   obtain⟨v54,h55,hF⟩:=bF hF bS
   obtain⟨v56,h57,hF⟩:=bF hF aB9
   rcases Bool.eq_false_or_eq_true v56 with h58|h58
   ·have hF:=aAU h58 hF
    rcases Bool.eq_false_or_eq_true (v24.2==0) with h59|h59
    ·have hF:=aAU h59 hF
     obtain⟨v60,h61,hF⟩:=bF hF bS
     obtain⟨v62,h63,hF⟩:=bF hF aCA
     rcases Bool.eq_false_or_eq_true v62 with h64|h64
     ·have hF:=aAU h64 hF
      refine gT (0::1::3::7::15::3::35::3::227::483::1023::2047::4095::8191::16383::32767::65535::131071::131071::393215::1048575::2097151::4194303::8388607::16777215::33554431::67108863::[]) 27 0 (.v (.vc (pB v45))::.v (.vc (pB true))::.v (.vc (pS (kK cQ) v16.1))::.v (.vc (pM ((kK cQ).e v20)))::.v (.vc (pS cQ v20))::.v (.vc (pF 24 []))::.v (.va (eQ v52))::.v (.vc (pF 24 []))::.v (.va (eQ v54))::.v (.vc (pS cQ [v52,v54]))::.v (.vc (pB v56))::.v (.vc (pB v56))::.v (.vc (pB true))::.v (.vc (pI .i64 v24.2))::.v (.vc (pB (v24.2==0)))::.v (.vc (pB (v24.2==0)))::.v (.vc (pB true))::.v (.va (eQ v24.1))::.v (.vc (pF 24 []))::.v (.va (eQ v60))::.v (.vc (pB v62))::.v (.vc (pB v62))::.v (.vc (pB true))::.v (.vc (pI .i64 v27.2))::.v (.vc (pB (v27.2==1)))::.v (.vc (pB (v27.2==1)))::.v (.vc (pB (v27.2==1)))::[]) bC ⟨d0 (bB (.inl rfl)) zU1,d0 (jK (bB (.inl rfl)) h49) zU1,g0 (bB (.inl rfl)) zU1,g0 (aCO rfl tyS74 h21) ⟨rfl,lY _ _,trivial⟩,g0 (aAP 1 rfl rfl (.one tyO24)) zU1,g0 (bB (.inl rfl)) zU1,g0 (lU (cs:=[]) (pre:=[.vc (pI .i64 1),.vc (pI .i64 1)]) rfl h53 rfl) ⟨rfl,lY _ _,lY _ _,trivial⟩,g0 (bB (.inl rfl)) zU1,g0 (lU (cs:=[]) (pre:=[.vc (pI .i64 1),.vc (pI .i64 1)]) rfl h55 rfl) ⟨rfl,lY _ _,lY _ _,trivial⟩,g0 (oM (C:=cQ) (xs:=[.tmp 90,.tmp 92]) (ps:=[.va (eQ v52),.va (eQ v54)]) (zs:=[v52,v54]) rfl tyS24 rfl ⟨⟨trivial,rfl⟩,⟨trivial,rfl⟩,trivial⟩ rfl) zU2,g0 (cS rfl h57 rfl) zU2,d0 (uH rfl) zU2,d0 (jK (bB (.inl rfl)) h58) zU1,g0 (bB (.inl rfl)) zU1,g0 (aLb rfl) ⟨rfl,lY _ _,trivial⟩,d0 (uH rfl) zU2,d0 (jK (bB (.inl rfl)) h59) zU1,g0 (fX 1 4 rfl rfl rfl rfl (.agg tyA32)) zU1,g0 (bB (.inl rfl)) zU1,g0 (lU (cs:=[]) (pre:=[.vc (pI .i64 4),.vc (pI .i64 1)]) rfl h61 rfl) ⟨rfl,lY _ _,lY _ _,trivial⟩,g0 (cS rfl h63 rfl) zU2,d0 (uH rfl) zU2,d0 (jK (bB (.inl rfl)) h64) zU1,g0 (bB (.inl rfl)) zU1,g0 (aLb rfl) ⟨rfl,lY _ _,trivial⟩,d0 (uH rfl) zU2,d0 (bB (.inr rfl)) zU1,trivial⟩ (fun bs48 G47=>?_)
      refine bT (aU ?_)
      exact cF
     have hF:=aA2 h64 hF
     refine gT (0::1::3::7::15::3::35::3::227::483::1023::2047::4095::8191::16383::32767::65535::131071::131071::393215::1048575::2097151::4194303::8388607::16777215::33554431::67108863::[]) 27 0 (.v (.vc (pB v45))::.v (.vc (pB true))::.v (.vc (pS (kK cQ) v16.1))::.v (.vc (pM ((kK cQ).e v20)))::.v (.vc (pS cQ v20))::.v (.vc (pF 24 []))::.v (.va (eQ v52))::.v (.vc (pF 24 []))::.v (.va (eQ v54))::.v (.vc (pS cQ [v52,v54]))::.v (.vc (pB v56))::.v (.vc (pB v56))::.v (.vc (pB true))::.v (.vc (pI .i64 v24.2))::.v (.vc (pB (v24.2==0)))::.v (.vc (pB (v24.2==0)))::.v (.vc (pB true))::.v (.va (eQ v24.1))::.v (.vc (pF 24 []))::.v (.va (eQ v60))::.v (.vc (pB v62))::.v (.vc (pB v62))::.v (.vc (pB false))::.v .un::.v .un::.v (.vc (pB false))::.v (.vc (pB false))::[]) bC ⟨d0 (bB (.inl rfl)) zU1,d0 (jK (bB (.inl rfl)) h49) zU1,g0 (bB (.inl rfl)) zU1,g0 (aCO rfl tyS74 h21) ⟨rfl,lY _ _,trivial⟩,g0 (aAP 1 rfl rfl (.one tyO24)) zU1,g0 (bB (.inl rfl)) zU1,g0 (lU (cs:=[]) (pre:=[.vc (pI .i64 1),.vc (pI .i64 1)]) rfl h53 rfl) ⟨rfl,lY _ _,lY _ _,trivial⟩,g0 (bB (.inl rfl)) zU1,g0 (lU (cs:=[]) (pre:=[.vc (pI .i64 1),.vc (pI .i64 1)]) rfl h55 rfl) ⟨rfl,lY _ _,lY _ _,trivial⟩,g0 (oM (C:=cQ) (xs:=[.tmp 90,.tmp 92]) (ps:=[.va (eQ v52),.va (eQ v54)]) (zs:=[v52,v54]) rfl tyS24 rfl ⟨⟨trivial,rfl⟩,⟨trivial,rfl⟩,trivial⟩ rfl) zU2,g0 (cS rfl h57 rfl) zU2,d0 (uH rfl) zU2,d0 (jK (bB (.inl rfl)) h58) zU1,g0 (bB (.inl rfl)) zU1,g0 (aLb rfl) ⟨rfl,lY _ _,trivial⟩,d0 (uH rfl) zU2,d0 (jK (bB (.inl rfl)) h59) zU1,g0 (fX 1 4 rfl rfl rfl rfl (.agg tyA32)) zU1,g0 (bB (.inl rfl)) zU1,g0 (lU (cs:=[]) (pre:=[.vc (pI .i64 4),.vc (pI .i64 1)]) rfl h61 rfl) ⟨rfl,lY _ _,lY _ _,trivial⟩,g0 (cS rfl h63 rfl) zU2,d0 (uH rfl) zU2,d0 (jK (bB (.inl rfl)) h64) zU1,⟨rfl,.skipN⟩,⟨rfl,.skipN⟩,d0 (aAg rfl) ⟨rfl,k_B _,trivial⟩,d0 (bB (.inr rfl)) zU1,trivial⟩ (fun bs48 G47=>?_)
     refine bT (aU ?_)
     exact cF
    have hF:=aA2 h59 hF
    refine gT (0::1::3::7::15::3::35::3::227::483::1023::2047::4095::8191::16383::32767::65535::131071::131071::393215::1048575::2097151::4194303::8388607::16777215::33554431::67108863::[]) 27 0 (.v (.vc (pB v45))::.v (.vc (pB true))::.v (.vc (pS (kK cQ) v16.1))::.v (.vc (pM ((kK cQ).e v20)))::.v (.vc (pS cQ v20))::.v (.vc (pF 24 []))::.v (.va (eQ v52))::.v (.vc (pF 24 []))::.v (.va (eQ v54))::.v (.vc (pS cQ [v52,v54]))::.v (.vc (pB v56))::.v (.vc (pB v56))::.v (.vc (pB true))::.v (.vc (pI .i64 v24.2))::.v (.vc (pB (v24.2==0)))::.v (.vc (pB (v24.2==0)))::.v (.vc (pB false))::.v .un::.v .un::.v .un::.v .un::.v (.vc (pB false))::.v (.vc (pB false))::.v .un::.v .un::.v (.vc (pB false))::.v (.vc (pB false))::[]) bC ⟨d0 (bB (.inl rfl)) zU1,d0 (jK (bB (.inl rfl)) h49) zU1,g0 (bB (.inl rfl)) zU1,g0 (aCO rfl tyS74 h21) ⟨rfl,lY _ _,trivial⟩,g0 (aAP 1 rfl rfl (.one tyO24)) zU1,g0 (bB (.inl rfl)) zU1,g0 (lU (cs:=[]) (pre:=[.vc (pI .i64 1),.vc (pI .i64 1)]) rfl h53 rfl) ⟨rfl,lY _ _,lY _ _,trivial⟩,g0 (bB (.inl rfl)) zU1,g0 (lU (cs:=[]) (pre:=[.vc (pI .i64 1),.vc (pI .i64 1)]) rfl h55 rfl) ⟨rfl,lY _ _,lY _ _,trivial⟩,g0 (oM (C:=cQ) (xs:=[.tmp 90,.tmp 92]) (ps:=[.va (eQ v52),.va (eQ v54)]) (zs:=[v52,v54]) rfl tyS24 rfl ⟨⟨trivial,rfl⟩,⟨trivial,rfl⟩,trivial⟩ rfl) zU2,g0 (cS rfl h57 rfl) zU2,d0 (uH rfl) zU2,d0 (jK (bB (.inl rfl)) h58) zU1,g0 (bB (.inl rfl)) zU1,g0 (aLb rfl) ⟨rfl,lY _ _,trivial⟩,d0 (uH rfl) zU2,d0 (jK (bB (.inl rfl)) h59) zU1,⟨rfl,.skipN⟩,⟨rfl,.skipN⟩,⟨rfl,.skipN⟩,⟨rfl,.skipN⟩,d0 (aAg rfl) ⟨rfl,k_B _,trivial⟩,d0 (bB (.inl rfl)) zU1,⟨rfl,.skipN⟩,⟨rfl,.skipN⟩,d0 (aAg rfl) ⟨rfl,k_B _,trivial⟩,d0 (bB (.inr rfl)) zU1,trivial⟩ (fun bs48 G47=>?_)
    refine bT (aU ?_)
    exact cF
   have hF:=aA2 h58 hF
   refine gT (0::1::3::7::15::3::35::3::227::483::1023::2047::4095::8191::16383::32767::65535::131071::131071::393215::1048575::2097151::4194303::8388607::16777215::33554431::67108863::[]) 27 0 (.v (.vc (pB v45))::.v (.vc (pB true))::.v (.vc (pS (kK cQ) v16.1))::.v (.vc (pM ((kK cQ).e v20)))::.v (.vc (pS cQ v20))::.v (.vc (pF 24 []))::.v (.va (eQ v52))::.v (.vc (pF 24 []))::.v (.va (eQ v54))::.v (.vc (pS cQ [v52,v54]))::.v (.vc (pB v56))::.v (.vc (pB v56))::.v (.vc (pB false))::.v .un::.v .un::.v (.vc (pB false))::.v (.vc (pB false))::.v .un::.v .un::.v .un::.v .un::.v (.vc (pB false))::.v (.vc (pB false))::.v .un::.v .un::.v (.vc (pB false))::.v (.vc (pB false))::[]) bC ⟨d0 (bB (.inl rfl)) zU1,d0 (jK (bB (.inl rfl)) h49) zU1,g0 (bB (.inl rfl)) zU1,g0 (aCO rfl tyS74 h21) ⟨rfl,lY _ _,trivial⟩,g0 (aAP 1 rfl rfl (.one tyO24)) zU1,g0 (bB (.inl rfl)) zU1,g0 (lU (cs:=[]) (pre:=[.vc (pI .i64 1),.vc (pI .i64 1)]) rfl h53 rfl) ⟨rfl,lY _ _,lY _ _,trivial⟩,g0 (bB (.inl rfl)) zU1,g0 (lU (cs:=[]) (pre:=[.vc (pI .i64 1),.vc (pI .i64 1)]) rfl h55 rfl) ⟨rfl,lY _ _,lY _ _,trivial⟩,g0 (oM (C:=cQ) (xs:=[.tmp 90,.tmp 92]) (ps:=[.va (eQ v52),.va (eQ v54)]) (zs:=[v52,v54]) rfl tyS24 rfl ⟨⟨trivial,rfl⟩,⟨trivial,rfl⟩,trivial⟩ rfl) zU2,g0 (cS rfl h57 rfl) zU2,d0 (uH rfl) zU2,d0 (jK (bB (.inl rfl)) h58) zU1,⟨rfl,.skipN⟩,⟨rfl,.skipN⟩,d0 (aAg rfl) ⟨rfl,k_B _,trivial⟩,d0 (bB (.inl rfl)) zU1,⟨rfl,.skipN⟩,⟨rfl,.skipN⟩,⟨rfl,.skipN⟩,⟨rfl,.skipN⟩,d0 (aAg rfl) ⟨rfl,k_B _,trivial⟩,d0 (bB (.inl rfl)) zU1,⟨rfl,.skipN⟩,⟨rfl,.skipN⟩,d0 (aAg rfl) ⟨rfl,k_B _,trivial⟩,d0 (bB (.inr rfl)) zU1,trivial⟩ (fun bs48 G47=>?_)
   refine bT (aU ?_)
   exact cF
  have hF:=aA2 h49 hF
  refine drb (0::1::3::7::15::3::35::3::227::483::1023::2047::4095::8191::16383::32767::65535::131071::131071::393215::1048575::2097151::4194303::8388607::16777215::33554431::67108863::[]) 27 0 ?_ (fun bs48 G47=>?_)
  refine bT (aU ?_)
  exact cF
 refine go ?_ ?_
 refine dr (0::1::3::7::15::3::35::3::227::483::1023::2047::4095::8191::16383::32767::65535::131071::131071::393215::1048575::2097151::4194303::8388607::16777215::33554431::67108863::[]) 27 0 ?_ (fun bs66 G65=>?_)
 refine bT (aU ?_)
 exact cF
def qY (K:Nat) (c0:List Rat) (c1:List Rat) (a0:aA):Option Bool:=
 (jQ K a0.t c0).bind fun v2=>(jQ K a0.t c1).bind fun v7=>(aAJ v2 v7).bind fun v9=>(zR v2 v9).bind fun v11=>(zN v11).bind fun v13=>some (decide (v13<0))
theorem aFd {K:Nat} {c0:List Rat} {c1:List Rat} {a0:aA} {r:Bool} (hF:qY K c0 c1 a0=some r):Ct Tryz.prog 58 [.va (aA.enc a0),.vc (pM ((kK cQ).e c0)),.vc (pM ((kK cQ).e c1))] (.vc (pB r)):=by
 unfold qY at hF
 refine aG Tryz.func58 rfl (by kernel_rfl) Tryz.ntmps58 rfl (fun w0 M0=>?_)
 refine aK (aR (cC rfl rfl trivial (fun b1=>?_)))
 obtain⟨v2,h3,hF⟩:=bF hF n9
 refine go ?_ ?_
 refine aO rfl tyZ32q (fun b4=>?_)
 obtain⟨v7,h8,hF⟩:=bF hF n9
 obtain⟨v9,h10,hF⟩:=bF hF uR
 obtain⟨v11,h12,hF⟩:=bF hF mI
 obtain⟨v13,h14,hF⟩:=bF hF lN
 refine go ?_ ?_
 refine dr [0,0,0,4,0,28,62,127,255,511,1023] 11 0 ?_ (fun bs6 G5=>?_)
 refine bT (aU ?_)
 exact cF
def wO (K:Nat) (a0:List Rat) (a1:List Rat) (a2:List aA):Option Bool:=
 (fN K a2 (qY K a0 a1)).bind fun v3=>some (!v3)
theorem aGs {K:Nat} {a0:List Rat} {a1:List Rat} {a2:List aA} {r:Bool} (hF:wO K a0 a1 a2=some r):Ct Tryz.prog 17 [.vc (pS cQ a0),.vc (pS cQ a1),.vc (pS aA.cod a2)] (.vc (pB r)):=by
 unfold wO at hF
 refine aG Tryz.func17 rfl (by kernel_rfl) Tryz.ntmps17 rfl (fun w0 M0=>?_)
 refine aK (aR (cC rfl rfl trivial (fun b1=>?_)))
 refine cC rfl rfl trivial (fun b2=>?_)
 refine aQ (bB (.inr rfl)) ⟨k_B _,trivial⟩ ?_
 refine bT (aU (aK (aR (lH ?_))))
 refine yO 1 [(3,0)] rfl zU1 rfl ?_
 refine yO 0 [(4,0)] rfl zU1 rfl ?_
 refine aQ (aEL (φ:=(qY K a0 a1)) (pre:=fun x:aA=>[.va (aA.enc x)]) (post:=fun r:Bool=>.vc (pB r)) (xs:=[.tmp 3,.tmp 4]) (cs:=[pM ((kK cQ).e a0),pM ((kK cQ).e a1)]) rfl rfl (fun x r h=>aFd h)) zU2 ?_
 obtain⟨v3,h4,hF⟩:=bF hF u6
 exact cF
def jM (K:Nat) (v1:bH) (x34:List Rat) (x40:List aD) (v50:List Rat) (x69:List aA):Option Bool:=
 (lZ K x40 v1.load v1.v x69).bind fun v77=>bif(v77.2.2 != 0) then(some false) else(bif((v77.1.length:Int) != (x40.length:Int)) then(some false) else((kX K (⟨0,v50,v1.v,([]:List Bool)⟩:a8) v77.1).bind fun v83=>(tR K (⟨x40,([]:List iN),([]:List iO),([]:List (Int×Int))⟩:kY) x34 (⟨0,v50,v1.v,([]:List Bool)⟩:a8) v83).bind fun v85=>(zN v85).bind fun v87=>bif(v87 != 0) then(some false) else((lZ K x40 v1.load v1.v v1.rows).bind fun v90=>bif(v90.2.2 != 0) then((kQ K).bind fun v93=>some v93) else(bif((v90.1.length:Int) != (x40.length:Int)) then(some false) else((kX K (⟨0,v50,v1.v,([]:List Bool)⟩:a8) v90.1).bind fun v98=>(tR K (⟨x40,([]:List iN),([]:List iO),([]:List (Int×Int))⟩:kY) x34 (⟨0,v50,v1.v,([]:List Bool)⟩:a8) v98).bind fun v100=>(wO K v1.v v90.1 v1.rows).bind fun v102=>bif(!v102) then((kQ K).bind fun v105=>some v105) else((zN v100).bind fun v107=>bif(decide (0≤v107)) then((kQ K).bind fun v110=>some v110) else(some false)))))))
def dD (K:Nat) (v1:bH):Nat→(List aA)→Int→Option (List aA)
 |0,_,_=>none
 |k+1,x62,x68=>bif(decide (x68<(v1.rows.length:Int))) then((bL v1.rows x68).bind fun v113=>(qR x62 [(⟨0,0,x68,0,0,v113.j,([]:List aE),0,0⟩:aA)]).bind fun x115=>(aT (x68+1)).bind fun v122=>dD K v1 k x115 v122) else(some x62)
def jP (K:Nat) (a1:List Int) (v1:bH) (x34:List Rat) (x40:List aD):Option Bool:=
 (nA K a1 8 (x40.length:Int)).bind fun v50=>(dD K v1 K ([]:List aA) 0).bind fun x69=>jM K v1 x34 x40 v50 x69
def dE (K:Nat) (a1:List Int) (v1:bH):Nat→(List Rat)→(List aD)→Int→Option ((List Rat)×(List aD))
 |0,_,_,_=>none
 |k+1,x21,x27,x33=>bif(decide (x33<(v1.dofs.length:Int))) then((bE a1 x33 1073741824).bind fun v125=>(gI v125).bind fun v127=>(bL v1.dofs x33).bind fun v132=>(qR x27 [(⟨v132.inv,v127,false,0,0⟩:aD)]).bind fun x134=>(bL v1.load x33).bind fun v143=>(aEl v143 v127).bind fun v145=>(qR x21 [v145]).bind fun x147=>(aT (x33+1)).bind fun v154=>dE K a1 v1 k x147 x134 v154) else(some (x21,x27))
def jG (K:Nat) (a0:List Int) (a1:List Int) (a2:Bool):Option Bool:=
 (lG K a0 a2).bind fun v1=>(dE K a1 v1 K ([]:List Rat) ([]:List aD) 0).bind fun(x34,x40)=>jP K a1 v1 x34 x40
theorem zZ {K:Nat} {a0:List Int} {a1:List Int} {a2:Bool} {r:Bool} (hF:jG K a0 a1 a2=some r):Ct Tryz.prog 3 [.vc (pS cI a0),.vc (pS cI a1),.vc (pB a2)] (.vc (pB r)):=by
 unfold jG at hF
 refine aG Tryz.func3 rfl (by kernel_rfl) Tryz.ntmps3 rfl (fun w0 M0=>?_)
 obtain⟨v1,h2,hF⟩:=bF hF aDm
 refine go ?_ ?_
 refine aO rfl tyZ27q (fun b3=>?_)
 refine mR (t_s 0 rfl rfl rfl tyA27.s) zU2 ?_
 refine bT (aU (aK (aR (tV aD.cod 36 rfl ?_))))
 refine bT (aU (aK (aR (tV cQ 32 rfl ?_))))
 refine go ?_ ?_
 refine aS (bV (fun H E=>∃(x34:List Rat),∃(x40:List aD),∃(b35:Option Nat),∃(c36:Nat),∃(n37:Nat),∃(b41:Option Nat),∃(c42:Nat),∃(n43:Nat),jP K a1 v1 x34 x40=some r∧x34.length=n37∧x40.length=n43∧H=[hO cQ b35 c36 32 n37 x34,hO aD.cod b41 c42 36 n43 x40,⟨some b3,1,27,4,1,(bH.enc v1)⟩]∧E=[(1,.vc (pS cI a1)),(7,.vc (pP (some b3) 0)),(8,.vc (pO b41 n43 c42)),(9,.vc (pO b35 n37 c36))]) ?_ (fun Jj47=>?_))
 ·rintro _ _ ⟨x34,x40,b35,c36,n37,b41,c42,n43,hF,q38,q44,rfl,rfl⟩
  unfold jP at hF
  refine aU (aK ?_)
  obtain⟨v50,h51,hF⟩:=bF hF aCb
  refine gT [0,0,2,7,0,16,63,0,255] 8 1 [.v (.vc (pS cI a1)),.v (.vc (pO b41 n43 c42)),.v (.vc (pI .i64 (x40.length:Int))),.v (.vc (pS cQ v50)),.v (.vc (pP (some b3) 2)),.v (.vc (pS cQ v1.v)),.v (.va ([pI .i64 0]++[pS cQ v50]++[pS cQ v1.v]++[pS cB ([]:List Bool)])),.a 41 ([pI .i64 0]++[pS cQ ([]:List Rat)]++[pS cQ ([]:List Rat)]++[pS cB ([]:List Bool)])] bC ⟨d0 (bB (.inl rfl)) zU1,d0 (bB (.inl rfl)) zU1,d0 (aEd (C:=aD.cod) (xs:=x40) (T:=36) rfl tyS23 q44) zU1,d0 (cS rfl h51 rfl) ⟨rfl,lY _ _,rfl,trivial⟩,d0 (iU (off:=0) (k:=2) rfl tyF27_2) zU1,d0 (fX 2 1 rfl rfl rfl rfl (.one tyO24)) zU1,d0 (dY (is:=[1,2]) (xs:=[.tmp 61,.tmp 63]) (ps:=[.vc (pS cQ v50),.vc (pS cQ v1.v)]) rfl tyB41q rfl rfl ⟨trivial,trivial,trivial⟩ rfl) zU2,⟨rfl,.alc tyZ41q⟩,trivial⟩ (fun bs49 G48=>?_)
  refine mR (t_s 0 rfl rfl rfl tyA41.s) zU2 ?_
  refine bT (aU (aK (aR (lH ?_))))
  refine zQ 2 [8,59,65] rfl q44 ⟨rfl,rfl,rfl,trivial⟩ rfl ?_
  refine aQ (dY (is:=[0]) (xs:=[.tmp 65]) (ps:=[.vc (pS aD.cod x40)]) rfl tyB46q rfl rfl ⟨trivial,trivial⟩ rfl) zU1 ?_
  refine aO rfl tyZ46q (fun b52=>?_)
  refine mR (t_s 0 rfl rfl rfl tyA46.s) zU2 ?_
  refine bT (aU (aK (aR (tV aA.cod 49 rfl ?_))))
  refine go ?_ ?_
  refine aS (bV (fun H E=>∃(x69:List aA),∃(b70:Option Nat),∃(c71:Nat),∃(n72:Nat),jM K v1 x34 x40 v50 x69=some r∧x69.length=n72∧H=[hO aA.cod b70 c71 49 n72 x69,⟨some b52,1,46,4,1,([pS aD.cod x40]++[pS iN.cod ([]:List iN)]++[pS iO.cod ([]:List iO)]++[pS cA2 ([]:List (Int×Int))])⟩,⟨some (bs49 7),1,41,4,1,([pI .i64 0]++[pS cQ v50]++[pS cQ v1.v]++[pS cB ([]:List Bool)])⟩,hO cQ b35 c36 32 n37 x34,⟨some b3,1,27,4,1,(bH.enc v1)⟩]∧E=[(7,.vc (pP (some b3) 0)),(8,.vc (pS aD.cod x40)),(9,.vc (pO b35 n37 c36)),(12,.vc (pP (some (bs49 7)) 0)),(13,.vc (pP (some b52) 0)),(14,.vc (pO b70 n72 c71))]) ?_ (fun Jj76=>?_))
  ·rintro _ _ ⟨x69,b70,c71,n72,hF,q73,rfl,rfl⟩
   unfold jM at hF
   refine aU (aK (aR (lH ?_)))
   refine aQ (iU (off:=0) (k:=1) rfl tyF27_1) zU1 ?_
   refine aQ (fX 4 1 rfl rfl rfl rfl (.one tyO24)) zU1 ?_
   refine aQ (iU (off:=0) (k:=2) rfl tyF27_2) zU1 ?_
   refine aQ (fX 4 1 rfl rfl rfl rfl (.one tyO24)) zU1 ?_
   refine lH ?_
   refine zQ 0 [14,91] rfl q73 zU2 rfl ?_
   obtain⟨v77,h78,hF⟩:=bF hF aCu
   refine go ?_ ?_
   refine eW hF (fun h79 hF=>?_) (fun h79 hF=>?_)
   ·refine go ?_ ?_
    refine oU rfl ?_
    exact cF
   refine go ?_ ?_
   refine aJ hF rfl (fun h80 hF=>?_) (fun h80 hF=>?_)
   ·exact cF
   refine iP (aU (aK (aK (aF2 2 [9] rfl q38 zU1 rfl ?_))))
   obtain⟨v83,h84,hF⟩:=bF hF xP
   obtain⟨v85,h86,hF⟩:=bF hF aCp
   obtain⟨v87,h88,hF⟩:=bF hF lN
   refine dr [0,0,0,0,0,24,63,127,255] 9 0 ?_ (fun bs82 G81=>?_)
   refine bT (aU (aJ hF rfl (fun h89 hF=>?_) (fun h89 hF=>?_)))
   ·exact cF
   obtain⟨v90,h91,hF⟩:=bF hF aCu
   refine go ?_ ?_
   refine aJ hF rfl (fun h92 hF=>?_) (fun h92 hF=>?_)
   ·obtain⟨v93,h94,hF⟩:=bF hF uQ
    exact cF
   refine go ?_ ?_
   refine aJ hF rfl (fun h95 hF=>?_) (fun h95 hF=>?_)
   ·exact cF
   obtain⟨v98,h99,hF⟩:=bF hF xP
   obtain⟨v100,h101,hF⟩:=bF hF aCp
   refine go ?_ ?_
   refine dr [0,0,0,0,0,24,63,0,255] 8 1 ?_ (fun bs97 G96=>?_)
   obtain⟨v102,h103,hF⟩:=bF hF aGs
   refine go ?_ ?_
   refine eW hF (fun h104 hF=>?_) (fun h104 hF=>?_)
   ·obtain⟨v105,h106,hF⟩:=bF hF uQ
    exact cF
   obtain⟨v107,h108,hF⟩:=bF hF lN
   refine go ?_ ?_
   refine eW hF (fun h109 hF=>?_) (fun h109 hF=>?_)
   ·obtain⟨v110,h111,hF⟩:=bF hF uQ
    exact cF
   exact cF
  obtain⟨x69',hL,hRl75⟩:=aZ hF
  refine gB (fun k a w=>∃(x62:List aA),∃(x68:Int),∃(b63:Option Nat),∃(c64:Nat),∃(n65:Nat),dD K v1 k x62 x68=some x69'∧x62.length=n65∧hs _ [hO aA.cod b63 c64 49 n65 x62,⟨some b52,1,46,4,1,([pS aD.cod x40]++[pS iN.cod ([]:List iN)]++[pS iO.cod ([]:List iO)]++[pS cA2 ([]:List (Int×Int))])⟩,⟨some (bs49 7),1,41,4,1,([pI .i64 0]++[pS cQ v50]++[pS cQ v1.v]++[pS cB ([]:List Bool)])⟩,hO cQ b35 c36 32 n37 x34,⟨some b3,1,27,4,1,(bH.enc v1)⟩] [(7,.vc (pP (some b3) 0)),(8,.vc (pS aD.cod x40)),(9,.vc (pO b35 n37 c36)),(12,.vc (pP (some (bs49 7)) 0)),(13,.vc (pP (some b52) 0)),(14,.vc (pO b63 n65 c64)),(15,.vc (pI .i64 x68))] a w) K (fun a w ⟨_,_,_,_,_,hF,_,_⟩=>by cases hF) (fun k a w ⟨x62,x68,b63,c64,n65,hF,q66,hh⟩=>gC ?_ hh) (fun a w hh=>⟨([]:List aA),0,none,0,0,hL,rfl,gJ [0,1,2,3,4] hh⟩)
  rw [dD.eq_2] at hF
  refine go ?_ ?_
  refine aJ hF rfl (fun h112 hF=>?_) (fun h112 hF=>?_)
  ·refine go ?_ ?_
   refine aS ?_
   obtain⟨v113,h114,hF⟩:=aZ hF
   refine go ?_ ?_
   refine aQ (dY (is:=[5,2]) (xs:=[.tmp 80,.tmp 81]) (ps:=[.vc (pS aE.cod v113.j),.vc (pI .i64 x68)]) rfl tyB49q rfl rfl ⟨trivial,trivial,trivial⟩ rfl) zU2 ?_
   refine aQ (oM (C:=aA.cod) (xs:=[.tmp 82]) (ps:=[.va ([pI .i64 0]++[pI .i64 0]++[pI .i64 x68]++[pI .i64 0]++(eQ 0)++[pS aE.cod v113.j]++[pS aE.cod ([]:List aE)]++(eQ 0)++(eQ 0))]) (zs:=[(⟨0,0,x68,0,0,v113.j,([]:List aE),0,0⟩:aA)]) rfl tyS25 rfl ⟨⟨trivial,rfl⟩,trivial⟩ rfl) zU1 ?_
   obtain⟨x115,h116,hF⟩:=aZ hF
   refine nH 0 rfl tyS25 rfl rfl q66 rfl rfl h116 (fun b117 c118 H119 e120=>?_)
   cases e120
   obtain⟨v122,h123,hF⟩:=aZ hF
   refine go ?_ ?_
   exact aM (fun a w hh=>⟨x115,v122,b117,c118,(n65+[(⟨0,0,x68,0,0,v113.j,([]:List aE),0,0⟩:aA)].length),hF,(eJ h116 q66),gJ [0,1,2,3,4] hh⟩)
  refine cR ?_
  obtain rfl:=pZ hF
  exact qZ Jj76 ⟨x62,b63,c64,n65,hRl75,q66,rfl,rfl⟩ [0,1,2,3,4]
 obtain⟨⟨x34',x40'⟩,hL,hRl46⟩:=aZ hF
 refine gB (fun k a w=>∃(x21:List Rat),∃(x27:List aD),∃(x33:Int),∃(b22:Option Nat),∃(c23:Nat),∃(n24:Nat),∃(b28:Option Nat),∃(c29:Nat),∃(n30:Nat),dE K a1 v1 k x21 x27 x33=some (x34',x40')∧x21.length=n24∧x27.length=n30∧hs _ [hO cQ b22 c23 32 n24 x21,hO aD.cod b28 c29 36 n30 x27,⟨some b3,1,27,4,1,(bH.enc v1)⟩] [(1,.vc (pS cI a1)),(7,.vc (pP (some b3) 0)),(8,.vc (pO b28 n30 c29)),(9,.vc (pO b22 n24 c23)),(10,.vc (pI .i64 x33))] a w) K (fun a w ⟨_,_,_,_,_,_,_,_,_,hF,_,_,_⟩=>by cases hF) (fun k a w ⟨x21,x27,x33,b22,c23,n24,b28,c29,n30,hF,q25,q31,hh⟩=>gC ?_ hh) (fun a w hh=>⟨([]:List Rat),([]:List aD),0,none,0,0,none,0,0,hL,rfl,rfl,gJ [0,1,2] hh⟩)
 rw [dE.eq_2] at hF
 refine go ?_ ?_
 refine aJ hF rfl (fun h124 hF=>?_) (fun h124 hF=>?_)
 ·refine go ?_ ?_
  refine aS ?_
  obtain⟨v125,h126,hF⟩:=bF hF cY
  obtain⟨v127,h128,hF⟩:=bF hF zU
  refine go ?_ ?_
  refine aO rfl tyZ32q (fun b129=>?_)
  obtain⟨v132,h133,hF⟩:=aZ hF
  refine go ?_ ?_
  refine gT [0,0,2,0,14,30,62,0,254,510,1023,2047] 10 2 [.v (.vc (pO b28 n30 c29)),.v (.vc (pP (some b3) 0)),.v (.vc (pS aD.cod v1.dofs)),.v (.vc (pI .i64 x33)),.v (.vc (pM (aD.cod.e v132))),.v (.vc (pM (aD.cod.e v132))),.v (.va (eQ v132.inv)),.v (.va (eQ v127)),.v (.va ((eQ v132.inv)++(eQ v127)++[pB false]++(eQ 0)++(eQ 0))),.v (.vc (pS aD.cod [(⟨v132.inv,v127,false,0,0⟩:aD)]))] bC ⟨d0 (bB (.inl rfl)) zU1,d0 (iU (off:=0) (k:=0) rfl tyF27_0) zU1,d0 (fX 3 1 rfl rfl rfl rfl (.one tyO23)) zU1,d0 (bB (.inl rfl)) zU1,d0 (aCO rfl tyS23 h133) zU2,d0 (aPl (ps:=(aD.cod.e v132)) (k:=0) rfl tyF36_0) zU1,d0 (aAP 4 rfl rfl (.agg tyA32)) zU1,d0 (fX 0 4 rfl rfl rfl rfl (.agg tyA32)) zU1,d0 (dY (is:=[0,1]) (xs:=[.tmp 43,.tmp 44]) (ps:=[.va (eQ v132.inv),.va (eQ v127)]) rfl tyB36q rfl rfl ⟨trivial,trivial,trivial⟩ rfl) zU2,d0 (oM (C:=aD.cod) (xs:=[.tmp 45]) (ps:=[.va ((eQ v132.inv)++(eQ v127)++[pB false]++(eQ 0)++(eQ 0))]) (zs:=[(⟨v132.inv,v127,false,0,0⟩:aD)]) rfl tyS23 rfl ⟨⟨trivial,rfl⟩,trivial⟩ rfl) zU1,trivial⟩ (fun bs131 G130=>?_)
  obtain⟨x134,h135,hF⟩:=aZ hF
  refine nH 2 rfl tyS23 rfl rfl q31 rfl rfl h135 (fun b136 c137 H138 e139=>?_)
  cases e139
  obtain⟨v143,h144,hF⟩:=aZ hF
  obtain⟨v145,h146,hF⟩:=bF hF zA
  refine go ?_ ?_
  refine gT [0,0,2,0,14,30,0,126,254,511,1023] 9 2 [.v (.vc (pO b22 n24 c23)),.v (.vc (pP (some b3) 1)),.v (.vc (pS cQ v1.load)),.v (.vc (pI .i64 x33)),.v (.vc (pM (cQ.e v143))),.v (.va (eQ v143)),.v (.va (eQ v127)),.v (.va (eQ v145)),.v (.vc (pS cQ [v145]))] bC ⟨d0 (bB (.inl rfl)) zU1,d0 (iU (off:=0) (k:=1) rfl tyF27_1) zU1,d0 (fX 3 1 rfl rfl rfl rfl (.one tyO24)) zU1,d0 (bB (.inl rfl)) zU1,d0 (aCO rfl tyS24 h144) zU2,d0 (aAP 4 rfl rfl (.agg tyA32)) zU1,d0 (fX 0 4 rfl rfl rfl rfl (.agg tyA32)) zU1,d0 (cS rfl h146 rfl) zU2,d0 (oM (C:=cQ) (xs:=[.tmp 55]) (ps:=[.va (eQ v145)]) (zs:=[v145]) rfl tyS24 rfl ⟨⟨trivial,rfl⟩,trivial⟩ rfl) zU1,trivial⟩ (fun bs142 G141=>?_)
  obtain⟨x147,h148,hF⟩:=aZ hF
  refine nH 1 rfl tyS24 rfl rfl q25 rfl rfl h148 (fun b149 c150 H151 e152=>?_)
  cases e152
  obtain⟨v154,h155,hF⟩:=aZ hF
  refine go ?_ ?_
  exact aM (fun a w hh=>⟨x147,x134,v154,b149,c150,(n24+[v145].length),b136,c137,(n30+[(⟨v132.inv,v127,false,0,0⟩:aD)].length),hF,(eJ h148 q25),(eJ h135 q31),gJ [1,2,3] hh⟩)
 refine cR ?_
 obtain⟨rfl,rfl⟩:=sm2 hF
 exact qZ Jj47 ⟨x21,x27,b22,c23,n24,b28,c29,n30,hRl46,q25,q31,rfl,rfl⟩ [0,1,2]
end Go.Proofs.YtldhbdgfpjoamaaGreat
set_option linter.unusedVariables false
set_option maxRecDepth 100000
namespace Go.Proofs.YtldhbdgfpjoamaaGreat
def yT (K:Nat) (x26:List Rat):Option (List Rat):=
 some x26
def nI (K:Nat) (a1:List aE) (a2:Rat):Nat→(List Rat)→Int→Option (List Rat)
 |0,_,_=>none
 |k+1,x19,x25=>bif(decide (x25<(a1.length:Int))) then((bL a1 x25).bind fun v37=>(bL a1 x25).bind fun v39=>(bL x19 v39.dof).bind fun v41=>(bL a1 x25).bind fun v43=>(zR v43.k a2).bind fun v45=>(aAJ v41 v45).bind fun v47=>(bL x19 v37.dof).bind fun v49=>(oO x19 v37.dof v47).bind fun x51=>(aT (x25+1)).bind fun v54=>nI K a1 a2 k x51 v54) else(some x19)
def uF (K:Nat) (a0:List Rat) (a1:List aE) (a2:Rat):Option (List Rat):=
 (qR ([]:List Rat) a0).bind fun x5=>(nI K a1 a2 K x5 0).bind fun x26=>yT K x26
def yS (K:Nat) (x10:List Rat):Option (List Rat):=
 some x10
def nG (K:Nat) (a1:List aA) (a2:List aI):Nat→(List Rat)→Int→Option (List Rat)
 |0,_,_=>none
 |k+1,x8,x9=>bif(decide (x9<(a1.length:Int))) then((bL a1 x9).bind fun v16=>(bL a2 x9).bind fun v18=>(uF K x8 v16.j v18.n).bind fun v20=>(bL a1 x9).bind fun v22=>(bL a2 x9).bind fun v24=>(uF K v20 v22.t v24.f).bind fun v26=>(aT (x9+1)).bind fun v28=>nG K a1 a2 k v26 v28) else(some x8)
def aAR (K:Nat) (a0:Int) (a1:List aA) (a2:List aI):Option (List Rat):=
 (yJ a0 0).bind fun x1=>(nG K a1 a2 K x1 0).bind fun x10=>yS K x10
def rW (K:Nat) (x19:List Rat):Option (List Rat):=
 some x19
def gA (K:Nat) (a0:List aD) (a1:List Rat) (v1:List Rat):Nat→(List Rat)→Int→Option (List Rat)
 |0,_,_=>none
 |k+1,x12,x18=>bif(decide (x18<(a0.length:Int))) then((bL a0 x18).bind fun v30=>(bL a1 x18).bind fun v32=>(bL v1 x18).bind fun v34=>(aAJ v32 v34).bind fun v36=>(zR v30.inv v36).bind fun v38=>(qR x12 [v38]).bind fun x40=>(aT (x18+1)).bind fun v47=>gA K a0 a1 v1 k x40 v47) else(some x12)
def lV (K:Nat) (a0:List aD) (a1:List Rat) (a2:List aA) (a3:List aI):Option (List Rat):=
 (aAR K (a0.length:Int) a2 a3).bind fun v1=>(gA K a0 a1 v1 K ([]:List Rat) 0).bind fun x19=>rW K x19
def yU (K:Nat):Option Bool:=
 some true
def nK (K:Nat) (a0:List Rat):Nat→Int→Option (LR Bool Unit)
 |0,_=>none
 |k+1,x2=>bif(decide (x2<(a0.length:Int))) then((bL a0 x2).bind fun v6=>(aEI v6).bind fun v8=>bif(!v8) then(some (.ret false)) else((aT (x2+1)).bind fun v11=>nK K a0 k v11)) else(some (.go ()))
def s5 (K:Nat) (a0:List Rat):Option Bool:=
 (nK K a0 K 0).bind fun o=>match o with| .ret r=>some r| .go _=>yU K
def xT (K:Nat):Option Bool:=
 some true
def kD (K:Nat) (a0:List aE) (a1:Int):Nat→Int→Option (LR Bool Unit)
 |0,_=>none
 |k+1,x2=>bif(decide (x2<(a0.length:Int))) then((bL a0 x2).bind fun v8=>(aEI v8.k).bind fun v10=>bif(!v10) then(some (.ret false)) else((bL a0 x2).bind fun v13=>bif(decide (v13.dof<0)) then(some (.ret false)) else((bL a0 x2).bind fun v16=>bif(decide (a1≤v16.dof)) then(some (.ret false)) else(bif(decide (0<x2)) then((bL a0 x2).bind fun v20=>(aT (x2-1)).bind fun v22=>(bL a0 (max v22 0)).bind fun v24=>bif(decide (v20.dof≤v24.dof)) then(some (.ret false)) else((aT (x2+1)).bind fun v27=>kD K a0 a1 k v27)) else((aT (x2+1)).bind fun v29=>kD K a0 a1 k v29))))) else(some (.go ()))
def sH (K:Nat) (a0:List aE) (a1:Int):Option Bool:=
 (kD K a0 a1 K 0).bind fun o=>match o with| .ret r=>some r| .go _=>xT K
def vZ (K:Nat):Option Bool:=
 some true
def k8 (K:Nat) (a0:List aD) (a3:List aA):Nat→Int→Option (LR Bool Unit)
 |0,_=>none
 |k+1,x15=>bif(decide (x15<(a3.length:Int))) then((bL a3 x15).bind fun v19=>(sH K v19.j (a0.length:Int)).bind fun v21=>bif(!v21) then(some (.ret false)) else((bL a3 x15).bind fun v24=>(sH K v24.t (a0.length:Int)).bind fun v26=>bif(!v26) then(some (.ret false)) else((bL a3 x15).bind fun v29=>(aEI v29.mu).bind fun v31=>bif(!v31) then(some (.ret false)) else((bL a3 x15).bind fun v34=>(zN v34.mu).bind fun v36=>bif(decide (v36<0)) then(some (.ret false)) else((aT (x15+1)).bind fun v39=>k8 K a0 a3 k v39))))) else(some (.go ()))
def wM (K:Nat) (a0:List aD) (a3:List aA):Option Bool:=
 (k8 K a0 a3 K 0).bind fun o=>match o with| .ret r=>some r| .go _=>vZ K
def lA (K:Nat) (a0:List aD):Nat→Int→Option (LR Bool Unit)
 |0,_=>none
 |k+1,x11=>bif(decide (x11<(a0.length:Int))) then((bL a0 x11).bind fun v42=>(aEI v42.inv).bind fun v44=>bif(!v44) then(some (.ret false)) else((bL a0 x11).bind fun v47=>(zN v47.inv).bind fun v49=>bif(decide (v49≤0)) then(some (.ret false)) else((aT (x11+1)).bind fun v52=>lA K a0 k v52))) else(some (.go ()))
def zL (K:Nat) (a0:List aD) (a1:List Rat) (a2:List Rat) (a3:List aA):Option Bool:=
 bif(decide (12<(a0.length:Int))) then(some false) else(bif((a1.length:Int) != (a0.length:Int)) then(some false) else(bif((a2.length:Int) != (a0.length:Int)) then(some false) else((s5 K a1).bind fun v4=>bif(!v4) then(some false) else((s5 K a2).bind fun v7=>bif(!v7) then(some false) else((lA K a0 K 0).bind fun o=>match o with| .ret r=>some r| .go _=>wM K a0 a3)))))
def yV (K:Nat) (x7:Rat):Option Rat:=
 some x7
def iZ (K:Nat) (a0:List aE) (a1:List Rat):Nat→Rat→Int→Option Rat
 |0,_,_=>none
 |k+1,x5,x6=>bif(decide (x6<(a0.length:Int))) then((bL a0 x6).bind fun v11=>bif(decide (0≤v11.dof)) then((bL a0 x6).bind fun v14=>bif(decide (v14.dof<(a1.length:Int))) then((bL a0 x6).bind fun v19=>(bL a0 x6).bind fun v21=>(bL a1 (max v21.dof 0)).bind fun v23=>(zR v19.k v23).bind fun v25=>(aAJ x5 v25).bind fun v27=>(aT (x6+1)).bind fun v29=>iZ K a0 a1 k v27 v29) else((aT (x6+1)).bind fun v31=>iZ K a0 a1 k x5 v31)) else((aT (x6+1)).bind fun v33=>iZ K a0 a1 k x5 v33)) else(some x5)
def jT (K:Nat) (a0:List aE) (a1:List Rat):Option Rat:=
 (iZ K a0 a1 K 0 0).bind fun x7=>yV K x7
def zS (K:Nat):Option Bool:=
 some true
def oK (K:Nat) (a2:List Rat) (a3:List aA):Nat→Int→Option (LR Bool Unit)
 |0,_=>none
 |k+1,x5=>bif(decide (x5<(a3.length:Int))) then((bL a3 x5).bind fun v9=>(jT K v9.j a2).bind fun v11=>(zN v11).bind fun v13=>bif(v13 != 0) then(some (.ret false)) else((aT (x5+1)).bind fun v16=>oK K a2 a3 k v16)) else(some (.go ()))
def uC (K:Nat) (a0:List aD) (a1:List Rat) (a2:List Rat) (a3:List aA):Option Bool:=
 (zL K a0 a1 a2 a3).bind fun v1=>bif(!v1) then(some false) else((oK K a2 a3 K 0).bind fun o=>match o with| .ret r=>some r| .go _=>zS K)
def tH (K:Nat) (a0:aA) (a1:List Rat):Option Int:=
 (jT K a0.t a1).bind fun v2=>(zN v2).bind fun v4=>some v4
def uZ (K:Nat) (x17:List aY):Option (List aY):=
 some x17
def fA (K:Nat) (a0:List Rat) (a1:List aA):Nat→(List aY)→Int→Option (List aY)
 |0,_,_=>none
 |k+1,x10,x16=>bif(decide (x16<(a1.length:Int))) then((qR x10 [(⟨x16,0⟩:aY)]).bind fun x26=>(bL a1 x16).bind fun v33=>bif(decide (0<(v33.t.length:Int))) then((bL a1 x16).bind fun v36=>(tH K v36 a0).bind fun v38=>bif(v38==0) then((qR x26 [(⟨x16,1⟩:aY),(⟨x16,2⟩:aY),(⟨x16,3⟩:aY)]).bind fun x41=>(aT (x16+1)).bind fun v48=>fA K a0 a1 k x41 v48) else((aT (x16+1)).bind fun v50=>fA K a0 a1 k x26 v50)) else((aT (x16+1)).bind fun v52=>fA K a0 a1 k x26 v52)) else(some x10)
def kA (K:Nat) (a0:List Rat) (a1:List aA):Option (List aY):=
 (fA K a0 a1 K ([]:List aY) 0).bind fun x17=>uZ K x17
def vW (K:Nat) (a0:aA) (a1:List Rat) (a2:List Rat):Option aI:=
 (tH K a0 a1).bind fun v3=>bif((a0.t.length:Int)==0) then((bL a2 0).bind fun v6=>some (⟨v6,0⟩:aI)) else(bif(v3 != 0) then((bL a2 0).bind fun v11=>(aT (-v3)).bind fun v13=>(qof v13 1).bind fun v15=>(bL a2 0).bind fun v17=>(zR a0.mu v17).bind fun v19=>(zR v15 v19).bind fun v21=>some (⟨v11,v21⟩:aI)) else((bL a2 0).bind fun v25=>(bL a2 1).bind fun v27=>(bL a2 2).bind fun v29=>(aEl v27 v29).bind fun v31=>some (⟨v25,v31⟩:aI)))
def wA (K:Nat) (x19:List aI):Option (List aI):=
 some x19
def wL (K:Nat) (a0:List Rat) (a1:List aA) (x12:List aI) (x18:Int) (recl25:(List aI)→Int→Option (List aI)) (x47:List Rat):Option (List aI):=
 (bL a1 x18).bind fun v55=>(vW K v55 a0 x47).bind fun v57=>(qR x12 [v57]).bind fun x59=>(aT (x18+1)).bind fun v66=>recl25 x59 v66
def iT (K:Nat) (a2:List Rat) (v3:List aY) (x18:Int):Nat→(List Rat)→Int→Option (List Rat)
 |0,_,_=>none
 |k+1,x40,x46=>bif(decide (x46<(v3.length:Int))) then((bL v3 x46).bind fun v69=>bif(v69.row==x18) then((bL v3 x46).bind fun v74=>(bL a2 x46).bind fun v76=>(bL x40 v74.kind).bind fun v78=>(oO x40 v74.kind v76).bind fun x80=>(aT (x46+1)).bind fun v83=>iT K a2 v3 x18 k x80 v83) else((aT (x46+1)).bind fun v85=>iT K a2 v3 x18 k x40 v85)) else(some x40)
def k9 (K:Nat) (a0:List Rat) (a1:List aA) (a2:List Rat) (v3:List aY):Nat→(List aI)→Int→Option (List aI)
 |0,_,_=>none
 |k+1,x12,x18=>bif(decide (x18<(a1.length:Int))) then((yJ 4 0).bind fun x28=>(iT K a2 v3 x18 K x28 0).bind fun x47=>wL K a0 a1 x12 x18 (k9 K a0 a1 a2 v3 k) x47) else(some x12)
def rQ (K:Nat) (a0:List Rat) (a1:List aA) (a2:List Rat):Option (List aI):=
 (kA K a0 a1).bind fun v3=>(k9 K a0 a1 a2 v3 K ([]:List aI) 0).bind fun x19=>wA K x19
def wG (K:Nat) (x23:List Rat):Option (List Rat):=
 some x23
def eR (K:Nat) (a3:List aA) (a4:List Rat) (v3:List Rat) (v5:List aY):Nat→(List Rat)→Int→Option (List Rat)
 |0,_,_=>none
 |k+1,x16,x22=>bif(decide (x22<(v5.length:Int))) then((bL v5 x22).bind fun v32=>(bL a3 v32.row).bind fun v34=>(bL v5 x22).bind fun v37=>bif(v37.kind==0) then((jT K v34.j v3).bind fun v40=>(qR x16 [v40]).bind fun x42=>(aT (x22+1)).bind fun v49=>eR K a3 a4 v3 v5 k x42 v49) else(bif(v37.kind==1) then((jT K v34.t v3).bind fun v54=>(aT (x22+2)).bind fun v56=>(bL a4 v56).bind fun v58=>(aAJ v54 v58).bind fun v60=>(qR x16 [v60]).bind fun x62=>(aT (x22+1)).bind fun v69=>eR K a3 a4 v3 v5 k x62 v69) else(bif(v37.kind==2) then((aT (x22+1)).bind fun v74=>(bL a4 v74).bind fun v76=>(jT K v34.t v3).bind fun v78=>(aEl v76 v78).bind fun v80=>(qR x16 [v80]).bind fun x82=>(aT (x22+1)).bind fun v89=>eR K a3 a4 v3 v5 k x82 v89) else((aT (x22-3)).bind fun v93=>(bL a4 v93).bind fun v95=>(zR v34.mu v95).bind fun v97=>(aT (x22-2)).bind fun v99=>(bL a4 v99).bind fun v101=>(aT (x22-1)).bind fun v103=>(bL a4 v103).bind fun v105=>(aAJ v101 v105).bind fun v107=>(aEl v97 v107).bind fun v109=>(qR x16 [v109]).bind fun x111=>(aT (x22+1)).bind fun v118=>eR K a3 a4 v3 v5 k x111 v118)))) else(some x16)
def oH (K:Nat) (a0:List aD) (a1:List Rat) (a2:List Rat) (a3:List aA) (a4:List Rat):Option (List Rat):=
 (rQ K a2 a3 a4).bind fun v1=>(lV K a0 a1 a3 v1).bind fun v3=>(kA K a2 a3).bind fun v5=>(eR K a3 a4 v3 v5 K ([]:List Rat) 0).bind fun x23=>wG K x23
def w4 (a0:List (List Rat)):Option Int:=
 bif((a0.length:Int)==0) then(some 0) else((bL a0 0).bind fun v2=>some (v2.length:Int))
def yI (K:Nat) (x17:List (List Rat)):Option (List (List Rat)):=
 some x17
def yF (K:Nat) (x10:List (List Rat)) (x16:Int) (recl23:(List (List Rat))→Int→Option (List (List Rat))) (x44:List Rat):Option (List (List Rat)):=
 (qR x10 [x44]).bind fun x52=>(aT (x16+1)).bind fun v59=>recl23 x52 v59
def mE (K:Nat) (a0:List (List Rat)) (x16:Int):Nat→(List Rat)→Int→Option (List Rat)
 |0,_,_=>none
 |k+1,x37,x43=>bif(decide (x43<(a0.length:Int))) then((bL a0 x43).bind fun v62=>(bL v62 x16).bind fun v64=>(qR x37 [v64]).bind fun x66=>(aT (x43+1)).bind fun v73=>mE K a0 x16 k x66 v73) else(some x37)
def mC (K:Nat) (a0:List (List Rat)):Nat→(List (List Rat))→Int→Option (List (List Rat))
 |0,_,_=>none
 |k+1,x10,x16=>(w4 a0).bind fun v25=>bif(decide (x16<v25)) then((mE K a0 x16 K ([]:List Rat) 0).bind fun x44=>yF K x10 x16 (mC K a0 k) x44) else(some x10)
def w8 (K:Nat) (a0:List (List Rat)):Option (List (List Rat)):=
 (mC K a0 K ([]:List (List Rat)) 0).bind fun x17=>yI K x17
def vL (K:Nat) (v11:List Rat) (x29:List (List Rat)):Option ((List (List Rat))×(List Rat)):=
 (w8 K x29).bind fun v37=>some (v37,v11)
def vM (K:Nat) (x22:List (List Rat)) (x28:Int) (recl35:(List (List Rat))→Int→Option (List (List Rat))) (x70:List Rat):Option (List (List Rat)):=
 (qR x22 [x70]).bind fun x78=>(aT (x28+1)).bind fun v85=>recl35 x78 v85
def kH (K:Nat) (v4:List aY) (v11:List Rat) (v52:List Rat):Nat→(List Rat)→Int→Option (List Rat)
 |0,_,_=>none
 |k+1,x63,x69=>bif(decide (x69<(v4.length:Int))) then((bL v52 x69).bind fun v90=>(bL v11 x69).bind fun v92=>(aEl v90 v92).bind fun v94=>(qR x63 [v94]).bind fun x96=>(aT (x69+1)).bind fun v103=>kH K v4 v11 v52 k x96 v103) else(some x63)
def kM (K:Nat) (a0:List aD) (a1:List Rat) (a2:List Rat) (a3:List aA) (v4:List aY) (v11:List Rat):Nat→(List (List Rat))→Int→Option (List (List Rat))
 |0,_,_=>none
 |k+1,x22,x28=>bif(decide (x28<(v4.length:Int))) then((yJ (v4.length:Int) 0).bind fun x40=>(qof 1 1).bind fun v45=>(bL x40 x28).bind fun v47=>(oO x40 x28 v45).bind fun x49=>(oH K a0 a1 a2 a3 x49).bind fun v52=>(kH K v4 v11 v52 K ([]:List Rat) 0).bind fun x70=>vM K x22 x28 (kM K a0 a1 a2 a3 v4 v11 k) x70) else(some x22)
def t0 (K:Nat) (a0:List aD) (a1:List Rat) (a2:List Rat) (a3:List aA):Option ((List (List Rat))×(List Rat)):=
 (uC K a0 a1 a2 a3).bind fun v1=>bif(!v1) then(some ([],[])) else((kA K a2 a3).bind fun v4=>(yJ (v4.length:Int) 0).bind fun x6=>(oH K a0 a1 a2 a3 x6).bind fun v11=>(kM K a0 a1 a2 a3 v4 v11 K ([]:List (List Rat)) 0).bind fun x29=>vL K v11 x29)
def yR (K:Nat):Option Bool:=
 some true
def nM (K:Nat) (a0:List Rat):Nat→Int→Option (LR Bool Unit)
 |0,_=>none
 |k+1,x2=>bif(decide (x2<(a0.length:Int))) then((bL a0 x2).bind fun v6=>(aEI v6).bind fun v8=>bif(!v8) then(some (.ret false)) else((aT (x2+1)).bind fun v11=>nM K a0 k v11)) else(some (.go ()))
def s7 (K:Nat) (a0:List Rat):Option Bool:=
 (nM K a0 K 0).bind fun o=>match o with| .ret r=>some r| .go _=>yR K
def yA (K:Nat):Option Bool:=
 some true
def l9 (K:Nat) (a0:List (List Rat)) (a1:List Rat):Nat→Int→Option (LR Bool Unit)
 |0,_=>none
 |k+1,x7=>bif(decide (x7<(a0.length:Int))) then((bL a0 x7).bind fun v11=>bif((v11.length:Int) != (a1.length:Int)) then(some (.ret false)) else((bL a0 x7).bind fun v14=>(s7 K v14).bind fun v16=>bif(!v16) then(some (.ret false)) else((aT (x7+1)).bind fun v19=>l9 K a0 a1 k v19))) else(some (.go ()))
def vO (K:Nat) (a0:List (List Rat)) (a1:List Rat):Option Bool:=
 bif((a0.length:Int) != (a1.length:Int)) then(some false) else(bif(decide (32<(a1.length:Int))) then(some false) else((s7 K a1).bind fun v3=>bif(!v3) then(some false) else((l9 K a0 a1 K 0).bind fun o=>match o with| .ret r=>some r| .go _=>yA K)))
def vJ (K:Nat):Option Bool:=
 some false
def kL (K:Nat) (a0:List Rat):Nat→Int→Option (LR Bool Unit)
 |0,_=>none
 |k+1,x2=>bif(decide (x2<(a0.length:Int))) then((bL a0 x2).bind fun v6=>(zN v6).bind fun v8=>bif(decide (v8<0)) then(some (.ret true)) else((aT (x2+1)).bind fun v11=>kL K a0 k v11)) else(some (.go ()))
def tM (K:Nat) (a0:List Rat):Option Bool:=
 (kL K a0 K 0).bind fun o=>match o with| .ret r=>some r| .go _=>vJ K
def xG (K:Nat):Option Bool:=
 some false
def jJ (K:Nat) (a0:List Rat) (a1:List Rat):Nat→Int→Option (LR Bool Unit)
 |0,_=>none
 |k+1,x2=>bif(decide (x2<(a0.length:Int))) then(bif(decide (x2<(a1.length:Int))) then((bL a0 x2).bind fun v9=>(bL a1 x2).bind fun v11=>(aPT v9 v11).bind fun v13=>bif(v13 != 0) then(some (.ret (decide (v13<0)))) else((aT (x2+1)).bind fun v16=>jJ K a0 a1 k v16)) else(some (.go ()))) else(some (.go ()))
def oJ (K:Nat) (a0:List Rat) (a1:List Rat):Option Bool:=
 (jJ K a0 a1 K 0).bind fun o=>match o with| .ret r=>some r| .go _=>xG K
def yM (K:Nat) (x29:List Rat):Option (List Rat):=
 some x29
def nJ (K:Nat) (a0:List Rat) (a1:Int) (a2:Rat):Nat→(List Rat)→Int→Option (List Rat)
 |0,_,_=>none
 |k+1,x22,x28=>bif(decide (x28<a1)) then((bL a0 x28).bind fun v40=>(aFz v40 a2).bind fun v42=>(qR x22 [v42]).bind fun x44=>(aT (x28+1)).bind fun v51=>nJ K a0 a1 a2 k x44 v51) else(some x22)
def oX (K:Nat) (a0:List Rat) (a1:Int) (a2:Rat):Option (List Rat):=
 (aT (2*a1)).bind fun v4=>(aT (v4+1)).bind fun v6=>(bL a0 v6).bind fun v8=>(aFz v8 a2).bind fun v10=>(nJ K a0 a1 a2 K [v10] 0).bind fun x29=>yM K x29
def xF (K:Nat) (x41:List (List Rat)):Option (List (List Rat)):=
 some x41
def xH (K:Nat) (x34:List (List Rat)) (x40:Int) (recl47:(List (List Rat))→Int→Option (List (List Rat))) (x76:List Rat):Option (List (List Rat)):=
 (qR x34 [x76]).bind fun x84=>(aT (x40+1)).bind fun v91=>recl47 x84 v91
def lR (K:Nat) (a0:List (List Rat)) (a2:Int) (x17:List Rat) (x40:Int):Nat→(List Rat)→Int→Option (List Rat)
 |0,_,_=>none
 |k+1,x69,x75=>bif(decide (x75<(x17.length:Int))) then((bL a0 x40).bind fun v96=>(bL v96 x75).bind fun v98=>(bL a0 x40).bind fun v100=>(bL v100 a2).bind fun v102=>(bL x17 x75).bind fun v104=>(zR v102 v104).bind fun v106=>(aEl v98 v106).bind fun v108=>(qR x69 [v108]).bind fun x110=>(aT (x75+1)).bind fun v117=>lR K a0 a2 x17 x40 k x110 v117) else(some x69)
def gW (K:Nat) (a0:List (List Rat)) (a1:Int) (a2:Int) (x17:List Rat):Nat→(List (List Rat))→Int→Option (List (List Rat))
 |0,_,_=>none
 |k+1,x34,x40=>bif(decide (x40<(a0.length:Int))) then(bif(x40==a1) then((qR x34 [x17]).bind fun x51=>(aT (x40+1)).bind fun v58=>gW K a0 a1 a2 x17 k x51 v58) else((lR K a0 a2 x17 x40 K ([]:List Rat) 0).bind fun x76=>xH K x34 x40 (gW K a0 a1 a2 x17 k) x76)) else(some x34)
def xB (K:Nat) (a0:List (List Rat)) (a1:Int) (a2:Int) (x17:List Rat):Option (List (List Rat)):=
 (gW K a0 a1 a2 x17 K ([]:List (List Rat)) 0).bind fun x41=>xF K x41
def lL (K:Nat) (a0:List (List Rat)) (a1:Int) (a2:Int):Nat→(List Rat)→Int→Option (List Rat)
 |0,_,_=>none
 |k+1,x10,x16=>(bL a0 a1).bind fun v119=>bif(decide (x16<(v119.length:Int))) then((bL a0 a1).bind fun v124=>(bL v124 x16).bind fun v126=>(bL a0 a1).bind fun v128=>(bL v128 a2).bind fun v130=>(aFz v126 v130).bind fun v132=>(qR x10 [v132]).bind fun x134=>(aT (x16+1)).bind fun v141=>lL K a0 a1 a2 k x134 v141) else(some x10)
def vV (K:Nat) (a0:List (List Rat)) (a1:Int) (a2:Int):Option (List (List Rat)):=
 (lL K a0 a1 a2 K ([]:List Rat) 0).bind fun x17=>xB K a0 a1 a2 x17
end Go.Proofs.YtldhbdgfpjoamaaGreat
set_option linter.unusedVariables false
set_option maxRecDepth 100000
namespace Go.Proofs.YtldhbdgfpjoamaaGreat
def aBq (K:Nat):Option (aW×Int):=
 none
def vY (K:Nat) (v95:Int) (x155:List Rat) (x161:List Rat):Option (LR (aW×Int) Unit):=
 some (.ret ((⟨x161,x155,v95⟩:aW),0))
def f9 (K:Nat) (a1:List Rat) (v93:List (List Rat)) (x101:List Int):Nat→(List Rat)→(List Rat)→Int→Option ((List Rat)×(List Rat))
 |0,_,_,_=>none
 |k+1,x142,x148,x154=>bif(decide (x154<(a1.length:Int))) then((bL x101 x154).bind fun v170=>bif(decide (v170<(a1.length:Int))) then((bL x101 x154).bind fun v175=>(bL v93 x154).bind fun v177=>(aT (2*(a1.length:Int))).bind fun v179=>(aT (v179+1)).bind fun v181=>(bL v177 v181).bind fun v183=>(bL x142 v175).bind fun v185=>(oO x142 v175 v183).bind fun x187=>(aT (x154+1)).bind fun v190=>f9 K a1 v93 x101 k x187 x148 v190) else((bL x101 x154).bind fun v194=>(aT (v194-(a1.length:Int))).bind fun v196=>(bL v93 x154).bind fun v198=>(aT (2*(a1.length:Int))).bind fun v200=>(aT (v200+1)).bind fun v202=>(bL v198 v202).bind fun v204=>(bL x148 v196).bind fun v206=>(oO x148 v196 v204).bind fun x208=>(aT (x154+1)).bind fun v211=>f9 K a1 v93 x101 k x142 x208 v211)) else(some (x142,x148))
def wD (K:Nat) (v93:List (List Rat)) (v95:Int) (x101:List Int) (v217:Int) (recl90:(List Int)→(List (List Rat))→Int→Int→Int→Option (LR (aW×Int) Unit)) (x223:Int):Option (LR (aW×Int) Unit):=
 bif(decide (x223<0)) then(some (.ret ((⟨([]:List Rat),([]:List Rat),0⟩:aW),15))) else(recl90 x101 v93 x223 v217 v95)
def eP (K:Nat) (a1:List Rat) (v93:List (List Rat)) (v217:Int):Nat→Int→Int→Option Int
 |0,_,_=>none
 |k+1,x221,x222=>bif(decide (x222<(a1.length:Int))) then((bL v93 x222).bind fun v228=>(bL v228 v217).bind fun v230=>(zN v230).bind fun v232=>bif(decide (v232≤0)) then((aT (x222+1)).bind fun v235=>eP K a1 v93 v217 k x221 v235) else(bif(decide (x221<0)) then((aT (x222+1)).bind fun v240=>eP K a1 v93 v217 k x222 v240) else((bL v93 x222).bind fun v242=>(bL v93 x222).bind fun v244=>(bL v244 v217).bind fun v246=>(oX K v242 (a1.length:Int) v246).bind fun v248=>(bL v93 x221).bind fun v250=>(bL v93 x221).bind fun v252=>(bL v252 v217).bind fun v254=>(oX K v250 (a1.length:Int) v254).bind fun v256=>(oJ K v248 v256).bind fun v258=>bif v258 then((aT (x222+1)).bind fun v261=>eP K a1 v93 v217 k x222 v261) else((aT (x222+1)).bind fun v263=>eP K a1 v93 v217 k x221 v263)))) else(some x221)
def lP (K:Nat) (a1:List Rat) (a2:Int):Nat→(List Int)→(List (List Rat))→Int→Int→Int→Option (LR (aW×Int) Unit)
 |0,_,_,_,_,_=>none
 |k+1,x80,x86,x87,x88,x89=>bif(x89==a2) then(some (.ret ((⟨([]:List Rat),([]:List Rat),0⟩:aW),16))) else((vV K x86 x87 x88).bind fun v93=>(aT (x89+1)).bind fun v95=>(bL x80 x87).bind fun v97=>(bL x80 x87).bind fun v99=>(oO x80 x87 x88).bind fun x101=>(aT (2*(a1.length:Int))).bind fun v104=>bif(v97==v104) then((yJ (a1.length:Int) 0).bind fun x109=>(yJ (a1.length:Int) 0).bind fun x113=>(f9 K a1 v93 x101 K x113 x109 0).bind fun(x155,x161)=>vY K v95 x155 x161) else((aT (v97+(a1.length:Int))).bind fun v213=>(aT (2*(a1.length:Int))).bind fun v215=>(yK v213 v215).bind fun v217=>(eP K a1 v93 v217 K (-1) 0).bind fun x223=>wD K v93 v95 x101 v217 (lP K a1 a2 k) x223))
def xA (K:Nat) (a1:List Rat) (a2:Int) (x47:List Int) (x53:List (List Rat)) (x65:Int):Option (aW×Int):=
 (aT (2*(a1.length:Int))).bind fun v68=>(lP K a1 a2 K x47 x53 x65 v68 0).bind fun o=>match o with| .ret r=>some r| .go _=>aBq K
def jH (K:Nat) (a1:List Rat) (v14:Rat) (x53:List (List Rat)):Nat→Int→Int→Option Int
 |0,_,_=>none
 |k+1,x63,x64=>bif(decide (x64<(a1.length:Int))) then((bL x53 x64).bind fun v268=>(oX K v268 (a1.length:Int) v14).bind fun v270=>(bL x53 x63).bind fun v272=>(oX K v272 (a1.length:Int) v14).bind fun v274=>(oJ K v270 v274).bind fun v276=>bif v276 then((aT (x64+1)).bind fun v279=>jH K a1 v14 x53 k x64 v279) else((aT (x64+1)).bind fun v281=>jH K a1 v14 x53 k x63 v281)) else(some x63)
def xI (K:Nat) (a1:List Rat) (a2:Int) (v14:Rat) (x47:List Int) (x53:List (List Rat)):Option (aW×Int):=
 (jH K a1 v14 x53 K 0 1).bind fun x65=>xA K a1 a2 x47 x53 x65
def wN (K:Nat) (a1:List Rat) (x34:List Int) (x40:List (List Rat)) (x46:Int) (recl59:(List Int)→(List (List Rat))→Int→Option ((List Int)×(List (List Rat)))) (x312:List Rat):Option ((List Int)×(List (List Rat))):=
 (aT (2*(a1.length:Int))).bind fun v320=>(qof (-1) 1).bind fun v322=>(bL x312 v320).bind fun v324=>(oO x312 v320 v322).bind fun x326=>(aT (2*(a1.length:Int))).bind fun v329=>(aT (v329+1)).bind fun v331=>(bL a1 x46).bind fun v333=>(bL x326 v331).bind fun v335=>(oO x326 v331 v333).bind fun x337=>(qR x40 [x337]).bind fun x340=>(qR x34 [x46]).bind fun x347=>(aT (x46+1)).bind fun v354=>recl59 x347 x340 v354
def k7 (K:Nat) (a0:List (List Rat)) (a1:List Rat) (x46:Int):Nat→(List Rat)→Int→Option (List Rat)
 |0,_,_=>none
 |k+1,x305,x311=>bif(decide (x311<(a1.length:Int))) then((aT ((a1.length:Int)+x311)).bind fun v357=>(bL a0 x46).bind fun v359=>(bL v359 x311).bind fun v361=>(aEz v361).bind fun v363=>(bL x305 v357).bind fun v365=>(oO x305 v357 v363).bind fun x367=>(aT (x311+1)).bind fun v370=>k7 K a0 a1 x46 k x367 v370) else(some x305)
def lQ (K:Nat) (a0:List (List Rat)) (a1:List Rat) (v14:Rat):Nat→(List Int)→(List (List Rat))→Int→Option ((List Int)×(List (List Rat)))
 |0,_,_,_=>none
 |k+1,x34,x40,x46=>bif(decide (x46<(a1.length:Int))) then((aT (2*(a1.length:Int))).bind fun v284=>(aT (v284+2)).bind fun v286=>(yJ v286 0).bind fun x288=>(bL x288 x46).bind fun v293=>(oO x288 x46 v14).bind fun x295=>(k7 K a0 a1 x46 K x295 0).bind fun x312=>wN K a1 x34 x40 x46 (lQ K a0 a1 v14 k) x312) else(some (x34,x40))
def sK (K:Nat) (a0:List (List Rat)) (a1:List Rat) (a2:Int):Option (aW×Int):=
 (vO K a0 a1).bind fun v2=>bif(!v2) then(some ((⟨([]:List Rat),([]:List Rat),0⟩:aW),1)) else(bif(decide (a2<0)) then(some ((⟨([]:List Rat),([]:List Rat),0⟩:aW),1)) else((tM K a1).bind fun v6=>bif(!v6) then((yJ (a1.length:Int) 0).bind fun x9=>some ((⟨x9,a1,0⟩:aW),0)) else((qof 1 1).bind fun v14=>(lQ K a0 a1 v14 K ([]:List Int) ([]:List (List Rat)) 0).bind fun(x47,x53)=>xI K a1 a2 v14 x47 x53)))
def vS (K:Nat) (a0:List aD) (a1:List Rat) (a2:List Rat) (a3:List aA):Option ((List Rat)×(List aI)×Int):=
 (uC K a0 a1 a2 a3).bind fun v1=>bif(!v1) then(some ([],[],1)) else((kA K a2 a3).bind fun v4=>bif(decide (32<(v4.length:Int))) then(some ([],[],4)) else((t0 K a0 a1 a2 a3).bind fun v7=>(sK K v7.1 v7.2 4096).bind fun v9=>bif(v9.2 != 0) then(some ([],[],v9.2)) else((rQ K a2 a3 v9.1.z).bind fun v13=>(lV K a0 a1 a3 v13).bind fun v15=>some (v15,v13,0))))
end Go.Proofs.YtldhbdgfpjoamaaGreat
set_option linter.unusedVariables false
set_option maxRecDepth 100000
namespace Go.Proofs.YtldhbdgfpjoamaaGreat
end Go.Proofs.YtldhbdgfpjoamaaGreat
set_option linter.unusedVariables false
namespace Go.Proofs.YtldhbdgfpjoamaaGreat
theorem aHV {x m:Int} (hx:-9223372036854775808≤x∧x≤9223372036854775807) (hm:0<m):∃r,lT x m=some r∧0≤r∧r<m:=by
 unfold lT
 by_cases h:x<0
 ·refine⟨(-(x+1))%m,?_,Int.emod_nonneg _ (by omega),Int.emod_lt_of_pos _ hm⟩
  rw [dT h,cA,k5 (by omega),oB,k5 (by omega),oB,mT (by omega) hm,oB]
 ·refine⟨x%m,?_,Int.emod_nonneg _ (by omega),Int.emod_lt_of_pos _ hm⟩
  rw [dF h,bU,mT (by omega) hm,oB]
theorem aCd {l:List Int} (hl:aFw l) (i:Int) {m:Int} (hm:0<m):∃r,bE l i m=some r∧0≤r∧r<m:=by
 unfold bE
 by_cases h:i<0
 ·exact⟨0,by rw [dT h,cA],by omega,hm⟩
 ·rw [dF h,bU]
  by_cases h2:(l.length:Int)≤i
  ·exact⟨0,by rw [dT h2,cA],by omega,hm⟩
  ·rw [dF h2,bU]
   obtain⟨n,rfl⟩:∃n:Nat,i=n:=⟨i.toNat,by omega⟩
   obtain⟨x,hx,_,hr⟩:=rdM (xs:=l) (i:=n) (by omega)
   obtain⟨r,h3,h4,h5⟩:=aHV (hl x hx) hm
   exact⟨r,by rw [hr,oB,h3,oB],h4,h5⟩
theorem aCs {a m:Int} (h:0≤a) (hm:0<m):0≤a%m∧a%m<m:=⟨Int.emod_nonneg _ (by omega),Int.emod_lt_of_pos _ hm⟩
theorem aJ5 {x:Int} (hx:-9223372036854775808≤x∧x≤9223372036854775807):∃r,gI x=some r∧Bd 8 r:=by
 unfold gI
 obtain⟨k,h1,h2,h3⟩:=aHV hx (m:=1099511627776) (by omega)
 have m6:=aCs h2 (show(0:Int)<6 by omega)
 rw [h1,oB,mT h2 (by omega),oB,k5 (by omega),oB,tF h2 (by omega) (by omega),oB,k5 (by omega),oB,k5 (by omega),oB]
 have m7:=aCs (a:=k/6) (m:=16*(1+k%6)+1) (by omega) (by omega)
 rw [mT (by omega) (by omega),oB,k5 (by omega),oB,k5 (by omega),oB]
 obtain⟨r,h4,h5,h6⟩:=aDy (k:=8) (p:=k/6%(16*(1+k%6)+1)-8*(1+k%6)) (q:=1+k%6) (by omega) (by omega) (by omega) (by omega)
 exact⟨r,by rw [h4,oB],h6⟩
def sV (k:Nat) (xs:List Rat):Prop:=∀x∈xs,Bd k x
theorem sV.snoc {k:Nat} {xs:List Rat} {x:Rat} (h:sV k xs) (hx:Bd k x):sV k (xs++[x]):=fun y hy=>by
 rcases List.mem_append.1 hy with h1|h1
 ·exact h y h1
 ·rw [List.mem_singleton.1 h1];exact hx
theorem apS {α:Type} {xs:List α} {x:α} (h:xs.length≤60000000000):qR xs [x]=some (xs++[x]):=aCq (by simp;omega)
theorem aTn {p q:Int} (hp:p≠0) (hq:q≠0):(p:Rat)/q≠0:=by
 rw [←Rat.divInt_eq_div]
 intro h
 have:=congrArg Rat.num h
 rw [Rat.num_divInt] at this
 have e:(0:Rat).num=0:=rfl
 rw [e] at this
 obtain⟨c,hc⟩:=Int.gcd_dvd_right (a:=q) (b:=p)
 have hg:0<Int.gcd q p:=Int.gcd_pos_of_ne_zero_left p hq
 have h2:q.sign*p/((Int.gcd q p:Nat):Int)=q.sign*c:=by
  conv=>lhs;rw [hc]
  rw [←Int.mul_assoc,Int.mul_comm q.sign,Int.mul_assoc]
  have:((q.gcd (((q.gcd p:Nat):Int)*c):Nat):Int)=((q.gcd p:Nat):Int):=by rw [←hc]
  rw [this]
  exact Int.mul_ediv_cancel_left _ (by omega)
 rw [h2] at this
 rcases Int.mul_eq_zero.1 this with h3|h3
 ·exact hq (Int.sign_eq_zero_iff_zero.1 h3)
 ·subst h3;rw [Int.mul_zero] at hc;exact hp hc
theorem rdD {α:Type} {xs:List α} {i:Nat} (d:α) (h:i<xs.length):bL xs (i:Int)=some (xs.getD i d):=by
 rw [rdG (x:=xs.getD i d)]
 simp [List.getD_eq_getElem?_getD,h]
def kP (l:List Rat) (i:Nat):Rat:=l.getD i 0
theorem aCJ {l:List Rat} {i:Nat} (h:i<l.length):bL l (i:Int)=some (kP l i):=rdD _ h
theorem jV {l:List Rat} {i:Nat} (h:i<l.length):kP l i∈l:=by
 have:kP l i=l[i]:=by unfold kP;simp [List.getD_eq_getElem?_getD,h]
 rw [this];exact List.getElem_mem h
theorem aTl:((2:Int):Rat)/((1:Int):Rat)=2:=by decide+kernel
theorem aTg:((1:Int):Rat)/((1:Int):Rat)=1:=by decide+kernel
theorem aQh:((1:Int):Rat)/((2:Int):Rat)=1/2:=by decide+kernel
theorem Bd2:Bd 2 2:=by constructor<;>decide
theorem BdH:Bd 2 (1/2:Rat):=by constructor<;>decide+kernel
theorem aUf:qof 2 1=some 2:=by rw [aGa (by omega) (by omega),aTl]
theorem aT3:qof 1 2=some (1/2):=by rw [aGa (by omega) (by omega),aQh]
def mp {α:Type} (g:Nat→α) (n:Nat):List α:=(List.range n).map g
theorem zG {α:Type} (g:Nat→α):mp g 0=[]:=rfl
theorem aFB {α:Type} (g:Nat→α) (n:Nat):mp g (n+1)=mp g n++[g n]:=by unfold mp;rw [List.range_succ,List.map_append];rfl
theorem bO {α:Type} (g:Nat→α) (n:Nat):(mp g n).length=n:=by simp [mp]
theorem aBh {α:Type} {g:Nat→α} {n i:Nat} (h:i<n):(mp g n)[i]?=some (g i):=by simp [mp,h]
theorem zM {g:Nat→Rat} {n i:Nat} (h:i<n):kP (mp g n) i=g i:=by
 unfold kP mp
 simp [List.getD_eq_getElem?_getD,h]
theorem z7 {g:Nat→Rat} {n k:Nat} (h:∀i,i<n→Bd k (g i)):sV k (mp g n):=fun x hx=>by
 obtain⟨i,hi,rfl⟩:=List.mem_map.1 hx
 exact h i (List.mem_range.1 hi)
theorem apM {α:Type} {g:Nat→α} {i:Nat} (h:i≤1000000):qR (mp g i) [g i]=some (mp g (i+1)):=by rw [aFB];exact apS (by rw [bO];omega)
theorem cJ {α:Type} {f g:Nat→α} {n:Nat} (h:∀i,i<n→f i=g i):mp f n=mp g n:=by
 unfold mp
 exact List.map_congr_left fun i hi=>h i (List.mem_range.1 hi)
def iD {α:Type} (f:Nat→α) (i:Nat) (v:α) (j:Nat):α:=if j=i then v else f j
theorem bA {α:Type} {f:Nat→α} {i:Nat} {v:α}:iD f i v i=v:=if_pos rfl
theorem cG {α:Type} {f:Nat→α} {i j:Nat} {v:α} (h:j≠i):iD f i v j=f j:=if_neg h
theorem aOg {α:Type} {f:Nat→α} {n i:Nat} {v:α}:(mp f n).set i v=mp (iD f i v) n:=by
 apply List.ext_getElem?
 intro j
 by_cases hj:j<n
 ·rw [List.getElem?_set,aBh hj,bO,aBh hj]
  by_cases he:i=j
  ·subst he;rw [if_pos rfl,if_pos hj,bA]
  ·rw [if_neg he,cG (by omega)]
 ·rw [List.getElem?_eq_none (by simp [mp];omega),List.getElem?_eq_none (by simp [mp];omega)]
theorem eD {α:Type} {f:Nat→α} {n i:Nat} (h:i<n):bL (mp f n) (i:Int)=some (f i):=rdG (aBh h)
theorem t8 {α:Type} {f:Nat→α} {n i:Nat} {v:α} (h:i<n):oO (mp f n) (i:Int) v=some (mp (iD f i v) n):=by
 rw [stG (by rw [bO];exact h),aOg]
theorem aNQ {α:Type} (z:α):∀n,List.replicate n z=mp (fun _=>z) n
 |0=>rfl
 |n+1=>by rw [aFB,←aNQ z n,List.replicate_succ']
theorem aDi {α:Type} {n:Nat} {z:α} (h:n≤68719476736):yJ (n:Int) z=some (mp (fun _=>z) n):=by rw [aBV h,aNQ]
theorem aK0 (l:List Rat):l=mp (kP l) l.length:=by
 apply List.ext_getElem?
 intro j
 by_cases hj:j<l.length
 ·rw [aBh hj];simp [kP,hj]
 ·rw [List.getElem?_eq_none (by omega),List.getElem?_eq_none (by simp [mp];omega)]
theorem oC {i:Nat} (h:i≤1000000000):aT ((i:Int)+1)=some ((i+1:Nat):Int):=ckN (m:=0) (n:=i+1) (by omega) (by omega)
theorem aEP {a:Rat}:a.num.sign=0↔a=0:=by rw [Int.sign_eq_zero_iff_zero,Rat.num_eq_zero]
def sm (f:Nat→Rat):Nat→Rat
 |0=>0
 |n+1=>sm f n+f n
end Go.Proofs.YtldhbdgfpjoamaaGreat
set_option linter.unusedVariables false
namespace Go.Proofs.YtldhbdgfpjoamaaGreat
/-- A degree of freedom with small numbers. -/
def aOS (d:aD):Prop:=Bd 8 d.inv∧d.inv≠0∧Bd 8 d.load
structure aEi (c:Nat) (a:aP) (n:Nat) (f:Nat→Rat):Prop where
 hn:a.n=n
 hof:∀i,i<n→a.of (i:Int)=some (f i)
 hbd:∀i,i<n→Bd c (f i)
theorem aLC {c n:Nat} {a:aP} {f:Nat→Rat} (h:aEi c a n f) {b0:Nat} (hB:b0+n*(c+1)≤1073741824) (hn:n≤1000000) {a0:Rat}:∀(t i:Nat) (acc:Rat),i+t=n→acc=a0+sm f i→Bd (b0+i*(c+1)) acc→
  Bd (b0+n*(c+1)) (a0+sm f n)∧∀K k,t<k→nX K a k acc (i:Int)=some (a0+sm f n)
 |0,i,acc,hi,he,hb=>by
  have:i=n:=by omega
  subst this
  refine⟨he▸hb,fun K k hk=>?_⟩
  obtain⟨k',rfl,_⟩:=bD hk
  simp only [nX,h.hn,dF (show¬(i:Int)<(i:Int) by omega),bU,he]
 |t+1,i,acc,hi,he,hb=>by
  have hfi:=h.hbd i (by omega)
  have hmul:i*(c+1)+(c+1)≤n*(c+1):=by
   have:=Nat.mul_le_mul_right (c+1) (show i+1≤n by omega)
   rw [Nat.add_mul,Nat.one_mul] at this;exact this
  obtain⟨g1,g2⟩:=aLC h hB hn t (i+1) (acc+f i) (by omega) (by rw [he];simp only [sm];rw [Rat.add_assoc]) ((hb.add hfi).mono (by rw [Nat.add_mul];omega))
  refine⟨g1,fun K k hk=>?_⟩
  obtain⟨k',rfl,_⟩:=bD hk
  simp only [nX,h.hn,dT (show(i:Int)<(n:Int) by omega),cA,h.hof i (by omega),s6 hb hfi (by omega) (by omega),ckN (m:=0) (n:=i+1) (show(i:Int)+1=((i+1:Nat):Int) by omega) (by omega),oB]
  exact g2 K k' (by omega)
def aDJ (c N:Nat):List aP→List (Nat×(Nat→Rat))→Prop
 |[],[]=>True
 |a::l,f::r=>aEi c a f.1 f.2∧f.1≤N∧aDJ c N l r
 |_,_=>False
def tot:Rat→List (Nat×(Nat→Rat))→Rat
 |a,[]=>a
 |a,f::r=>tot (a+sm f.2 f.1) r
theorem aDJ.len {c N:Nat}:∀{l:List aP} {fs:List (Nat×(Nat→Rat))},aDJ c N l fs→l.length=fs.length
 |[],[],_=>rfl
 |_::_,_::_,h=>by simp [h.2.2.len]
 |[],_::_,h=>h.elim
 |_::_,[],h=>h.elim
theorem aDJ.get {c N:Nat}:∀{l:List aP} {fs:List (Nat×(Nat→Rat))} {i:Nat} {f:Nat×(Nat→Rat)},aDJ c N l fs→fs[i]?=some f→∃a,l[i]?=some a∧aEi c a f.1 f.2∧f.1≤N
 |[],[],i,f,_,hf=>by simp at hf
 |a::_,g::_,0,f,h,hf=>by simp at hf;subst hf;exact⟨a,rfl,h.1,h.2.1⟩
 |_::_,_::_,i+1,f,h,hf=>by
  obtain⟨a,h1,h2⟩:=h.2.2.get (i:=i) (by simpa using hf)
  exact⟨a,by simpa using h1,h2⟩
 |[],_::_,_,_,h,_=>h.elim
 |_::_,[],_,_,h,_=>h.elim
theorem aN3 {c N:Nat} {l:List aP} {fs:List (Nat×(Nat→Rat))} (h:aDJ c N l fs) (hN:N≤1000000) (hl:l.length≤1000000) {b0:Nat} (hB:b0+l.length*(N*(c+1))≤1073741824):∀(t i:Nat) (acc:Rat),i+t=l.length→Bd (b0+i*(N*(c+1))) acc→
  Bd (b0+l.length*(N*(c+1))) (tot acc (fs.drop i))∧∀K k,t<k→N+1<K→mS K l k acc (i:Int)=some (tot acc (fs.drop i))
 |0,i,acc,hi,hb=>by
  have:i=l.length:=by omega
  subst this
  rw [List.drop_of_length_le (by rw [h.len];exact Nat.le_refl _)]
  refine⟨hb,fun K k hk _=>?_⟩
  obtain⟨k',rfl,_⟩:=bD hk
  simp only [mS,dF (show¬(l.length:Int)<(l.length:Int) by omega),bU,tot]
 |t+1,i,acc,hi,hb=>by
  have hif:i<fs.length:=by rw [←h.len];omega
  obtain⟨a,h1,h2,h3⟩:=h.get (i:=i) (f:=fs[i]) (List.getElem?_eq_getElem hif)
  have hmul:i*(N*(c+1))+N*(c+1)≤l.length*(N*(c+1)):=by
   have:=Nat.mul_le_mul_right (N*(c+1)) (show i+1≤l.length by omega)
   rw [Nat.add_mul i 1,Nat.one_mul] at this;exact this
  have hmul2:fs[i].1*(c+1)≤N*(c+1):=Nat.mul_le_mul_right _ h3
  obtain⟨g1,g2⟩:=aLC h2 (b0:=b0+i*(N*(c+1))) (by omega) (by omega) (a0:=acc) fs[i].1 0 acc (by omega) (by simp only [sm];rw [Rat.add_zero]) (hb.mono (by omega))
  obtain⟨k1,k2⟩:=aN3 h hN hl hB t (i+1) (acc+sm fs[i].2 fs[i].1) (by omega) (g1.mono (by rw [Nat.add_mul];omega))
  have hdrop:fs.drop i=fs[i]::fs.drop (i+1):=List.drop_eq_getElem_cons hif
  rw [hdrop]
  refine⟨k1,fun K k hk hK=>?_⟩
  obtain⟨k',rfl,_⟩:=bD hk
  have g2':=g2 K K (by omega)
  simp only [Int.natCast_zero] at g2'
  simp only [mS,dT (show(i:Int)<(l.length:Int) by omega),cA,rdG h1,g2',vH,ckN (m:=0) (n:=i+1) (show(i:Int)+1=((i+1:Nat):Int) by omega) (by omega),oB]
  exact k2 K k' (by omega) (by omega)
theorem aPo {c N:Nat} {l:List aP} {fs:List (Nat×(Nat→Rat))} (h:aDJ c N l fs) (hN:N≤1000000) (hl:l.length≤1000000) (hB:1+l.length*(N*(c+1))≤1073741824):Bd (1+l.length*(N*(c+1))) (tot 0 fs)∧Ev (fun K=>pX K l) (tot 0 fs):=by
 obtain⟨g1,g2⟩:=aN3 h hN hl hB l.length 0 0 (by omega) (Bd.zero.mono (by omega))
 refine⟨g1,⟨max l.length (N+1)+1,fun K hK=>?_⟩⟩
 have:=g2 K K (by omega) (by omega)
 simp only [Int.natCast_zero,List.drop_zero] at this
 simp only [pX,this,oB,wS]
def dof (d:List aD) (i:Nat):aD:=d.getD i ⟨0,0,false,0,0⟩
theorem aRJ {d:List aD} {i:Nat} (h:i<d.length):bL d (i:Int)=some (dof d i):=rdD _ h
theorem aD9 {d:List aD} {i:Nat} (h:i<d.length):dof d i∈d:=by
 have:dof d i=d[i]:=by unfold dof;simp [List.getD_eq_getElem?_getD,h]
 rw [this];exact List.getElem_mem h
def aG6 (d:List aD):Prop:=∀x∈d,aOS x
theorem aEi.mono {c c' n:Nat} {a:aP} {f:Nat→Rat} (h:aEi c a n f) (hc:c≤c'):aEi c' a n f:=⟨h.hn,h.hof,fun i hi=>(h.hbd i hi).mono hc⟩
set_option maxRecDepth 100000 in
theorem aQf (K:Nat):kQ (K+40)=some true:=by kernel_rfl
theorem aD0:Ev (fun K=>kQ K) true:=⟨40,fun K hK=>by
 obtain⟨k,rfl⟩:=Nat.exists_eq_add_of_le hK
 rw [Nat.add_comm];exact aQf k⟩
end Go.Proofs.YtldhbdgfpjoamaaGreat
set_option linter.unusedVariables false
namespace Go.Proofs.YtldhbdgfpjoamaaGreat
theorem aCD {l:List Int} (hl:aFw l) (at0:Int) (h0:0≤at0∧at0≤1000000000) (n:Nat) (hn:n≤1000000000) (K:Nat):∀(t i:Nat) (out:List Rat),i+t=n→out.length=i→sV 8 out→∃r,r.length=n∧sV 8 r∧∀k,t<k→cV K l at0 (n:Int) k out (i:Int)=some r
 |0,i,out,hi,ho,hb=>by
  refine⟨out,by omega,hb,fun k hk=>?_⟩
  obtain⟨k',rfl,_⟩:=bD hk
  simp only [cV,dF (show¬(i:Int)<(n:Int) by omega),bU]
 |t+1,i,out,hi,ho,hb=>by
  obtain⟨v,v1,v2,v3⟩:=aCd hl (at0+i) (m:=1073741824) (by omega)
  obtain⟨r,r1,r2⟩:=aJ5 (x:=v) (by omega)
  obtain⟨s,s1,s2,s3⟩:=aCD hl at0 h0 n hn K t (i+1) (out++[r]) (by omega) (by simp [ho]) (hb.snoc r2)
  refine⟨s,s1,s2,fun k hk=>?_⟩
  obtain⟨k',rfl,_⟩:=bD hk
  simp only [cV,dT (show(i:Int)<(n:Int) by omega),cA,k5 (show -9223372036854775808≤at0+(i:Int)∧at0+(i:Int)≤9223372036854775807 by omega),v1,r1,apS (xs:=out) (x:=r) (by omega),ckN (m:=0) (n:=i+1) (show(i:Int)+1=((i+1:Nat):Int) by omega) (by omega),oB]
  exact s3 k' (by omega)
theorem aKQ {l:List Int} (hl:aFw l) (at0:Int) (h0:0≤at0∧at0≤1000000000) (n:Nat) (hn:n≤1000000000):∃r,r.length=n∧sV 8 r∧Ev (fun K=>nA K l at0 (n:Int)) r:=by
 obtain⟨r,h1,h2⟩:=aCD hl at0 h0 n hn 0 n 0 [] (by omega) rfl (fun x hx=>by simp at hx)
 have key:∀K,∃r,r.length=n∧sV 8 r∧∀k,n<k→cV K l at0 (n:Int) k [] 0=some r:=fun K=>aCD hl at0 h0 n hn K n 0 [] (by omega) rfl (fun x hx=>by simp at hx)
 have ind:∀K k (out:List Rat) (i:Int),cV K l at0 (n:Int) k out i=cV 0 l at0 (n:Int) k out i:=by
  intro K k
  induction k with
  |zero=>intro out i;rfl
  |succ k ih=>intro out i;simp only [cV,ih]
 refine⟨r,h1,h2.1,⟨n+1,fun K hK=>?_⟩⟩
 have:=h2.2 K (by omega)
 simp only [Int.natCast_zero] at this
 simp only [nA,ind,this,oB,mV]
structure aOZ (n:Nat) (m:kY):Prop where
 dofs:∀d∈m.dofs,aOS d
 nd:m.dofs.length≤n
 np:m.parts.length≤n
 nr:m.ropes.length≤n
 home:∀p∈m.parts,Bd 40 p.home.y
end Go.Proofs.YtldhbdgfpjoamaaGreat
set_option linter.unusedVariables false
namespace Go.Proofs.YtldhbdgfpjoamaaGreat
theorem aOZ.mono {m n:Nat} {x:kY} (h:aOZ m x) (hn:m≤n):aOZ n x:=⟨h.dofs,Nat.le_trans h.nd hn,Nat.le_trans h.np hn,Nat.le_trans h.nr hn,h.home⟩
end Go.Proofs.YtldhbdgfpjoamaaGreat
set_option linter.unusedVariables false
namespace Go.Proofs.YtldhbdgfpjoamaaGreat
def kf (d:List aD) (v:List Rat) (i:Nat):Rat:=kP v i*kP v i/(dof d i).inv
def sf (d:List aD) (q:List Rat) (i:Nat):Rat:=-(2*((dof d i).load*kP q i))
def wf (l a b:List Rat) (i:Nat):Rat:=2*(kP l i*(kP b i-kP a i))
theorem aHl {m n:Nat} {a b:Rat} (ha:Bd m a) (hb:Bd n b) (hm:m≤500000000) (hn:n≤500000000):rB a b=some (2*(a*b)):=by
 unfold rB
 rw [aUf,oB,pU ha hb (by omega) (by omega),oB,pU Bd2 (ha.mul hb) (by omega) (by omega),oB]
theorem aMm {d:List aD} {v:List Rat} {m:Nat} (hd:aG6 d) (hv:sV m v) (hl:v.length=d.length) (hm:m≤100000000):aEi (m+m+8) ⟨(d.length:Int),f7 v d⟩ d.length (kf d v):=by
 refine⟨rfl,fun i hi=>?_,fun i hi=>?_⟩
 ·have hx:=hv _ (jV (l:=v) (i:=i) (by omega))
  have hq:=hd _ (aD9 (d:=d) hi)
  show f7 v d (i:Int)=_
  unfold f7
  rw [aCJ (by omega),oB,oB,pU hx hx (by omega) (by omega),oB,aRJ hi,oB,aB5 (hx.mul hx) hq.1 (by omega) (by omega),oB]
  rfl
 ·have hx:=hv _ (jV (l:=v) (i:=i) (by omega))
  have hq:=hd _ (aD9 (d:=d) hi)
  exact(hx.mul hx).div hq.1
theorem aLY {d:List aD} {q:List Rat} {m:Nat} (hd:aG6 d) (hv:sV m q) (hl:q.length=d.length) (hm:m≤100000000):aEi (m+10) ⟨(d.length:Int),iA d q⟩ d.length (sf d q):=by
 refine⟨rfl,fun i hi=>?_,fun i hi=>?_⟩
 ·have hx:=hv _ (jV (l:=q) (i:=i) (by omega))
  have hq:=hd _ (aD9 (d:=d) hi)
  show iA d q (i:Int)=_
  unfold iA
  rw [aRJ hi,oB,aCJ (by omega),oB,aHl hq.2.2 hx (by omega) (by omega),oB,aC8 (Bd2.mul (hq.2.2.mul hx)) (by omega),oB]
  rfl
 ·have hx:=hv _ (jV (l:=q) (i:=i) (by omega))
  have hq:=hd _ (aD9 (d:=d) hi)
  exact(Bd2.mul (hq.2.2.mul hx)).neg.mono (by omega)
theorem aQZ {l:List Rat} {a b:a8} {m k:Nat} (hl:sV m l) (ha:sV k a.q) (hb:sV k b.q) (h1:a.q.length=l.length) (h2:b.q.length=l.length) (hm:m≤100000000) (hk:k≤100000000):aEi (m+k+k+3) ⟨(l.length:Int),lC l b a⟩ l.length (wf l a.q b.q):=by
 refine⟨rfl,fun i hi=>?_,fun i hi=>?_⟩
 ·have hx:=hl _ (jV (l:=l) hi)
  have hy:=ha _ (jV (l:=a.q) (i:=i) (by omega))
  have hz:=hb _ (jV (l:=b.q) (i:=i) (by omega))
  show lC l b a (i:Int)=_
  unfold lC
  rw [aCJ hi,oB,aCJ (by omega),oB,aCJ (by omega),oB,zD hz hy (by omega) (by omega),oB,aHl hx (hz.sub hy) (by omega) (by omega),oB]
  rfl
 ·have hx:=hl _ (jV (l:=l) hi)
  have hy:=ha _ (jV (l:=a.q) (i:=i) (by omega))
  have hz:=hb _ (jV (l:=b.q) (i:=i) (by omega))
  exact(Bd2.mul (hx.mul (hz.sub hy))).mono (by omega)
structure aIR (n m:Nat) (s:a8):Prop where
 q:sV m s.q
 v:sV m s.v
 ql:s.q.length=n
 vl:s.v.length=n
def aJq (d:List aD) (l:List Rat) (a b:a8):Rat:=sm (kf d a.v) d.length+sm (sf d a.q) d.length+sm (wf l a.q b.q) d.length-(sm (kf d b.v) d.length+sm (sf d b.q) d.length)
end Go.Proofs.YtldhbdgfpjoamaaGreat
set_option linter.unusedVariables false
namespace Go.Proofs.YtldhbdgfpjoamaaGreat
def gBy (v a:List Rat) (i:Nat):Rat:=kP v i+1/2*kP a i
def gV (v a:List Rat) (i:Nat):Rat:=kP v i+kP a i
theorem aFq {s:a8} {a:List Rat} {m:Nat} (hv:sV m s.v) (ha:sV m a) (hl:s.v.length=a.length) (hm:m≤100000000) (hn:a.length≤100) (K:Nat):∀(t i k:Nat),i+t=a.length→t<k→fP K s a (1/2) k (mp (gV s.v a) i) (mp (gBy s.v a) i) (i:Int)=some (mp (gV s.v a) a.length,mp (gBy s.v a) a.length)
 |0,i,k,hi,hk=>by
  have:i=a.length:=by omega
  subst this
  obtain⟨k',rfl,_⟩:=bD hk
  simp only [fP,dF (show¬(a.length:Int)<(a.length:Int) by omega),bU]
 |t+1,i,k,hi,hk=>by
  obtain⟨k',rfl,_⟩:=bD hk
  have hx:=hv _ (jV (l:=s.v) (i:=i) (by omega))
  have hy:=ha _ (jV (l:=a) (i:=i) (by omega))
  have e1:aAJ (kP s.v i) (1/2*kP a i)=some (gBy s.v a i):=s6 hx (BdH.mul hy) (by omega) (by omega)
  have e2:aAJ (kP s.v i) (kP a i)=some (gV s.v a i):=s6 hx hy (by omega) (by omega)
  simp only [fP,dT (show(i:Int)<(a.length:Int) by omega),cA,aCJ (l:=s.v) (i:=i) (by omega),aCJ (l:=a) (i:=i) (by omega),pU BdH hy (by omega) (by omega),e1,e2,apM (g:=gBy s.v a) (i:=i) (by omega),apM (g:=gV s.v a) (i:=i) (by omega),ckN (m:=0) (n:=i+1) (show(i:Int)+1=((i+1:Nat):Int) by omega) (by omega),oB]
  exact aFq hv ha hl hm hn K t (i+1) k' (by omega) (by omega)
theorem aHN {s:a8} {a:List Rat} {m:Nat} (hv:sV m s.q) (ha:sV m a) (hl:s.q.length=a.length) (hm:m≤100000000) (hn:a.length≤100) (K:Nat):∀(t i k:Nat),i+t=a.length→t<k→gK K s a k (mp (gV s.q a) i) (i:Int)=some (mp (gV s.q a) a.length)
 |0,i,k,hi,hk=>by
  have:i=a.length:=by omega
  subst this
  obtain⟨k',rfl,_⟩:=bD hk
  simp only [gK,dF (show¬(a.length:Int)<(s.q.length:Int) by omega),bU]
 |t+1,i,k,hi,hk=>by
  obtain⟨k',rfl,_⟩:=bD hk
  have hx:=hv _ (jV (l:=s.q) (i:=i) (by omega))
  have hy:=ha _ (jV (l:=a) (i:=i) (by omega))
  have e2:aAJ (kP s.q i) (kP a i)=some (gV s.q a i):=s6 hx hy (by omega) (by omega)
  simp only [gK,dT (show(i:Int)<(s.q.length:Int) by omega),cA,aCJ (l:=s.q) (i:=i) (by omega),aCJ (l:=a) (i:=i) (by omega),e2,apM (g:=gV s.q a) (i:=i) (by omega),ckN (m:=0) (n:=i+1) (show(i:Int)+1=((i+1:Nat):Int) by omega) (by omega),oB]
  exact aHN hv ha hl hm hn K t (i+1) k' (by omega) (by omega)
def aB6 (s:a8) (a:List Rat):a8:=⟨s.tick+1,mp (gV s.q (mp (gBy s.v a) a.length)) a.length,mp (gV s.v a) a.length,s.here⟩
end Go.Proofs.YtldhbdgfpjoamaaGreat
set_option linter.unusedVariables false
namespace Go.Proofs.YtldhbdgfpjoamaaGreat
/-- A matrix of h rows and w columns. -/
def mx (g:Nat→Nat→Rat) (h w:Nat):List (List Rat):=mp (fun i=>mp (g i) w) h
theorem aPH {g g':Nat→Nat→Rat} {h w:Nat} (e:∀i c,i<h→c<w→g i c=g' i c):mx g h w=mx g' h w:=
 cJ fun i hi=>cJ fun c hc=>e i c hi hc
theorem aTb {g:Nat→Nat→Rat} {h w i:Nat} {f:Nat→Rat}:mp (iD (fun i=>mp (g i) w) i (mp f w)) h=mx (iD g i f) h w:=by
 refine cJ fun j _=>?_
 unfold iD
 split<;>rfl
theorem aDH {g:Nat→Nat→Rat} {h w i:Nat} (hi:i<h):bL (mx g h w) (i:Int)=some (mp (g i) w):=eD hi
theorem w9 {g:Nat→Nat→Rat} {h w:Nat}:(mx g h w).length=h:=bO _ _
def Bdx (h w b:Nat) (g:Nat→Nat→Rat):Prop:=∀i c,i<h→c<w→Bd b (g i c)
theorem Bdx.mono {h w b b':Nat} {g:Nat→Nat→Rat} (hg:Bdx h w b g) (hb:b≤b'):Bdx h w b' g:=fun i c hi hc=>(hg i c hi hc).mono hb
def piv (g:Nat→Nat→Rat) (k:Nat):Nat→Nat→Nat
 |0,i=>i
 |t+1,i=>if g i k=0 then piv g k t (i+1) else i
theorem aKx {g:Nat→Nat→Rat} {k:Nat}:∀(t i:Nat),i≤piv g k t i∧piv g k t i≤i+t
 |0,i=>⟨Nat.le_refl _,Nat.le_refl _⟩
 |t+1,i=>by
  have h:=aKx (g:=g) (k:=k) t (i+1)
  unfold piv
  split<;>omega
theorem aRH {g:Nat→Nat→Rat} {k:Nat}:∀(t i j:Nat),i≤j→j<piv g k t i→g j k=0
 |0,i,j,h1,h2=>by simp only [piv] at h2;omega
 |t+1,i,j,h1,h2=>by
  unfold piv at h2
  split at h2
  ·rename_i hz
   by_cases he:j=i
   ·rw [he];exact hz
   ·exact aRH t (i+1) j (by omega) h2
  ·omega
theorem aPv {g:Nat→Nat→Rat} {k:Nat}:∀(t i:Nat),piv g k t i<i+t→g (piv g k t i) k≠0
 |0,i,h=>by simp only [piv] at h;omega
 |t+1,i,h=>by
  unfold piv at h ⊢
  split at h
  ·rename_i hz
   rw [if_pos hz]
   exact aPv t (i+1) (by omega)
  ·rename_i hz
   rw [if_neg hz];exact hz
def swp (g:Nat→Nat→Rat) (n at0 i:Nat):Nat→Rat:=g (if i=n then at0 else if i=at0 then n else i)
def pr (g:Nat→Nat→Rat) (at0 k c:Nat):Rat:=g at0 c/g at0 k
def stp (g:Nat→Nat→Rat) (n at0 k i c:Nat):Rat:=if i=n then pr g at0 k c else swp g n at0 i c-swp g n at0 i k*pr g at0 k c
structure RS where
 ps:List Nat
 g:Nat→Nat→Rat
 d:Rat
def aIy (h k:Nat) (s:RS):RS:=
 if piv s.g k (h-s.ps.length) s.ps.length=h then s
 else⟨s.ps++[k],stp s.g s.ps.length (piv s.g k (h-s.ps.length) s.ps.length) k,(if piv s.g k (h-s.ps.length) s.ps.length=s.ps.length then s.d else -s.d)*s.g (piv s.g k (h-s.ps.length) s.ps.length) k⟩
def red (g:Nat→Nat→Rat) (h:Nat):Nat→RS
 |0=>⟨[],g,1⟩
 |k+1=>aIy h k (red g h k)
theorem aIA {h n at0 i:Nat} (hn:n<h) (ha:at0<h) (hi:i<h):(if i=n then at0 else if i=at0 then n else i)<h:=by split;exact ha;split;exact hn;exact hi
end Go.Proofs.YtldhbdgfpjoamaaGreat
set_option linter.unusedVariables false
namespace Go.Proofs.YtldhbdgfpjoamaaGreat
/-- The rows that the list of indices names, in a pool of rows. -/
structure Rep (ι:Nat→Nat) (pool:List (List Rat)) (g:Nat→Nat→Rat) (h w:Nat):Prop where
 inj:∀i j,i<h→j<h→ι i=ι j→i=j
 lt:∀i,i<h→ι i<pool.length
 el:∀i,i<h→pool.getD (ι i) []=mp (g i) w
theorem Rep.set {ι:Nat→Nat} {pool:List (List Rat)} {g:Nat→Nat→Rat} {h w i:Nat} (r:Rep ι pool g h w) (hi:i<h) (f:Nat→Rat):Rep ι (pool.set (ι i) (mp f w)) (iD g i f) h w:=by
 refine⟨r.inj,fun j hj=>by rw [List.length_set];exact r.lt j hj,fun j hj=>?_⟩
 rw [List.getD_eq_getElem?_getD,List.getElem?_set]
 by_cases he:j=i
 ·subst he
  rw [if_pos rfl,if_pos (r.lt j hj),bA];rfl
 ·rw [if_neg (fun h=>he (r.inj j i hj hi h.symm)),←List.getD_eq_getElem?_getD,r.el j hj,cG he]
theorem Rep.congr {ι:Nat→Nat} {pool:List (List Rat)} {g g':Nat→Nat→Rat} {h w:Nat} (r:Rep ι pool g h w) (e:∀i c,i<h→c<w→g i c=g' i c):Rep ι pool g' h w:=
 ⟨r.inj,r.lt,fun i hi=>by rw [r.el i hi];exact cJ fun c hc=>e i c hi hc⟩
theorem Rep.sel {ι:Nat→Nat} {pool:List (List Rat)} {g:Nat→Nat→Rat} {h w:Nat} (r:Rep ι pool g h w):aBb pool (mp ι h)=mx g h w:=by
 unfold aBb mx
 apply List.ext_getElem?
 intro j
 by_cases hj:j<h
 ·rw [List.getElem?_map,aBh hj,aBh hj,←r.el j hj];rfl
 ·rw [List.getElem?_map,List.getElem?_eq_none (by simp [mp];omega),List.getElem?_eq_none (by simp [mp];omega)];rfl
theorem Rep.swap {ι:Nat→Nat} {pool:List (List Rat)} {g:Nat→Nat→Rat} {h w n a:Nat} (r:Rep ι pool g h w) (hn:n<h) (ha:a<h) (hne:n≠a):Rep (iD (iD ι n (ι a)) a (ι n)) pool (swp g n a) h w:=by
 have key:∀i,iD (iD ι n (ι a)) a (ι n) i=ι (if i=n then a else if i=a then n else i):=fun i=>by
  unfold iD
  by_cases h1:i=n
  ·rw [if_pos h1,if_neg (by omega),if_pos h1]
  ·rw [if_neg h1]
   by_cases h2:i=a
   ·rw [if_pos h2,if_pos h2,if_neg h1]
   ·rw [if_neg h2,if_neg h1,if_neg h2]
 refine⟨fun i j hi hj e=>?_,fun i hi=>?_,fun i hi=>?_⟩
 ·rw [key,key] at e
  have:=r.inj _ _ (aIA hn ha hi) (aIA hn ha hj) e
  split at this<;>split at this<;>(try split at this)<;>(try split at this)<;>omega
 ·rw [key];exact r.lt _ (aIA hn ha hi)
 ·rw [key];exact r.el _ (aIA hn ha hi)
def mid (f e:Nat→Rat) (c j:Nat):Rat:=if j<c then f j else e j
theorem aQ5 {α:Type} {g:Nat→α} {i:Nat} {x y:α}:iD (iD g i x) i y=iD g i y:=by
 funext j
 unfold iD
 split<;>rfl
end Go.Proofs.YtldhbdgfpjoamaaGreat
set_option linter.unusedVariables false
namespace Go.Proofs.YtldhbdgfpjoamaaGreat
/-- A list of numbers read by index. -/
def pat (ps:List Nat) (i:Nat):Nat:=ps.getD i 0
def Cok (h w:Nat):Prop:=h=0→w=0
theorem aJk {g:Nat→Nat→Rat} {h w:Nat} (hc:Cok h w):w4 (mx g h w)=some (w:Int):=by
 by_cases h0:h=0
 ·subst h0
  rw [hc rfl];rfl
 ·have r0:=aDH (g:=g) (w:=w) (show 0<h by omega)
  simp only [Int.natCast_zero] at r0
  simp only [w4,w9,qF (show¬(h:Int)=0 by omega),bU,r0,oB,bO]
end Go.Proofs.YtldhbdgfpjoamaaGreat
set_option linter.unusedVariables false
namespace Go.Proofs.YtldhbdgfpjoamaaGreat
theorem aD1 (f g:Nat→Rat) (a:Rat):∀n,sm (fun c=>f c-a*g c) n=sm f n-a*sm g n
 |0=>by simp only [sm];grind
 |n+1=>by
  have ih:=aD1 f g a n
  simp only [sm]
  rw [ih];grind
theorem aKg (f:Nat→Rat) (a:Rat):∀n,sm (fun c=>f c*a) n=sm f n*a
 |0=>by simp only [sm];grind
 |n+1=>by
  have ih:=aKg f a n
  simp only [sm]
  rw [ih];grind
theorem bM {f g:Nat→Rat}:∀{n:Nat},(∀i,i<n→f i=g i)→sm f n=sm g n
 |0,_=>rfl
 |n+1,h=>by
  simp only [sm]
  rw [bM fun i hi=>h i (by omega),h n (by omega)]
theorem qO {f:Nat→Rat} {n:Nat} (h:∀i,i<n→f i=0):sm f n=0:=by
 rw [bM (g:=fun _=>0) h]
 induction n with
 |zero=>rfl
 |succ n ih=>simp only [sm];rw [ih fun i hi=>h i (by omega)];grind
theorem tZ {f:Nat→Rat} {n p:Nat} (hp:p<n) (h:∀i,i<n→i≠p→f i=0):sm f n=f p:=by
 induction n with
 |zero=>omega
 |succ n ih=>
  simp only [sm]
  by_cases he:p=n
  ·rw [qO fun i hi=>h i (by omega) (by omega),he];grind
  ·rw [ih (by omega) fun i hi hne=>h i (by omega) hne,h n (by omega) (by omega)];grind
theorem aBJ (f g:Nat→Rat):∀n,sm (fun c=>f c+g c) n=sm f n+sm g n
 |0=>by simp only [sm];grind
 |n+1=>by
  have ih:=aBJ f g n
  simp only [sm]
  rw [ih];grind
structure RJ (h k:Nat) (s:RS):Prop where
 ph:s.ps.length≤h
 pk:∀i,i<s.ps.length→pat s.ps i<k
 z:∀i c,s.ps.length≤i→i<h→c<k→s.g i c=0
 one:∀i i',i<s.ps.length→i'<h→s.g i' (pat s.ps i)=if i'=i then 1 else 0
 lead:∀i c,i<s.ps.length→c<pat s.ps i→s.g i c=0
 inc:∀i j,i<j→j<s.ps.length→pat s.ps i<pat s.ps j
 gap:∀c,c<k→c∉s.ps→∀i,i<s.ps.length→c<pat s.ps i→s.g i c=0
theorem aCZ {ps:List Nat} {k i:Nat} (h:i<ps.length):pat (ps++[k]) i=pat ps i:=by
 unfold pat
 rw [List.getD_eq_getElem?_getD,List.getD_eq_getElem?_getD,List.getElem?_append_left h]
theorem aFG {ps:List Nat} {k:Nat}:pat (ps++[k]) ps.length=k:=by
 unfold pat
 rw [List.getD_eq_getElem?_getD,List.getElem?_append_right (Nat.le_refl _),Nat.sub_self];rfl
theorem aNW {h k:Nat} {s:RS} (hs:RJ h k s):RJ h (k+1) (aIy h k s):=by
 have hp:=aKx (g:=s.g) (k:=k) (h-s.ps.length) s.ps.length
 have hph:=hs.ph
 unfold aIy
 split
 ·rename_i hat
  refine⟨hs.ph,fun i hi=>Nat.lt_succ_of_lt (hs.pk i hi),fun i c hi hh hc=>?_,hs.one,hs.lead,hs.inc,fun c _ _ i hi hlt=>hs.lead i c hi hlt⟩
  by_cases he:c=k
  ·subst he;exact aRH (h-s.ps.length) s.ps.length i hi (by omega)
  ·exact hs.z i c hi hh (by omega)
 ·rename_i hat
  have hlt:piv s.g k (h-s.ps.length) s.ps.length<h:=by omega
  have hne:=aPv (g:=s.g) (k:=k) (h-s.ps.length) s.ps.length (by omega)
  generalize ha:piv s.g k (h-s.ps.length) s.ps.length=at0 at *
  have hz:∀c,c<k→s.g at0 c=0:=fun c hc=>hs.z at0 c hp.1 hlt hc
  have hpr:∀c,c<k→pr s.g at0 k c=0:=fun c hc=>by unfold pr;rw [hz c hc,Rat.div_def,Rat.zero_mul]
  have hprk:pr s.g at0 k k=1:=by unfold pr;rw [Rat.div_def,Rat.mul_inv_cancel _ hne]
  have hswz:∀i c,s.ps.length<i→i<h→c<k→swp s.g s.ps.length at0 i c=0:=fun i c hi hih hc=>by
   unfold swp
   rw [if_neg (by omega)]
   split
   ·exact hs.z _ c (Nat.le_refl _) (by omega) hc
   ·exact hs.z _ c (by omega) hih hc
  have hsw:∀i c,i<s.ps.length→swp s.g s.ps.length at0 i c=s.g i c:=fun i c hi=>by
   unfold swp
   rw [if_neg (by omega),if_neg (by omega)]
  have hlead:∀i c,i<s.ps.length+1→c<pat (s.ps++[k]) i→stp s.g s.ps.length at0 k i c=0:=fun i c hi hc=>by
   by_cases he:i=s.ps.length
   ·subst he
    rw [aFG] at hc
    unfold stp
    rw [if_pos rfl];exact hpr c hc
   ·have hi':i<s.ps.length:=by omega
    rw [aCZ hi'] at hc
    unfold stp
    rw [if_neg he,hsw i c hi',hsw i k hi',hs.lead i c hi' hc,hpr c (by have:=hs.pk i hi';omega)]
    grind
  refine⟨by simp only [List.length_append,List.length_singleton];omega,fun i hi=>?_,fun i c hi hh hc=>?_,fun i i' hi hi'=>?_,fun i c hi hc=>hlead i c (by simpa using hi) hc,fun i j hij hj=>?_,fun c _ _ i hi hlt=>hlead i c (by simpa using hi) hlt⟩
  ·simp only [List.length_append,List.length_singleton] at hi
   by_cases he:i=s.ps.length
   ·subst he;simp only [aFG];omega
   ·simp only [aCZ (show i<s.ps.length by omega)]
    have:=hs.pk i (by omega);omega
  ·simp only [List.length_append,List.length_singleton] at hi
   show stp s.g s.ps.length at0 k i c=0
   unfold stp
   rw [if_neg (by omega)]
   by_cases he:c=k
   ·subst he
    rw [hprk,Rat.mul_one,Rat.sub_self]
   ·rw [hswz i c (by omega) hh (by omega),hpr c (by omega)]
    grind
  ·simp only [List.length_append,List.length_singleton] at hi
   show stp s.g s.ps.length at0 k i' (pat (s.ps++[k]) i)=_
   unfold stp
   by_cases he:i=s.ps.length
   ·subst he
    rw [aFG]
    by_cases e2:i'=s.ps.length
    ·rw [if_pos e2,if_pos e2,hprk]
    ·rw [if_neg e2,if_neg e2,hprk,Rat.mul_one,Rat.sub_self]
   ·have hi2:i<s.ps.length:=by omega
    rw [aCZ hi2,hpr _ (hs.pk i hi2)]
    by_cases e2:i'=s.ps.length
    ·rw [if_pos e2,if_neg (by omega)]
    ·rw [if_neg e2]
     by_cases e3:i'<s.ps.length
     ·rw [hsw i' _ e3,hs.one i i' hi2 (by omega)]
      grind
     ·rw [hswz i' _ (by omega) hi' (hs.pk i hi2),if_neg (by omega)]
      grind
  ·simp only [List.length_append,List.length_singleton] at hj
   by_cases he:j=s.ps.length
   ·subst he
    simp only [aFG,aCZ (show i<s.ps.length by omega)]
    exact hs.pk i (by omega)
   ·simp only [aCZ (show i<s.ps.length by omega),aCZ (show j<s.ps.length by omega)]
    exact hs.inc i j hij (by omega)
theorem aMr {g:Nat→Nat→Rat} {h:Nat}:∀k,RJ h k (red g h k)
 |0=>⟨Nat.zero_le _,fun i hi=>absurd hi (by simp [red]),fun i c _ _ hc=>absurd hc (by omega),fun i i' hi _=>absurd hi (by simp [red]),fun i c hi _=>absurd hi (by simp [red]),fun i j _ hj=>absurd hj (by simp [red]),fun c hc=>absurd hc (by omega)⟩
 |k+1=>aNW (aMr k)
end Go.Proofs.YtldhbdgfpjoamaaGreat
set_option linter.unusedVariables false
namespace Go.Proofs.YtldhbdgfpjoamaaGreat
theorem aB8 (F:Nat→Nat→Rat) (m:Nat):∀n,sm (fun i=>sm (F i) m) n=sm (fun j=>sm (fun i=>F i j) n) m
 |0=>by
  simp only [sm]
  exact(qO fun i _=>rfl).symm
 |n+1=>by
  simp only [sm]
  rw [aB8 F m n,aBJ]
theorem rG (f:Nat→Rat) (a:Rat) (n:Nat):sm (fun c=>a*f c) n=a*sm f n:=by
 rw [Rat.mul_comm,←aKg]
 exact bM fun i _=>Rat.mul_comm _ _
theorem aBT (f:Nat→Rat) (n:Nat):sm (fun c=>-(f c)) n=-(sm f n):=by
 have:=rG f (-1) n
 rw [bM (g:=fun c=>-1*f c) fun i _=>by grind,this];grind
def skp (k c:Nat):Nat:=if c<k then c else c+1
theorem aPk (F:Nat→Rat) {k:Nat}:∀{n:Nat},k≤n→sm (fun l=>F (skp k l)) n=sm (fun m=>if m=k then 0 else F m) (n+1)
 |0,h=>by
  have:k=0:=by omega
  subst this
  simp only [sm];grind
 |n+1,h=>by
  by_cases hk:k≤n
  ·have ih:=aPk F hk
   rw [sm,ih,sm,sm,sm]
   have e1:skp k n=n+1:=by unfold skp;rw [if_neg (by omega)]
   rw [e1,if_neg (show¬n+1=k by omega)]
  ·have:k=n+1:=by omega
   subst this
   rw [sm.eq_2 _ (n+1),if_pos rfl]
   rw [bM (g:=F) fun i hi=>by unfold skp;rw [if_pos hi],bM (g:=F) fun i hi=>if_neg (by omega)]
   grind
def sgn (k:Nat):Rat:=if k%2=0 then 1 else -1
def mnr (g:Nat→Nat→Rat) (k i c:Nat):Rat:=g (i+1) (skp k c)
def dt:Nat→(Nat→Nat→Rat)→Rat
 |0,_=>1
 |n+1,g=>sm (fun k=>sgn k*(g 0 k*dt n (mnr g k))) (n+1)
theorem aPP {k c n:Nat} (hc:c<n):skp k c<n+1:=by unfold skp;split<;>omega
theorem wJ:∀{n:Nat} {g g':Nat→Nat→Rat},(∀i c,i<n→c<n→g i c=g' i c)→dt n g=dt n g'
 |0,_,_,_=>rfl
 |n+1,g,g',h=>by
  simp only [dt]
  refine bM fun k hk=>?_
  rw [h 0 k (by omega) hk,wJ (g:=mnr g k) (g':=mnr g' k) fun i c hi hc=>h (i+1) _ (by omega) (aPP hc)]
theorem aP0 {g:Nat→Nat→Rat} {f:Nat→Rat} {k:Nat}:mnr (iD g 0 f) k=mnr g k:=by
 funext i c
 unfold mnr
 rw [cG (by omega)]
theorem aQA {g:Nat→Nat→Rat} {f:Nat→Rat} {k j:Nat}:mnr (iD g (j+1) f) k=iD (mnr g k) j (fun c=>f (skp k c)):=by
 funext i c
 unfold mnr
 by_cases h:i=j
 ·subst h;rw [bA,bA]
 ·rw [cG (by omega),cG h]
theorem aKV {u v:Nat→Rat} {a:Rat}:∀{n:Nat} {g:Nat→Nat→Rat} {i:Nat},i<n→dt n (iD g i (fun c=>u c-a*v c))=dt n (iD g i u)-a*dt n (iD g i v)
 |0,_,_,h=>by omega
 |n+1,g,0,_=>by
  simp only [dt,aP0,bA]
  rw [←aD1]
  exact bM fun k _=>by grind
 |n+1,g,j+1,h=>by
  simp only [dt,aQA,cG (show 0≠j+1 by omega)]
  rw [←aD1]
  refine bM fun k _=>?_
  rw [aKV (u:=fun c=>u (skp k c)) (v:=fun c=>v (skp k c)) (a:=a) (show j<n by omega)]
  grind
theorem aEG (k:Nat):sgn (k+1)=-(sgn k):=by
 unfold sgn
 by_cases h:k%2=0
 ·rw [if_pos h,if_neg (by omega)]
 ·rw [if_neg h,if_pos (by omega)];grind
theorem aIi (k:Nat):∀l,sgn (k+l)=sgn k*sgn l
 |0=>by
  have:sgn 0=1:=rfl
  rw [this,Nat.add_zero];grind
 |l+1=>by
  rw [←Nat.add_assoc,aEG,aIi k l,aEG];grind
def aM7 (k m c:Nat):Nat:=if c<min k m then c else if c+1<max k m then c+1 else c+2
theorem aQk (k l c:Nat):skp k (skp l c)=aM7 k (skp k l) c:=by
 unfold aM7 skp
 by_cases h1:l<k
 ·rw [if_pos h1]
  repeat' split
  all_goals omega
 ·rw [if_neg h1]
  repeat' split
  all_goals omega
theorem aNf (k m c:Nat):aM7 k m c=aM7 m k c:=by
 unfold aM7;rw [Nat.min_comm,Nat.max_comm]
def eps (k m:Nat):Rat:=if k<m then sgn (k+m+1) else sgn (k+m)
theorem aOf {k m:Nat} (h:m≠k):eps k m=-(eps m k):=by
 unfold eps
 by_cases h1:k<m
 ·rw [if_pos h1,if_neg (by omega),aEG,Nat.add_comm]
 ·rw [if_neg h1,if_pos (by omega),aEG,Nat.add_comm];grind
theorem aQU (k l:Nat):sgn k*sgn l=eps k (skp k l):=by
 unfold eps skp
 by_cases h:l<k
 ·rw [if_pos h,if_neg (by omega),aIi]
 ·rw [if_neg h,if_pos (by omega)]
  rw [show k+(l+1)+1=k+l+2 by omega,show sgn (k+l+2)=sgn (k+l) by unfold sgn;rw [show(k+l+2)%2=(k+l)%2 by omega],aIi]
def aKA (g:Nat→Nat→Rat) (k m i c:Nat):Rat:=g (i+2) (aM7 k m c)
theorem aOY {n:Nat} {g:Nat→Nat→Rat}:dt (n+2) g=sm (fun k=>sm (fun m=>if m=k then 0 else eps k m*(g 0 k*(g 1 m*dt n (aKA g k m)))) (n+2)) (n+2):=by
 rw [dt]
 refine bM fun k hk=>?_
 rw [←aPk (fun m=>eps k m*(g 0 k*(g 1 m*dt n (aKA g k m)))) (show k≤n+1 by omega),dt,←rG,←rG]
 refine bM fun l _=>?_
 rw [←aQU,show dt n (mnr (mnr g k) l)=dt n (aKA g k (skp k l)) from congrArg (dt n) (by
  funext i c
  unfold mnr aKA
  rw [aQk])]
 unfold mnr
 grind
theorem aM1 {n:Nat} {g:Nat→Nat→Rat}:dt (n+2) (swp g 0 1)=-(dt (n+2) g):=by
 rw [aOY,aOY,aB8,←aBT]
 refine bM fun k _=>?_
 rw [←aBT]
 refine bM fun m _=>?_
 by_cases h:k=m
 ·rw [if_pos h,if_pos h.symm];grind
 ·rw [if_neg h,if_neg (fun e=>h e.symm),aOf (by exact fun e=>h e)]
  have e:aKA (swp g 0 1) m k=aKA g k m:=by
   funext i c
   unfold aKA swp
   rw [if_neg (by omega),if_neg (by omega),aNf]
  rw [e]
  have e1:swp g 0 1 0=g 1:=by unfold swp;rw [if_pos rfl]
  have e2:swp g 0 1 1=g 0:=by unfold swp;rw [if_neg (by omega),if_pos rfl]
  rw [e1,e2]
  grind
theorem aQM {g:Nat→Nat→Rat} {a b k:Nat}:mnr (swp g (a+1) (b+1)) k=swp (mnr g k) a b:=by
 funext i c
 unfold mnr swp
 congr 1
 by_cases h1:i=a
 ·rw [if_pos (by omega),if_pos h1]
 ·rw [if_neg (by omega),if_neg h1]
  by_cases h2:i=b
  ·rw [if_pos (by omega),if_pos h2]
  ·rw [if_neg (by omega),if_neg h2]
theorem aIw:∀{n:Nat} {g:Nat→Nat→Rat} {i:Nat},i+1<n→dt n (swp g i (i+1))=-(dt n g)
 |0,_,_,h=>by omega
 |1,_,_,h=>by omega
 |n+2,g,0,_=>aM1
 |n+2,g,i+1,h=>by
  rw [dt,dt,←aBT]
  refine bM fun k _=>?_
  rw [aQM,aIw (show i+1<n+1 by omega)]
  have e1:swp g (i+1) (i+1+1) 0=g 0:=by unfold swp;rw [if_neg (by omega),if_neg (by omega)]
  rw [e1];grind
theorem aKD {n:Nat}:∀(t:Nat) {g:Nat→Nat→Rat} {i:Nat},i+t+1<n→dt n (swp g i (i+t+1))=-(dt n g)
 |0,g,i,h=>aIw h
 |t+1,g,i,h=>by
  have e:swp g i (i+(t+1)+1)=swp (swp (swp g (i+t+1) (i+t+1+1)) i (i+t+1)) (i+t+1) (i+t+1+1):=by
   funext j
   unfold swp
   congr 1
   repeat' split
   all_goals omega
  rw [e,aIw (by omega),aKD t (by omega),aIw (by omega)];grind
theorem aPn {g:Nat→Nat→Rat} {a b:Nat}:swp g a b=swp g b a:=by
 funext j
 unfold swp
 congr 1
 repeat' split
 all_goals omega
structure Alt (h:Nat) (D:(Nat→Nat→Rat)→Rat):Prop where
 cong:∀g g':Nat→Nat→Rat,(∀i,i<h→g i=g' i)→D g=D g'
 lin:∀(g:Nat→Nat→Rat) (u v:Nat→Rat) (a:Rat) (i:Nat),i<h→D (iD g i (fun c=>u c-a*v c))=D (iD g i u)-a*D (iD g i v)
 swap:∀(g:Nat→Nat→Rat) (i j:Nat),i<h→j<h→i≠j→D (swp g i j)=-(D g)
theorem aGX (n:Nat):Alt n (dt n):=⟨fun g g' h=>wJ fun i c hi _=>by rw [h i hi],fun g u v a i hi=>aKV hi,fun g i j hi hj hne=>by
 by_cases h:i<j
 ·obtain⟨t,rfl⟩:∃t,j=i+t+1:=⟨j-i-1,by omega⟩
  exact aKD t hj
 ·obtain⟨t,rfl⟩:∃t,i=j+t+1:=⟨i-j-1,by omega⟩
  rw [aPn]
  exact aKD t hi⟩
theorem Alt.zero {h:Nat} {D:(Nat→Nat→Rat)→Rat} (a:Alt h D) {g:Nat→Nat→Rat} {i:Nat} (hi:i<h) (hz:g i=fun _=>0):D g=0:=by
 have:=a.lin g (g i) (g i) 1 i hi
 have e:(fun c=>g i c-1*g i c)=g i:=by funext c;rw [hz];grind
 have e2:iD g i (g i)=g:=by
  funext j
  unfold iD
  split
  ·rename_i h;rw [h]
  ·rfl
 rw [e,e2] at this
 grind
theorem aOt {α:Type} {g:Nat→α} {i:Nat}:iD g i (g i)=g:=by
 funext j
 unfold iD
 split
 ·rename_i h;rw [h]
 ·rfl
theorem Alt.scale {h:Nat} {D:(Nat→Nat→Rat)→Rat} (a:Alt h D) {g:Nat→Nat→Rat} {u:Nat→Rat} {b:Rat} {i:Nat} (hi:i<h):D (iD g i (fun c=>b*u c))=b*D (iD g i u):=by
 have h1:=a.lin g (fun _=>0) u (-b) i hi
 have h2:D (iD g i (fun _=>0))=0:=a.zero hi bA
 rw [h2] at h1
 have e:(fun c=>(0:Rat)- -b*u c)=fun c=>b*u c:=by funext c;grind
 rw [e] at h1
 rw [h1];grind
theorem Alt.same {h:Nat} {D:(Nat→Nat→Rat)→Rat} (a:Alt h D) {g:Nat→Nat→Rat} {i j:Nat} (hi:i<h) (hj:j<h) (hne:i≠j) (he:g i=g j):D g=0:=by
 have h1:=a.swap g i j hi hj hne
 have e:swp g i j=g:=by
  funext l
  unfold swp
  split
  ·rename_i h;rw [h,he]
  ·split
   ·rename_i h;rw [h,he]
   ·rfl
 rw [e] at h1
 grind
theorem Alt.add {h:Nat} {D:(Nat→Nat→Rat)→Rat} (a:Alt h D) {g:Nat→Nat→Rat} {b:Rat} {i j:Nat} (hi:i<h) (hj:j<h) (hne:i≠j):D (iD g i (fun c=>g i c-b*g j c))=D g:=by
 rw [a.lin g (g i) (g j) b i hi,aOt,a.same (g:=iD g i (g j)) hi hj hne (by rw [bA,cG (fun e=>hne e.symm)])]
 grind
def elm (g:Nat→Nat→Rat) (n k j i c:Nat):Rat:=if i<j∧i≠n then g i c-g i k*g n c else g i c
theorem Alt.elm0 {h:Nat} {D:(Nat→Nat→Rat)→Rat} (a:Alt h D) {g:Nat→Nat→Rat} {n k:Nat} (hn:n<h):∀j,j≤h→D (elm g n k j)=D g
 |0,_=>a.cong _ _ fun i _=>by
  funext c
  exact if_neg (by omega)
 |j+1,hj=>by
  refine Eq.trans ?_ (Alt.elm0 (k:=k) a hn j (by omega))
  by_cases he:j=n
  ·refine a.cong _ _ fun i _=>?_
   funext c
   unfold elm
   by_cases h1:i<j
   ·rw [if_pos ⟨by omega,by omega⟩,if_pos ⟨h1,by omega⟩]
   ·rw [if_neg (by omega),if_neg (by omega)]
  ·refine Eq.trans ?_ (a.add (g:=elm g n k j) (b:=g j k) (show j<h by omega) hn he)
   refine a.cong _ _ fun i _=>?_
   funext c
   by_cases h1:i=j
   ·subst h1
    rw [bA]
    unfold elm
    rw [if_pos ⟨by omega,he⟩,if_neg (by omega),if_neg (by omega)]
   ·rw [cG h1]
    unfold elm
    by_cases h2:i<j∧i≠n
    ·rw [if_pos ⟨by omega,h2.2⟩,if_pos h2]
    ·rw [if_neg (by omega),if_neg h2]
theorem Alt.stp0 {h:Nat} {D:(Nat→Nat→Rat)→Rat} (a:Alt h D) {g:Nat→Nat→Rat} {n at0 k:Nat} (hn:n<h) (ha:at0<h) (hne:g at0 k≠0):D g=(if at0=n then 1 else -1)*g at0 k*D (stp g n at0 k):=by
 have e1:D (swp g n at0)=(if at0=n then 1 else -1)*D g:=by
  by_cases h1:at0=n
  ·rw [if_pos h1]
   have:swp g n at0=g:=by
    funext i
    unfold swp
    split
    ·rw [h1];congr 1;omega
    ·split
     ·congr 1;omega
     ·rfl
   rw [this];grind
  ·rw [if_neg h1,a.swap g n at0 hn ha (fun e=>h1 e.symm)];grind
 have e2:D (swp g n at0)=g at0 k*D (iD (swp g n at0) n (pr g at0 k)):=by
  rw [←a.scale hn]
  congr 1
  funext i
  by_cases h1:i=n
  ·subst h1
   rw [bA]
   funext c
   unfold swp pr
   rw [if_pos rfl,Rat.div_def,Rat.mul_comm (g at0 c),←Rat.mul_assoc,Rat.mul_inv_cancel _ hne,Rat.one_mul]
  ·rw [cG h1]
 have e3:D (stp g n at0 k)=D (iD (swp g n at0) n (pr g at0 k)):=by
  rw [←a.elm0 (g:=iD (swp g n at0) n (pr g at0 k)) (n:=n) (k:=k) hn h (Nat.le_refl _)]
  refine a.cong _ _ fun i hi=>?_
  funext c
  unfold stp elm
  by_cases h1:i=n
  ·subst h1
   rw [if_pos rfl,if_neg (by omega),bA]
  ·rw [if_neg h1,if_pos ⟨hi,h1⟩,cG h1,bA]
 rw [e3]
 have e4:D g=(if at0=n then 1 else -1)*D (swp g n at0):=by
  rw [e1]
  split<;>grind
 rw [e4,e2];grind
theorem Alt.red0 {h:Nat} {D:(Nat→Nat→Rat)→Rat} (a:Alt h D) {g:Nat→Nat→Rat}:∀k,D g=(red g h k).d*D (red g h k).g
 |0=>by simp only [red];grind
 |k+1=>by
  refine(Alt.red0 a k).trans ?_
  have hl:=(aMr (g:=g) (h:=h) k).ph
  simp only [red]
  generalize red g h k=s at *
  unfold aIy
  split
  ·rfl
  ·rename_i hat
   have hp:=aKx (g:=s.g) (k:=k) (h-s.ps.length) s.ps.length
   have hlt:piv s.g k (h-s.ps.length) s.ps.length<h:=by omega
   have hne:=aPv (g:=s.g) (k:=k) (h-s.ps.length) s.ps.length (by omega)
   rw [a.stp0 (g:=s.g) (n:=s.ps.length) (at0:=piv s.g k (h-s.ps.length) s.ps.length) (k:=k) (by omega) hlt hne]
   simp only
   split<;>grind
end Go.Proofs.YtldhbdgfpjoamaaGreat
set_option linter.unusedVariables false
namespace Go.Proofs.YtldhbdgfpjoamaaGreat
end Go.Proofs.YtldhbdgfpjoamaaGreat
set_option linter.unusedVariables false
namespace Go.Proofs.YtldhbdgfpjoamaaGreat
end Go.Proofs.YtldhbdgfpjoamaaGreat
set_option linter.unusedVariables false
namespace Go.Proofs.YtldhbdgfpjoamaaGreat
/-- A matrix times a vector. -/
def aJZ (g:Nat→Nat→Rat) (v:Nat→Rat) (w i:Nat):Rat:=sm (fun c=>g i c*v c) w
end Go.Proofs.YtldhbdgfpjoamaaGreat
set_option linter.unusedVariables false
namespace Go.Proofs.YtldhbdgfpjoamaaGreat
/-- A vector and the right side. -/
def ext (x:Nat→Rat) (w c:Nat):Rat:=if c<w then x c else -1
end Go.Proofs.YtldhbdgfpjoamaaGreat
set_option linter.unusedVariables false
namespace Go.Proofs.YtldhbdgfpjoamaaGreat
/-- A turned matrix. -/
def tr (g:Nat→Nat→Rat) (i k:Nat):Rat:=g k i
theorem aHs {g:Nat→Nat→Rat} {h w c:Nat} (hh:h≤100) (hc:c<w) (K:Nat):∀(t i k:Nat),i+t=h→t<k→mE K (mx g h w) (c:Int) k (mp (tr g c) i) (i:Int)=some (mp (tr g c) h)
 |0,i,k,hi,hk=>by
  obtain⟨k',rfl,_⟩:=bD hk
  have:i=h:=by omega
  subst this
  simp only [mE,w9,dF (show¬(i:Int)<(i:Int) by omega),bU]
 |t+1,i,k,hi,hk=>by
  obtain⟨k',rfl,_⟩:=bD hk
  have hl:i<h:=by omega
  have e4:qR (mp (tr g c) i) [g i c]=some (mp (tr g c) (i+1)):=apM (g:=tr g c) (by omega)
  simp only [mE,w9,dT (show(i:Int)<(h:Int) by omega),cA,aDH (g:=g) (w:=w) hl,oB,eD (f:=g i) hc,e4,oC (i:=i) (by omega)]
  exact aHs hh hc K t (i+1) k' (by omega) (by omega)
theorem aHo {g:Nat→Nat→Rat} {h w:Nat} (hc:Cok h w) (hh:h≤100) (hw:w≤100) {K:Nat} (hK:h<K):∀(t i k:Nat),i+t=w→t<k→mC K (mx g h w) k (mx (tr g) i h) (i:Int)=some (mx (tr g) w h)
 |0,i,k,hi,hk=>by
  obtain⟨k',rfl,_⟩:=bD hk
  have:i=w:=by omega
  subst this
  simp only [mC,aJk hc,oB,dF (show¬(i:Int)<(i:Int) by omega),bU]
 |t+1,i,k,hi,hk=>by
  obtain⟨k',rfl,_⟩:=bD hk
  have h50:=aHs (g:=g) hh (show i<w by omega) K h 0 K (by omega) hK
  simp only [Int.natCast_zero,zG] at h50
  have e4:qR (mx (tr g) i h) [mp (tr g i) h]=some (mx (tr g) (i+1) h):=apM (g:=fun i=>mp (tr g i) h) (by omega)
  simp only [mC,aJk hc,dT (show(i:Int)<(w:Int) by omega),cA,oB,h50,yF,e4,oC (i:=i) (by omega)]
  exact aHo hc hh hw hK t (i+1) k' (by omega) (by omega)
theorem aPc {g:Nat→Nat→Rat} {h w:Nat} (hc:Cok h w) (hh:h≤100) (hw:w≤100) {K:Nat} (hK:w+h<K):w8 K (mx g h w)=some (mx (tr g) w h):=by
 have:=aHo (g:=g) hc hh hw (K:=K) (by omega) w 0 K (by omega) (by omega)
 have e:mx (tr g) 0 h=[]:=rfl
 rw [e] at this
 simp only [Int.natCast_zero] at this
 simp only [w8,this,oB,yI]
def aBc (g q:Nat→Nat→Rat) (w i j:Nat):Rat:=aJZ (tr q) (g i) w j
end Go.Proofs.YtldhbdgfpjoamaaGreat
set_option linter.unusedVariables false
namespace Go.Proofs.YtldhbdgfpjoamaaGreat
theorem aUy:sgn 0=1:=rfl
def aAv (i c:Nat):Rat:=if i=c then 1 else 0
theorem aFC:∀n,dt n aAv=1
 |0=>rfl
 |n+1=>by
  rw [dt,tZ (p:=0) (by omega) fun k _ hk=>by unfold aAv;rw [if_neg (fun e=>hk e.symm)];grind]
  have e:dt n (mnr aAv 0)=dt n aAv:=wJ fun i c _ _=>by
   unfold mnr aAv skp
   rw [if_neg (Nat.not_lt_zero c)]
   by_cases h:i=c
   ·rw [if_pos h,if_pos (by omega)]
   ·rw [if_neg h,if_neg (by omega)]
  rw [e,aFC n,aUy]
  unfold aAv
  rw [if_pos rfl];grind
theorem aPj {h k:Nat} {s:RS} (hs:RJ h k s):∀i,i<s.ps.length→i≤pat s.ps i
 |0,_=>Nat.zero_le _
 |i+1,hi=>by
  have:=aPj hs i (by omega)
  have:=hs.inc i (i+1) (by omega) hi
  omega
theorem aKd {h k:Nat} {s:RS} (hs:RJ h k s):∀t i,i+t+1=s.ps.length→pat s.ps i+t<k
 |0,i,hi=>hs.pk i (by omega)
 |t+1,i,hi=>by
  have:=aKd hs t (i+1) (by omega)
  have:=hs.inc i (i+1) (by omega) (by omega)
  omega
theorem aP7 {h k:Nat} {s:RS} (hs:RJ h k s) (hf:s.ps.length=k) {i:Nat} (hi:i<k):pat s.ps i=i:=by
 have h1:=aPj hs i (by omega)
 have h2:=aKd hs (k-1-i) i (by omega)
 omega
theorem aFc {h k:Nat} {s:RS} (hs:RJ h k s) (hf:s.ps.length=k) {i c:Nat} (hi:i<h) (hc:c<k):s.g i c=if i=c then 1 else 0:=by
 have:=hs.one c i (by omega) hi
 rw [aP7 hs hf hc] at this
 exact this
def aSK (g:Nat→Nat→Rat) (n:Nat):Rat:=if(red g n n).ps.length=n then(red g n n).d else 0
theorem aSE {g:Nat→Nat→Rat} {n:Nat}:dt n g=aSK g n:=by
 have hJ:=aMr (g:=g) (h:=n) n
 unfold aSK
 rw [(aGX n).red0 (g:=g) n]
 split
 ·rename_i hf
  rw [wJ (g':=aAv) fun i c hi hc=>aFc hJ hf hi hc,aFC];grind
 ·rename_i hf
  have hlt:(red g n n).ps.length<n:=by have:=hJ.ph;omega
  rw [wJ (g':=fun i c=>if c<n then(red g n n).g i c else 0) fun i c hi hc=>by rw [if_pos hc],(aGX n).zero (i:=n-1) (by omega) ?_]
  ·grind
  ·funext c
   split
   ·rename_i hc
    exact hJ.z (n-1) c (by omega) (by omega) hc
   ·rfl
theorem aO5 (q:Nat→Nat→Rat) (n w:Nat):Alt n fun g=>dt n (aBc g q w):=by
 have eu:∀(g:Nat→Nat→Rat) (f:Nat→Rat) (i:Nat),aBc (iD g i f) q w=iD (aBc g q w) i (fun j=>aJZ (tr q) f w j):=by
  intro g f i
  funext j c
  unfold aBc
  by_cases h:j=i
  ·subst h;rw [bA,bA]
  ·rw [cG h,cG h]
 refine⟨fun g g' h=>wJ fun i c hi _=>?_,fun g u v a i hi=>?_,fun g i j hi hj hne=>?_⟩
 ·unfold aBc;rw [h i hi]
 ·show dt n _=dt n _-a*dt n _
  rw [eu,eu,eu,←aKV hi]
  congr 2
  funext j
  unfold aJZ
  rw [←aD1]
  exact bM fun c _=>by grind
 ·exact(aGX n).swap (aBc g q w) i j hi hj hne
theorem aPr {g q:Nat→Nat→Rat} {n:Nat}:dt n (aBc g q n)=dt n g*dt n q:=by
 have hJ:=aMr (g:=g) (h:=n) n
 have hm:dt n (aBc g q n)=(red g n n).d*dt n (aBc (red g n n).g q n):=(aO5 q n n).red0 (g:=g) n
 rw [hm,aSE (g:=g)]
 unfold aSK
 split
 ·rename_i hf
  rw [wJ (g:=aBc (red g n n).g q n) (g':=q) fun i c hi hc=>?_]
  unfold aBc aJZ tr
  rw [tZ (p:=i) hi fun j hj hne=>by rw [aFc hJ hf hi hj,if_neg (fun e=>hne e.symm)];grind]
  rw [aFc hJ hf hi hi,if_pos rfl];grind
 ·rename_i hf
  have hlt:(red g n n).ps.length<n:=by have:=hJ.ph;omega
  rw [(aGX n).zero (g:=aBc (red g n n).g q n) (i:=n-1) (by omega) (by
   funext c
   unfold aBc aJZ
   exact qO fun j hj=>by rw [hJ.z (n-1) j (by omega) (by omega) hj];grind)]
  grind
theorem aBA {f:Nat→Rat}:∀{n:Nat},(∀i,i<n→0≤f i)→0≤sm f n
 |0,_=>Rat.le_refl
 |n+1,h=>by
  have h1:=aBA (f:=f) (n:=n) fun i hi=>h i (by omega)
  have h2:=h n (by omega)
  simp only [sm];grind
end Go.Proofs.YtldhbdgfpjoamaaGreat
set_option linter.unusedVariables false
namespace Go.Proofs.YtldhbdgfpjoamaaGreat
/-- The unit matrix with one column replaced. -/
def aJB (i:Nat) (x:Nat→Rat) (r c:Nat):Rat:=if c=i then x r else if r=c then 1 else 0
theorem aQu {n i:Nat} (hi:i<n) (x:Nat→Rat):dt n (aJB i x)=x i:=by
 have a:=aGX n
 have e1:aJB i x=iD (aJB i x) i (fun c=>x i*aAv i c):=by
  funext r c
  by_cases h:r=i
  ·subst h
   rw [bA]
   unfold aJB aAv
   by_cases h2:c=r
   ·rw [if_pos h2,if_pos h2.symm,Rat.mul_one]
   ·rw [if_neg h2,if_neg (show¬r=c from fun e=>h2 e.symm),Rat.mul_zero]
  ·rw [cG h]
 have e2:dt n (iD (aJB i x) i (aAv i))=1:=by
  rw [←a.elm0 (g:=iD (aJB i x) i (aAv i)) (n:=i) (k:=i) hi n (Nat.le_refl n),←aFC n]
  refine wJ fun r c hr hc=>?_
  unfold elm
  by_cases h:r=i
  ·subst h
   rw [if_neg (fun h2=>h2.2 rfl),bA]
  ·rw [if_pos ⟨hr,h⟩,cG h,bA]
   unfold aJB aAv
   rw [if_pos rfl]
   by_cases h2:c=i
   ·rw [if_pos h2,if_pos h2.symm,Rat.mul_one,Rat.sub_self,if_neg (by omega)]
   ·rw [if_neg h2,if_neg (show¬i=c from fun e=>h2 e.symm),Rat.mul_zero,Rat.sub_eq_add_neg,Rat.neg_zero,Rat.add_zero]
 rw [e1,a.scale hi,e2,Rat.mul_one]
def aKL (Z:Nat→Nat→Rat) (b:Nat→Nat) (r j:Nat):Rat:=Z r (b j)
def aHm (Z:Nat→Nat→Rat) (b:Nat→Nat) (i k:Nat) (r j:Nat):Rat:=if j=i then Z r k else Z r (b j)
theorem aTh {n w:Nat} {E Z T:Nat→Nat→Rat} {b:Nat→Nat} (hT:∀i c,i<n→c<w→T i c=aBc E Z n i c) (hb:∀j,j<n→b j<w) (hu:∀i j,i<n→j<n→T i (b j)=if i=j then 1 else 0) {i k:Nat} (hi:i<n) (hk:k<w):dt n (aKL Z b)≠0∧T i k=dt n (aHm Z b i k)/dt n (aKL Z b):=by
 have h1:dt n E*dt n (aKL Z b)=1:=by
  rw [←aPr,←aFC n]
  refine wJ fun r c hr hc=>?_
  show aBc E Z n r (b c)=_
  rw [←hT r (b c) hr (hb c hc),hu r c hr hc];rfl
 have h2:dt n E*dt n (aHm Z b i k)=T i k:=by
  rw [←aPr,←aQu hi (fun r=>T r k)]
  refine wJ fun r c hr hc=>?_
  unfold aJB
  by_cases h:c=i
  ·rw [if_pos h]
   show _=T r k
   rw [hT r k hr hk]
   unfold aBc aJZ tr aHm
   simp [h]
  ·rw [if_neg h,←hu r c hr hc,hT r (b c) hr (hb c hc)]
   unfold aBc aJZ tr aHm
   simp [h]
 have hne:dt n (aKL Z b)≠0:=fun e=>by rw [e,Rat.mul_zero] at h1;exact absurd h1 (by decide)
 refine⟨hne,?_⟩
 rw [←h2,Rat.div_def]
 have:dt n E=(dt n (aKL Z b))⁻¹:=by
  have h3:=congrArg (·*(dt n (aKL Z b))⁻¹) h1
  simp only [Rat.mul_assoc,Rat.mul_inv_cancel _ hne,Rat.mul_one,Rat.one_mul] at h3
  exact h3
 rw [this,Rat.mul_comm]
def isZ (M:Nat) (x:Rat):Prop:=∃q:Int,x=(q:Rat)∧q.natAbs≤M
def fM (M:Nat):Nat→Nat
 |0=>1
 |n+1=>(n+1)*(M*fM M n)
theorem isZ.mono {M N:Nat} {x:Rat} (h:isZ M x) (hn:M≤N):isZ N x:=by
 obtain⟨q,h1,h2⟩:=h
 exact⟨q,h1,by omega⟩
theorem isZ.add {M N:Nat} {x y:Rat} (h:isZ M x) (k:isZ N y):isZ (M+N) (x+y):=by
 obtain⟨q,h1,h2⟩:=h
 obtain⟨p,k1,k2⟩:=k
 exact⟨q+p,by rw [h1,k1,Rat.intCast_add],by omega⟩
theorem isZ.mul {M N:Nat} {x y:Rat} (h:isZ M x) (k:isZ N y):isZ (M*N) (x*y):=by
 obtain⟨q,h1,h2⟩:=h
 obtain⟨p,k1,k2⟩:=k
 exact⟨q*p,by rw [h1,k1,Rat.intCast_mul],by rw [Int.natAbs_mul];exact Nat.mul_le_mul h2 k2⟩
theorem isZ.zero:isZ 0 0:=⟨0,rfl,Nat.le_refl _⟩
theorem aUi (k:Nat):isZ 1 (sgn k):=by
 unfold sgn
 split
 ·exact⟨1,rfl,by decide⟩
 ·exact⟨-1,rfl,by decide⟩
theorem aTU {f:Nat→Rat} {M:Nat}:∀n,(∀i,i<n→isZ M (f i))→isZ (n*M) (sm f n)
 |0,_=>by rw [Nat.zero_mul];exact isZ.zero
 |n+1,h=>by
  have:=(aTU n fun i hi=>h i (by omega)).add (h n (by omega))
  rw [Nat.succ_mul];exact this
theorem aTu {M:Nat}:∀(n:Nat) (g:Nat→Nat→Rat),(∀i c,i<n→c<n→isZ M (g i c))→isZ (fM M n) (dt n g)
 |0,g,h=>⟨1,rfl,Nat.le_refl _⟩
 |n+1,g,h=>aTU (n+1) fun k hk=>by
  have h1:=aTu n (mnr g k) fun i c hi hc=>h (i+1) (skp k c) (by omega) (aPP hc)
  have h2:=(aUi k).mul ((h 0 k (by omega) hk).mul h1)
  rw [Nat.one_mul] at h2
  first|exact h2|(rw [Rat.mul_assoc];exact h2)
theorem aNj {n w M k:Nat} {E Z T:Nat→Nat→Rat} {b:Nat→Nat} (hT:∀i c,i<n→c<w→T i c=aBc E Z n i c) (hb:∀j,j<n→b j<w) (hu:∀i j,i<n→j<n→T i (b j)=if i=j then 1 else 0) (hZ:∀i c,i<n→c<w→isZ M (Z i c)) (hM:fM M n<2^k):Bdx n w k T:=fun i c hi hc=>by
 obtain⟨h1,h2⟩:=aTh hT hb hu hi hc
 obtain⟨p,p1,p2⟩:=aTu n (aHm Z b i c) fun r j hr hj=>by
  unfold aHm
  split
  ·exact hZ r c hr hc
  ·exact hZ r (b j) hr (hb j hj)
 obtain⟨q,q1,q2⟩:=aTu n (aKL Z b) fun r j hr hj=>hZ r (b j) hr (hb j hj)
 rw [h2,p1,q1]
 refine Bd.of (fun e=>h1 (by rw [q1,e];rfl)) (Nat.lt_of_le_of_lt p2 hM) (Nat.lt_of_le_of_lt q2 hM)
end Go.Proofs.YtldhbdgfpjoamaaGreat
