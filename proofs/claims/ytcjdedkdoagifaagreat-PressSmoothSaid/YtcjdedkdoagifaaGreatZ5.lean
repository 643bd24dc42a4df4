/- Texts of the proof, part 5: Q2 Q3 QZ LB MA MB MC MR MT LG LV MS MN MP MU YC YD LD LS XL XF XA XU XV XW. -/
import Derived.Test.YtcjdedkdoagifaaGreatZ4
set_option linter.unusedSimpArgs false
set_option linter.unusedVariables false
set_option maxRecDepth 100000
namespace Go.Proofs.YtcjdedkdoagifaaGreat
def k7 (K:Nat) (v98:List Rat) (x134:List Nat) (x140:List (List Rat)):Option ((List (List Rat))×(List Rat)):=
 some ((aEK x140 x134),v98)
def dR (K:Nat) (a0:aD) (v2:List aC) (x121:List Nat) (x127:List (List Rat)) (x133:Int) (v152:aC) (v164:aA) (recl146:(List Nat)→(List (List Rat))→Int→Option ((List Nat)×(List (List Rat)))) (x174:List aF):Option ((List Nat)×(List (List Rat))):=
 (aP (x133+3)).bind fun v183=>bif(decide (v183<(v2.length:Int))) then((aP (x133+3)).bind fun v186=>(bM v2 v186).bind fun v188=>bif(v188.row==v152.row&&v188.kind==3) then((aP (x133+3)).bind fun v193=>(bM x121 v193).bind fun v195=>(bM (x127.getD v195 []) x133).bind fun v197=>(nU (x127.getD v195 []) x133 v164.mu).bind fun x199=>(wG (a0.dofs.length:Int) 0).bind fun x204=>(bE K a0 x204 x174).bind fun v206=>(cE K v206 x133 v2 a0 x121 (x127.set v195 x199)).bind fun v208=>(aP (x133+1)).bind fun v221=>recl146 v208.1 v208.2 v221) else((wG (a0.dofs.length:Int) 0).bind fun x225=>(bE K a0 x225 x174).bind fun v227=>(cE K v227 x133 v2 a0 x121 x127).bind fun v229=>(aP (x133+1)).bind fun v242=>recl146 v229.1 v229.2 v242)) else((wG (a0.dofs.length:Int) 0).bind fun x246=>(bE K a0 x246 x174).bind fun v248=>(cE K v248 x133 v2 a0 x121 x127).bind fun v250=>(aP (x133+1)).bind fun v263=>recl146 v250.1 v250.2 v263)
def aY (K:Nat) (a0:aD) (v2:List aC) (x91:List aF) (v105:Rat):Nat→(List Nat)→(List (List Rat))→Int→Option ((List Nat)×(List (List Rat)))
 |0,_,_,_=>none
 |k+1,x121,x127,x133=>bif(decide (x133<(v2.length:Int))) then((bM v2 x133).bind fun v152=>(nP x91).bind fun v156=>(bM a0.rows v152.row).bind fun v164=>bif(v152.kind==0) then((bM v156 v152.row).bind fun v168=>(nU v156 v152.row (⟨v105,v168.f⟩:aF)).bind fun x170=>bif(decide (0<(v164.t.length:Int))) then((jW K a0 v164 v105).bind fun v268=>(bM x170 v152.row).bind fun v270=>(nU x170 v152.row (⟨v270.n,v268⟩:aF)).bind fun x272=>dR K a0 v2 x121 x127 x133 v152 v164 (aY K a0 v2 x91 v105 k) x272) else(dR K a0 v2 x121 x127 x133 v152 v164 (aY K a0 v2 x91 v105 k) x170)) else(bif(v152.kind==1) then((bM v156 v152.row).bind fun v276=>(nU v156 v152.row (⟨v276.n,v105⟩:aF)).bind fun x278=>(aP (x133+3)).bind fun v283=>(aP (v283-1)).bind fun v285=>(bM x121 v285).bind fun v287=>(aBY v105).bind fun v289=>(bM (x127.getD v287 []) x133).bind fun v291=>(nU (x127.getD v287 []) x133 v289).bind fun x293=>(wG (a0.dofs.length:Int) 0).bind fun x298=>(bE K a0 x298 x278).bind fun v300=>(cE K v300 x133 v2 a0 x121 (x127.set v287 x293)).bind fun v302=>(aP (x133+1)).bind fun v315=>aY K a0 v2 x91 v105 k v302.1 v302.2 v315) else(bif(v152.kind==2) then((aBY v105).bind fun v320=>(bM v156 v152.row).bind fun v322=>(nU v156 v152.row (⟨v322.n,v320⟩:aF)).bind fun x324=>(aP (x133+3)).bind fun v329=>(aP (v329-2)).bind fun v331=>(bM x121 v331).bind fun v333=>(aBY v105).bind fun v335=>(bM (x127.getD v333 []) x133).bind fun v337=>(nU (x127.getD v333 []) x133 v335).bind fun x339=>(wG (a0.dofs.length:Int) 0).bind fun x344=>(bE K a0 x344 x324).bind fun v346=>(cE K v346 x133 v2 a0 x121 (x127.set v333 x339)).bind fun v348=>(aP (x133+1)).bind fun v361=>aY K a0 v2 x91 v105 k v348.1 v348.2 v361) else(bif(v152.kind==3) then((aP (x133+1)).bind fun v366=>(aP (v366-3)).bind fun v368=>(bM x121 v368).bind fun v370=>(aP (x133+2)).bind fun v372=>(aP (v372-3)).bind fun v374=>(bM x121 v374).bind fun v376=>(bM (x127.getD v370 []) x133).bind fun v378=>(nU (x127.getD v370 []) x133 v105).bind fun x380=>(bM ((x127.set v370 x380).getD v376 []) x133).bind fun v383=>(nU ((x127.set v370 x380).getD v376 []) x133 v105).bind fun x386=>(aP (x133+1)).bind fun v389=>aY K a0 v2 x91 v105 k x121 ((x127.set v370 x380).set v376 x386) v389) else((wG (a0.dofs.length:Int) 0).bind fun x393=>(bE K a0 x393 v156).bind fun v395=>(cE K v395 x133 v2 a0 x121 x127).bind fun v397=>(aP (x133+1)).bind fun v410=>aY K a0 v2 x91 v105 k v397.1 v397.2 v410))))) else(some (x121,x127))
def lS (K:Nat) (a0:aD) (v2:List aC) (x13:List Rat) (x77:List Nat) (x83:List (List Rat)):Option ((List (List Rat))×(List Rat)):=
 (wG (a0.rows.length:Int) (⟨0,0⟩:aF)).bind fun x91=>(bE K a0 a0.load x91).bind fun v96=>(lI K v96 v2 a0 x13).bind fun v98=>(qof 1 1).bind fun v105=>(aY K a0 v2 x91 v105 K x77 x83 0).bind fun(x134,x140)=>k7 K v98 x134 x140
def fE (K:Nat) (v2:List aC) (x10:List Nat):Nat→(List Nat)→(List (List Rat))→Int→Option ((List Nat)×(List (List Rat)))
 |0,_,_,_=>none
 |k+1,x64,x70,x76=>bif(decide (x76<(x10.length:Int))) then((wG (v2.length:Int) 0).bind fun x415=>(bM x64 x76).bind fun v419=>(nU x64 x76 x70.length).bind fun x423=>(aP (x76+1)).bind fun v427=>fE K v2 x10 k x423 (x70++[x415]) v427) else(some (x64,x70))
def l7 (K:Nat) (a0:aD):Option ((List (List Rat))×(List Rat)):=
 (iW K a0).bind fun v2=>(wG (v2.length:Int) (0:Nat)).bind fun x10=>(wG (v2.length:Int) 0).bind fun x13=>(fE K v2 x10 K x10 [([]:List Rat)] 0).bind fun(x77,x83)=>lS K a0 v2 x13 x77 x83
theorem z9 {K:Nat} {a0:aD} {r:(List (List Rat))×(List Rat)} (hF:l7 K a0=some r):Ct Tryz.prog 71 [.va (aD.enc a0)] (.t2 (.vc (pS (xC cQ) r.1)) (.vc (pS cQ r.2))):=by
 unfold l7 at hF
 refine aI Tryz.func71 rfl (by kernel_rfl) Tryz.ntmps71 rfl (fun w0 M0=>?_)
 refine aM (aX (cT rfl rfl trivial (fun b1=>?_)))
 refine aR (bW (.inr rfl)) ⟨eJ (xC cQ),trivial⟩ ?_
 refine aR (bW (.inr rfl)) ⟨eJ cQ,trivial⟩ ?_
 obtain⟨v2,h3,hF⟩:=bD hF uU
 refine go ?_ ?_
 refine aN rfl tyZ114q (fun b4=>?_)
 refine go ?_ ?_
 refine aR (aFU (xs:=[.tmp 4,.tmp 1]) (cs:=[pP (some b4) 0,pP (some b1) 0]) rfl rfl) zU2 ?_
 refine wX ?_
 refine bQ (aS (aM (aOi cQ 44 ?_)))
 obtain⟨x10,h11,hF⟩:=a9 hF
 obtain⟨x13,h14,hF⟩:=a9 hF
 refine sI (HsM [(0,fun G7=>([⟨some b4,1,114,1,1,[pS aC.cod v2]⟩,⟨some b1,1,113,4,1,(aD.enc a0)⟩]++iD cQ 44 [(none,0,0)] [([]:List Rat)])),(1,fun G7=>([hO (cH [(none,0,0)]) ((G7 2).1) x10.length 24 x10.length x10,⟨some b4,1,114,1,1,[pS aC.cod v2]⟩,⟨some b1,1,113,4,1,(aD.enc a0)⟩]++iD cQ 44 [(none,0,0)] [([]:List Rat)])),(2,fun G7=>([hO cQ ((G7 5).1) x13.length 44 x13.length x13,⟨some b4,1,114,1,1,[pS aC.cod v2]⟩,⟨some b1,1,113,4,1,(aD.enc a0)⟩]++iD cQ 44 [(none,0,0)] [([]:List Rat)])),(3,fun G7=>([hO cQ ((G7 5).1) x13.length 44 x13.length x13,hO (cH [(none,0,0)]) ((G7 2).1) x10.length 24 x10.length x10,⟨some b4,1,114,1,1,[pS aC.cod v2]⟩,⟨some b1,1,113,4,1,(aD.enc a0)⟩]++iD cQ 44 [(none,0,0)] [([]:List Rat)])),(4,fun G7=>([⟨some ((G7 6).1.getD 0),1,62,1,1,[pS (xC cQ) ([]:List (List Rat))]⟩,⟨some b4,1,114,1,1,[pS aC.cod v2]⟩,⟨some b1,1,113,4,1,(aD.enc a0)⟩]++iD cQ 44 [(none,0,0)] [([]:List Rat)])),(5,fun G7=>([⟨some ((G7 6).1.getD 0),1,62,1,1,[pS (xC cQ) ([]:List (List Rat))]⟩,hO (cH [(none,0,0)]) ((G7 2).1) x10.length 24 x10.length x10,⟨some b4,1,114,1,1,[pS aC.cod v2]⟩,⟨some b1,1,113,4,1,(aD.enc a0)⟩]++iD cQ 44 [(none,0,0)] [([]:List Rat)])),(6,fun G7=>([⟨some ((G7 6).1.getD 0),1,62,1,1,[pS (xC cQ) ([]:List (List Rat))]⟩,hO cQ ((G7 5).1) x13.length 44 x13.length x13,⟨some b4,1,114,1,1,[pS aC.cod v2]⟩,⟨some b1,1,113,4,1,(aD.enc a0)⟩]++iD cQ 44 [(none,0,0)] [([]:List Rat)])),(7,fun G7=>([⟨some ((G7 6).1.getD 0),1,62,1,1,[pS (xC cQ) ([]:List (List Rat))]⟩,hO cQ ((G7 5).1) x13.length 44 x13.length x13,hO (cH [(none,0,0)]) ((G7 2).1) x10.length 24 x10.length x10,⟨some b4,1,114,1,1,[pS aC.cod v2]⟩,⟨some b1,1,113,4,1,(aD.enc a0)⟩]++iD cQ 44 [(none,0,0)] [([]:List Rat)])),(8,fun G7=>([⟨some ((G7 7).1.getD 0),1,24,1,1,[pS cQ ([]:List Rat)]⟩,⟨some b4,1,114,1,1,[pS aC.cod v2]⟩,⟨some b1,1,113,4,1,(aD.enc a0)⟩]++iD cQ 44 [(none,0,0)] [([]:List Rat)])),(9,fun G7=>([⟨some ((G7 7).1.getD 0),1,24,1,1,[pS cQ ([]:List Rat)]⟩,hO (cH [(none,0,0)]) ((G7 2).1) x10.length 24 x10.length x10,⟨some b4,1,114,1,1,[pS aC.cod v2]⟩,⟨some b1,1,113,4,1,(aD.enc a0)⟩]++iD cQ 44 [(none,0,0)] [([]:List Rat)])),(10,fun G7=>([⟨some ((G7 7).1.getD 0),1,24,1,1,[pS cQ ([]:List Rat)]⟩,hO cQ ((G7 5).1) x13.length 44 x13.length x13,⟨some b4,1,114,1,1,[pS aC.cod v2]⟩,⟨some b1,1,113,4,1,(aD.enc a0)⟩]++iD cQ 44 [(none,0,0)] [([]:List Rat)])),(11,fun G7=>([⟨some ((G7 7).1.getD 0),1,24,1,1,[pS cQ ([]:List Rat)]⟩,hO cQ ((G7 5).1) x13.length 44 x13.length x13,hO (cH [(none,0,0)]) ((G7 2).1) x10.length 24 x10.length x10,⟨some b4,1,114,1,1,[pS aC.cod v2]⟩,⟨some b1,1,113,4,1,(aD.enc a0)⟩]++iD cQ 44 [(none,0,0)] [([]:List Rat)])),(12,fun G7=>([⟨some ((G7 7).1.getD 0),1,24,1,1,[pS cQ ([]:List Rat)]⟩,⟨some ((G7 6).1.getD 0),1,62,1,1,[pS (xC cQ) ([]:List (List Rat))]⟩,⟨some b4,1,114,1,1,[pS aC.cod v2]⟩,⟨some b1,1,113,4,1,(aD.enc a0)⟩]++iD cQ 44 [(none,0,0)] [([]:List Rat)])),(13,fun G7=>([⟨some ((G7 7).1.getD 0),1,24,1,1,[pS cQ ([]:List Rat)]⟩,⟨some ((G7 6).1.getD 0),1,62,1,1,[pS (xC cQ) ([]:List (List Rat))]⟩,hO (cH [(none,0,0)]) ((G7 2).1) x10.length 24 x10.length x10,⟨some b4,1,114,1,1,[pS aC.cod v2]⟩,⟨some b1,1,113,4,1,(aD.enc a0)⟩]++iD cQ 44 [(none,0,0)] [([]:List Rat)])),(14,fun G7=>([⟨some ((G7 7).1.getD 0),1,24,1,1,[pS cQ ([]:List Rat)]⟩,⟨some ((G7 6).1.getD 0),1,62,1,1,[pS (xC cQ) ([]:List (List Rat))]⟩,hO cQ ((G7 5).1) x13.length 44 x13.length x13,⟨some b4,1,114,1,1,[pS aC.cod v2]⟩,⟨some b1,1,113,4,1,(aD.enc a0)⟩]++iD cQ 44 [(none,0,0)] [([]:List Rat)])),(15,fun G7=>([⟨some ((G7 7).1.getD 0),1,24,1,1,[pS cQ ([]:List Rat)]⟩,⟨some ((G7 6).1.getD 0),1,62,1,1,[pS (xC cQ) ([]:List (List Rat))]⟩,hO cQ ((G7 5).1) x13.length 44 x13.length x13,hO (cH [(none,0,0)]) ((G7 2).1) x10.length 24 x10.length x10,⟨some b4,1,114,1,1,[pS aC.cod v2]⟩,⟨some b1,1,113,4,1,(aD.enc a0)⟩]++iD cQ 44 [(none,0,0)] [([]:List Rat)])),(29,fun G7=>([⟨some ((G7 7).1.getD 0),1,24,1,1,[pS cQ ([]:List Rat)]⟩,⟨some ((G7 6).1.getD 0),1,62,1,1,[pO ((G7 2).1) x10.length x10.length]⟩,hO (cH [(none,0,0)]) ((G7 2).1) x10.length 24 x10.length x10,⟨some b4,1,114,1,1,[pS aC.cod v2]⟩,⟨some b1,1,113,4,1,(aD.enc a0)⟩]++iD cQ 44 [(none,0,0)] [([]:List Rat)])),(31,fun G7=>([⟨some ((G7 7).1.getD 0),1,24,1,1,[pS cQ ([]:List Rat)]⟩,⟨some ((G7 6).1.getD 0),1,62,1,1,[pO ((G7 2).1) x10.length x10.length]⟩,hO cQ ((G7 5).1) x13.length 44 x13.length x13,hO (cH [(none,0,0)]) ((G7 2).1) x10.length 24 x10.length x10,⟨some b4,1,114,1,1,[pS aC.cod v2]⟩,⟨some b1,1,113,4,1,(aD.enc a0)⟩]++iD cQ 44 [(none,0,0)] [([]:List Rat)]))]) [2,5,6,7,8] [0,1,3,0,8,24,0,0,199,511] 9 1 [.v (.vc (pS aC.cod v2)),.v (.vc (pI .i64 (v2.length:Int))),.g (fun b _=>.vc (pO b x10.length x10.length)),.v (.vc (pS aC.cod v2)),.v (.vc (pI .i64 (v2.length:Int))),.g (fun b _=>.vc (pO b x13.length x13.length)),.g (fun b _=>.vc (pP (some (b.getD 0)) 0)),.g (fun b _=>.vc (pP (some (b.getD 0)) 0)),.g (fun _ _=>.any)] bK ⟨⟨rfl,.run (L:=[0,2,4,6,8,10,12,14]) ⟨fun G7 A=>gF 0 1 rfl rfl rfl rfl (.one tyO114),fun G7 A=>gF 1 1 rfl rfl rfl rfl (.one tyO114),fun G7 A=>gF 1 1 rfl rfl rfl rfl (.one tyO114),fun G7 A=>gF 2 1 rfl rfl rfl rfl (.one tyO114),fun G7 A=>gF 1 1 rfl rfl rfl rfl (.one tyO114),fun G7 A=>gF 2 1 rfl rfl rfl rfl (.one tyO114),fun G7 A=>gF 2 1 rfl rfl rfl rfl (.one tyO114),fun G7 A=>gF 3 1 rfl rfl rfl rfl (.one tyO114),trivial⟩ (fun G7=>zU1)⟩,⟨rfl,.run (L:=[0,2,4,6,8,10,12,14]) ⟨fun G7 A=>uN rfl tyS114,fun G7 A=>uN rfl tyS114,fun G7 A=>uN rfl tyS114,fun G7 A=>uN rfl tyS114,fun G7 A=>uN rfl tyS114,fun G7 A=>uN rfl tyS114,fun G7 A=>uN rfl tyS114,fun G7 A=>uN rfl tyS114,trivial⟩ (fun G7=>zU1)⟩,⟨rfl,.hvy [0,2,4,6,8,10,12,14] ⟨fun G7 A=>hY (C:=cH [(none,0,0)]) (z:=0) rfl tyS62 rfl tyZ24_oq h11,fun G7 A=>rJ (R:=iD cQ 44 [(none,0,0)] [([]:List Rat)]) [1,0,2,3] (hY (C:=cH [(none,0,0)]) (z:=0) rfl tyS62 rfl tyZ24_oq h11) (fun b_ c_=>⟨[hO (cH [(none,0,0)]) (b_) x10.length 24 x10.length x10,hO cQ ((G7 5).1) x13.length 44 x13.length x13,⟨some b4,1,114,1,1,[pS aC.cod v2]⟩,⟨some b1,1,113,4,1,(aD.enc a0)⟩],_,rfl,rfl,rfl⟩),fun G7 A=>rJ (R:=iD cQ 44 [(none,0,0)] [([]:List Rat)]) [1,0,2,3] (hY (C:=cH [(none,0,0)]) (z:=0) rfl tyS62 rfl tyZ24_oq h11) (fun b_ c_=>⟨[hO (cH [(none,0,0)]) (b_) x10.length 24 x10.length x10,⟨some ((G7 6).1.getD 0),1,62,1,1,[pS (xC cQ) ([]:List (List Rat))]⟩,⟨some b4,1,114,1,1,[pS aC.cod v2]⟩,⟨some b1,1,113,4,1,(aD.enc a0)⟩],_,rfl,rfl,rfl⟩),fun G7 A=>rJ (R:=iD cQ 44 [(none,0,0)] [([]:List Rat)]) [1,2,0,3,4] (hY (C:=cH [(none,0,0)]) (z:=0) rfl tyS62 rfl tyZ24_oq h11) (fun b_ c_=>⟨[hO (cH [(none,0,0)]) (b_) x10.length 24 x10.length x10,⟨some ((G7 6).1.getD 0),1,62,1,1,[pS (xC cQ) ([]:List (List Rat))]⟩,hO cQ ((G7 5).1) x13.length 44 x13.length x13,⟨some b4,1,114,1,1,[pS aC.cod v2]⟩,⟨some b1,1,113,4,1,(aD.enc a0)⟩],_,rfl,rfl,rfl⟩),fun G7 A=>rJ (R:=iD cQ 44 [(none,0,0)] [([]:List Rat)]) [1,0,2,3] (hY (C:=cH [(none,0,0)]) (z:=0) rfl tyS62 rfl tyZ24_oq h11) (fun b_ c_=>⟨[hO (cH [(none,0,0)]) (b_) x10.length 24 x10.length x10,⟨some ((G7 7).1.getD 0),1,24,1,1,[pS cQ ([]:List Rat)]⟩,⟨some b4,1,114,1,1,[pS aC.cod v2]⟩,⟨some b1,1,113,4,1,(aD.enc a0)⟩],_,rfl,rfl,rfl⟩),fun G7 A=>rJ (R:=iD cQ 44 [(none,0,0)] [([]:List Rat)]) [1,2,0,3,4] (hY (C:=cH [(none,0,0)]) (z:=0) rfl tyS62 rfl tyZ24_oq h11) (fun b_ c_=>⟨[hO (cH [(none,0,0)]) (b_) x10.length 24 x10.length x10,⟨some ((G7 7).1.getD 0),1,24,1,1,[pS cQ ([]:List Rat)]⟩,hO cQ ((G7 5).1) x13.length 44 x13.length x13,⟨some b4,1,114,1,1,[pS aC.cod v2]⟩,⟨some b1,1,113,4,1,(aD.enc a0)⟩],_,rfl,rfl,rfl⟩),fun G7 A=>rJ (R:=iD cQ 44 [(none,0,0)] [([]:List Rat)]) [1,2,0,3,4] (hY (C:=cH [(none,0,0)]) (z:=0) rfl tyS62 rfl tyZ24_oq h11) (fun b_ c_=>⟨[hO (cH [(none,0,0)]) (b_) x10.length 24 x10.length x10,⟨some ((G7 7).1.getD 0),1,24,1,1,[pS cQ ([]:List Rat)]⟩,⟨some ((G7 6).1.getD 0),1,62,1,1,[pS (xC cQ) ([]:List (List Rat))]⟩,⟨some b4,1,114,1,1,[pS aC.cod v2]⟩,⟨some b1,1,113,4,1,(aD.enc a0)⟩],_,rfl,rfl,rfl⟩),fun G7 A=>rJ (R:=iD cQ 44 [(none,0,0)] [([]:List Rat)]) [1,2,3,0,4,5] (hY (C:=cH [(none,0,0)]) (z:=0) rfl tyS62 rfl tyZ24_oq h11) (fun b_ c_=>⟨[hO (cH [(none,0,0)]) (b_) x10.length 24 x10.length x10,⟨some ((G7 7).1.getD 0),1,24,1,1,[pS cQ ([]:List Rat)]⟩,⟨some ((G7 6).1.getD 0),1,62,1,1,[pS (xC cQ) ([]:List (List Rat))]⟩,hO cQ ((G7 5).1) x13.length 44 x13.length x13,⟨some b4,1,114,1,1,[pS aC.cod v2]⟩,⟨some b1,1,113,4,1,(aD.enc a0)⟩],_,rfl,rfl,rfl⟩),trivial⟩ (fun G7=>zU1)⟩,⟨rfl,.run (L:=[0,1,4,5,8,9,12,13,29]) ⟨fun G7 A=>gF 0 1 rfl rfl rfl rfl (.one tyO114),fun G7 A=>gF 1 1 rfl rfl rfl rfl (.one tyO114),fun G7 A=>gF 1 1 rfl rfl rfl rfl (.one tyO114),fun G7 A=>gF 2 1 rfl rfl rfl rfl (.one tyO114),fun G7 A=>gF 1 1 rfl rfl rfl rfl (.one tyO114),fun G7 A=>gF 2 1 rfl rfl rfl rfl (.one tyO114),fun G7 A=>gF 2 1 rfl rfl rfl rfl (.one tyO114),fun G7 A=>gF 3 1 rfl rfl rfl rfl (.one tyO114),fun G7 A=>gF 3 1 rfl rfl rfl rfl (.one tyO114),trivial⟩ (fun G7=>zU1)⟩,⟨rfl,.run (L:=[0,1,4,5,8,9,12,13,29]) ⟨fun G7 A=>uN rfl tyS114,fun G7 A=>uN rfl tyS114,fun G7 A=>uN rfl tyS114,fun G7 A=>uN rfl tyS114,fun G7 A=>uN rfl tyS114,fun G7 A=>uN rfl tyS114,fun G7 A=>uN rfl tyS114,fun G7 A=>uN rfl tyS114,fun G7 A=>uN rfl tyS114,trivial⟩ (fun G7=>zU1)⟩,⟨rfl,.hvy [0,1,4,5,8,9,12,13,29] ⟨fun G7 A=>hY (C:=cQ) rfl tyS24 rfl tyZ44q h14,fun G7 A=>hY (C:=cQ) rfl tyS24 rfl tyZ44q h14,fun G7 A=>rJ (R:=iD cQ 44 [(none,0,0)] [([]:List Rat)]) [1,0,2,3] (hY (C:=cQ) rfl tyS24 rfl tyZ44q h14) (fun b_ c_=>⟨[hO cQ (b_) x13.length 44 x13.length x13,⟨some ((G7 6).1.getD 0),1,62,1,1,[pS (xC cQ) ([]:List (List Rat))]⟩,⟨some b4,1,114,1,1,[pS aC.cod v2]⟩,⟨some b1,1,113,4,1,(aD.enc a0)⟩],_,rfl,rfl,rfl⟩),fun G7 A=>rJ (R:=iD cQ 44 [(none,0,0)] [([]:List Rat)]) [1,0,2,3,4] (hY (C:=cQ) rfl tyS24 rfl tyZ44q h14) (fun b_ c_=>⟨[hO cQ (b_) x13.length 44 x13.length x13,⟨some ((G7 6).1.getD 0),1,62,1,1,[pS (xC cQ) ([]:List (List Rat))]⟩,hO (cH [(none,0,0)]) ((G7 2).1) x10.length 24 x10.length x10,⟨some b4,1,114,1,1,[pS aC.cod v2]⟩,⟨some b1,1,113,4,1,(aD.enc a0)⟩],_,rfl,rfl,rfl⟩),fun G7 A=>rJ (R:=iD cQ 44 [(none,0,0)] [([]:List Rat)]) [1,0,2,3] (hY (C:=cQ) rfl tyS24 rfl tyZ44q h14) (fun b_ c_=>⟨[hO cQ (b_) x13.length 44 x13.length x13,⟨some ((G7 7).1.getD 0),1,24,1,1,[pS cQ ([]:List Rat)]⟩,⟨some b4,1,114,1,1,[pS aC.cod v2]⟩,⟨some b1,1,113,4,1,(aD.enc a0)⟩],_,rfl,rfl,rfl⟩),fun G7 A=>rJ (R:=iD cQ 44 [(none,0,0)] [([]:List Rat)]) [1,0,2,3,4] (hY (C:=cQ) rfl tyS24 rfl tyZ44q h14) (fun b_ c_=>⟨[hO cQ (b_) x13.length 44 x13.length x13,⟨some ((G7 7).1.getD 0),1,24,1,1,[pS cQ ([]:List Rat)]⟩,hO (cH [(none,0,0)]) ((G7 2).1) x10.length 24 x10.length x10,⟨some b4,1,114,1,1,[pS aC.cod v2]⟩,⟨some b1,1,113,4,1,(aD.enc a0)⟩],_,rfl,rfl,rfl⟩),fun G7 A=>rJ (R:=iD cQ 44 [(none,0,0)] [([]:List Rat)]) [1,2,0,3,4] (hY (C:=cQ) rfl tyS24 rfl tyZ44q h14) (fun b_ c_=>⟨[hO cQ (b_) x13.length 44 x13.length x13,⟨some ((G7 7).1.getD 0),1,24,1,1,[pS cQ ([]:List Rat)]⟩,⟨some ((G7 6).1.getD 0),1,62,1,1,[pS (xC cQ) ([]:List (List Rat))]⟩,⟨some b4,1,114,1,1,[pS aC.cod v2]⟩,⟨some b1,1,113,4,1,(aD.enc a0)⟩],_,rfl,rfl,rfl⟩),fun G7 A=>rJ (R:=iD cQ 44 [(none,0,0)] [([]:List Rat)]) [1,2,0,3,4,5] (hY (C:=cQ) rfl tyS24 rfl tyZ44q h14) (fun b_ c_=>⟨[hO cQ (b_) x13.length 44 x13.length x13,⟨some ((G7 7).1.getD 0),1,24,1,1,[pS cQ ([]:List Rat)]⟩,⟨some ((G7 6).1.getD 0),1,62,1,1,[pS (xC cQ) ([]:List (List Rat))]⟩,hO (cH [(none,0,0)]) ((G7 2).1) x10.length 24 x10.length x10,⟨some b4,1,114,1,1,[pS aC.cod v2]⟩,⟨some b1,1,113,4,1,(aD.enc a0)⟩],_,rfl,rfl,rfl⟩),fun G7 A=>rJ (R:=iD cQ 44 [(none,0,0)] [([]:List Rat)]) [1,2,0,3,4,5] (hY (C:=cQ) rfl tyS24 rfl tyZ44q h14) (fun b_ c_=>⟨[hO cQ (b_) x13.length 44 x13.length x13,⟨some ((G7 7).1.getD 0),1,24,1,1,[pS cQ ([]:List Rat)]⟩,⟨some ((G7 6).1.getD 0),1,62,1,1,[pO ((G7 2).1) x10.length x10.length]⟩,hO (cH [(none,0,0)]) ((G7 2).1) x10.length 24 x10.length x10,⟨some b4,1,114,1,1,[pS aC.cod v2]⟩,⟨some b1,1,113,4,1,(aD.enc a0)⟩],_,rfl,rfl,rfl⟩),trivial⟩ (fun G7=>zU1)⟩,⟨rfl,.hvy (ins:=fun _=>[]) [0,1,2,3,8,9,10,11] ⟨fun G7 A=>nO (T:=62) (zs:=[pS (xC cQ) ([]:List (List Rat))]) rfl tyZ62q,fun G7 A=>nO (T:=62) (zs:=[pS (xC cQ) ([]:List (List Rat))]) rfl tyZ62q,fun G7 A=>nO (T:=62) (zs:=[pS (xC cQ) ([]:List (List Rat))]) rfl tyZ62q,fun G7 A=>nO (T:=62) (zs:=[pS (xC cQ) ([]:List (List Rat))]) rfl tyZ62q,fun G7 A=>rJ (R:=iD cQ 44 [(none,0,0)] [([]:List Rat)]) [1,0,2,3] (nO (T:=62) (zs:=[pS (xC cQ) ([]:List (List Rat))]) rfl tyZ62q) (fun b_ c_=>⟨[⟨some (b_.getD 0),1,62,1,1,[pS (xC cQ) ([]:List (List Rat))]⟩,⟨some ((G7 7).1.getD 0),1,24,1,1,[pS cQ ([]:List Rat)]⟩,⟨some b4,1,114,1,1,[pS aC.cod v2]⟩,⟨some b1,1,113,4,1,(aD.enc a0)⟩],_,rfl,rfl,rfl⟩),fun G7 A=>rJ (R:=iD cQ 44 [(none,0,0)] [([]:List Rat)]) [1,0,2,3,4] (nO (T:=62) (zs:=[pS (xC cQ) ([]:List (List Rat))]) rfl tyZ62q) (fun b_ c_=>⟨[⟨some (b_.getD 0),1,62,1,1,[pS (xC cQ) ([]:List (List Rat))]⟩,⟨some ((G7 7).1.getD 0),1,24,1,1,[pS cQ ([]:List Rat)]⟩,hO (cH [(none,0,0)]) ((G7 2).1) x10.length 24 x10.length x10,⟨some b4,1,114,1,1,[pS aC.cod v2]⟩,⟨some b1,1,113,4,1,(aD.enc a0)⟩],_,rfl,rfl,rfl⟩),fun G7 A=>rJ (R:=iD cQ 44 [(none,0,0)] [([]:List Rat)]) [1,0,2,3,4] (nO (T:=62) (zs:=[pS (xC cQ) ([]:List (List Rat))]) rfl tyZ62q) (fun b_ c_=>⟨[⟨some (b_.getD 0),1,62,1,1,[pS (xC cQ) ([]:List (List Rat))]⟩,⟨some ((G7 7).1.getD 0),1,24,1,1,[pS cQ ([]:List Rat)]⟩,hO cQ ((G7 5).1) x13.length 44 x13.length x13,⟨some b4,1,114,1,1,[pS aC.cod v2]⟩,⟨some b1,1,113,4,1,(aD.enc a0)⟩],_,rfl,rfl,rfl⟩),fun G7 A=>rJ (R:=iD cQ 44 [(none,0,0)] [([]:List Rat)]) [1,0,2,3,4,5] (nO (T:=62) (zs:=[pS (xC cQ) ([]:List (List Rat))]) rfl tyZ62q) (fun b_ c_=>⟨[⟨some (b_.getD 0),1,62,1,1,[pS (xC cQ) ([]:List (List Rat))]⟩,⟨some ((G7 7).1.getD 0),1,24,1,1,[pS cQ ([]:List Rat)]⟩,hO cQ ((G7 5).1) x13.length 44 x13.length x13,hO (cH [(none,0,0)]) ((G7 2).1) x10.length 24 x10.length x10,⟨some b4,1,114,1,1,[pS aC.cod v2]⟩,⟨some b1,1,113,4,1,(aD.enc a0)⟩],_,rfl,rfl,rfl⟩),trivial⟩ (fun G7=>trivial)⟩,⟨rfl,.hvy (ins:=fun _=>[]) [0,1,2,3,4,5,6,7] ⟨fun G7 A=>nO (T:=24) (zs:=[pS cQ ([]:List Rat)]) rfl tyZ24q,fun G7 A=>nO (T:=24) (zs:=[pS cQ ([]:List Rat)]) rfl tyZ24q,fun G7 A=>nO (T:=24) (zs:=[pS cQ ([]:List Rat)]) rfl tyZ24q,fun G7 A=>nO (T:=24) (zs:=[pS cQ ([]:List Rat)]) rfl tyZ24q,fun G7 A=>nO (T:=24) (zs:=[pS cQ ([]:List Rat)]) rfl tyZ24q,fun G7 A=>nO (T:=24) (zs:=[pS cQ ([]:List Rat)]) rfl tyZ24q,fun G7 A=>nO (T:=24) (zs:=[pS cQ ([]:List Rat)]) rfl tyZ24q,fun G7 A=>nO (T:=24) (zs:=[pS cQ ([]:List Rat)]) rfl tyZ24q,trivial⟩ (fun G7=>trivial)⟩,⟨rfl,.hvy [13,15] ⟨fun G7 A=>aQ6 (t_s 1 rfl rfl rfl tyO62.s),fun G7 A=>aQ6 (t_s 1 rfl rfl rfl tyO62.s),trivial⟩ (fun G7=>zU2)⟩,trivial⟩ (fun bs8 G7=>?_)
 refine go ?_ ?_
 refine aV (cJ (fun H E=>∃(x77:List Nat),∃(x83:List (List Rat)),∃(b78:Option Nat),∃(c79:Nat),∃(n80:Nat),∃(g84:List wM),∃(N85:Nat),lS K a0 v2 x13 x77 x83=some r∧x77.length=n80∧x83.length=N85∧lR g84 x83∧(∀k∈x77,k<N85)∧H=([⟨some ((G7 7).1.getD 0),1,24,1,1,[pO ((G7 5).1) x13.length x13.length]⟩,⟨some ((G7 6).1.getD 0),1,62,1,1,[pO b78 n80 c79]⟩,hO cQ ((G7 5).1) x13.length 44 x13.length x13,hO (cH g84) b78 c79 24 n80 x77,⟨some b4,1,114,1,1,[pS aC.cod v2]⟩,⟨some b1,1,113,4,1,(aD.enc a0)⟩]++iD cQ 44 g84 x83)∧E=[(1,.vc (pP (some b1) 0)),(4,.vc (pP (some b4) 0)),(5,.vc (pF 156 [pP (some b4) 0,pP (some b1) 0])),(6,.vc (pP (some ((G7 6).1.getD 0)) 0)),(7,.vc (pP (some ((G7 7).1.getD 0)) 0))]) ?_ (fun Jj90=>?_))
 ·rintro _ _ ⟨x77,x83,b78,c79,n80,g84,N85,hF,q81,q86,q87,q88,rfl,rfl⟩
  unfold lS at hF
  obtain⟨x91,h92,hF⟩:=a9 hF
  refine go ?_ ?_
  refine uY (C:=aF.cod) (z:=(⟨0,0⟩:aF)) rfl tyS29 rfl tyZ58q rfl h92 (fun b93=>?_)
  refine wX ?_
  refine bQ (aS (aM (aX (mF ?_))))
  refine aR (gF 6 4 rfl rfl rfl rfl (.agg tyA113)) zU1 ?_
  refine aR (oK (off:=0) (k:=1) rfl tyF113_1) zU1 ?_
  refine aR (gF 6 1 rfl rfl rfl rfl (.one tyO24)) zU1 ?_
  refine mF ?_
  refine aAZ 0 [9,39,44] rfl rfl ⟨rfl,rfl,rfl,trivial⟩ rfl ?_
  obtain⟨v96,h97,hF⟩:=bD hF cR
  refine aR (bS rfl h97 rfl) ⟨rfl,rfl,rfl,trivial⟩ ?_
  refine aR (aFU (xs:=[.tmp 7]) (cs:=[pP (some ((G7 7).1.getD 0)) 0]) rfl rfl) zU1 ?_
  obtain⟨v98,h99,hF⟩:=a9 hF
  refine aLk (f:=156) (cs:=[pP (some b4) 0,pP (some b1) 0]) (pre:=[.vc (pS cQ v96),.vc (pF 157 [pP (some ((G7 7).1.getD 0)) 0])]) (xs:=[.tmp 45,.tmp 46]) 6 [0,4,5,2] [1,3] rfl (wW h99 rfl) ⟨rfl,rfl,rfl,trivial⟩ rfl rfl rfl (by decide) ?_
  rintro _ _ ⟨b100,c101,n102,q103,rfl,rfl⟩
  obtain⟨v105,h106,hF⟩:=bD hF zB
  refine go ?_ ?_
  refine aN rfl tyZ44q (fun b107=>?_)
  refine go ?_ ?_
  refine aV (cJ (fun H E=>∃(x134:List Nat),∃(x140:List (List Rat)),∃(b135:Option Nat),∃(c136:Nat),∃(n137:Nat),∃(g141:List wM),∃(N142:Nat),k7 K v98 x134 x140=some r∧x134.length=n137∧x140.length=N142∧lR g141 x140∧(∀k∈x134,k<N142)∧H=([⟨some ((G7 7).1.getD 0),1,24,1,1,[pO b100 n102 c101]⟩,hO cQ b100 c101 44 n102 v98,⟨some ((G7 6).1.getD 0),1,62,1,1,[pO b135 n137 c136]⟩,hO (cH g141) b135 c136 24 n137 x134]++iD cQ 44 g141 x140)∧E=[(6,.vc (pP (some ((G7 6).1.getD 0)) 0)),(7,.vc (pP (some ((G7 7).1.getD 0)) 0))]) ?_ (fun Jj147=>?_))
  ·rintro _ _ ⟨x134,x140,b135,c136,n137,g141,N142,hF,q138,q143,q144,q145,rfl,rfl⟩
   unfold k7 at hF
   refine aS (aM (dr [0,0,1,7] 4 0 ?_ (fun bs149 G148=>?_)))
   refine bQ (aS (sP (sS (aSA 3 4 rfl rfl q144 (aGp q143 q145) ?_))))
   refine yF 3 [2,180] rfl ((aLs _ _).trans q138) zU2 rfl ?_
   refine yF 1 [3,181] rfl q103 zU2 rfl ?_
   obtain rfl:=qN hF
   exact s7 (.inl rfl) Tryz.results71 (.tmp rfl (.tmp rfl .nil)) rfl rfl
  obtain⟨⟨x134',x140'⟩,hL,hRl146⟩:=a9 hF
  refine iT (fun k a w=>∃(x121:List Nat),∃(x127:List (List Rat)),∃(x133:Int),∃(b122:Option Nat),∃(c123:Nat),∃(n124:Nat),∃(g128:List wM),∃(N129:Nat),aY K a0 v2 x91 v105 k x121 x127 x133=some (x134',x140')∧x121.length=n124∧x127.length=N129∧lR g128 x127∧(∀k∈x121,k<N129)∧hs _ ([⟨some b107,1,44,4,1,(eQ v105)⟩,⟨some ((G7 7).1.getD 0),1,24,1,1,[pO b100 n102 c101]⟩,⟨some b4,1,114,1,1,[pS aC.cod v2]⟩,⟨some b1,1,113,4,1,(aD.enc a0)⟩,hO cQ b100 c101 44 n102 v98,⟨some ((G7 6).1.getD 0),1,62,1,1,[pO b122 n124 c123]⟩,hO (cH g128) b122 c123 24 n124 x121]++iD cQ 44 g128 x127) [(1,.vc (pP (some b1) 0)),(4,.vc (pP (some b4) 0)),(5,.vc (pF 156 [pP (some b4) 0,pP (some b1) 0])),(6,.vc (pP (some ((G7 6).1.getD 0)) 0)),(7,.vc (pP (some ((G7 7).1.getD 0)) 0)),(9,.vc (pS aF.cod x91)),(10,.vc (pP (some b107) 0)),(49,.vc (pS aC.cod v2)),(50,.vc (pI .i64 (v2.length:Int))),(51,.vc (pI .i64 x133))] a w) K (fun a w ⟨_,_,_,_,_,_,_,_,hF,_,_,_,_,_⟩=>by cases hF) (fun k a w ⟨x121,x127,x133,b122,c123,n124,g128,N129,hF,q125,q130,q131,q132,hh⟩=>iS ?_ hh) (fun a w hh=>⟨x77,x83,0,b78,c79,n80,g84,N85,hL,q81,q86,q87,q88,cM 7 [0,1,2,3,4,5,6] rfl rfl (by decide) (by exact⟨rfl,rfl,rfl,rfl,rfl,rfl,rfl,rfl,rfl,rfl,trivial⟩) hh⟩)
  rw [aY.eq_2] at hF
  refine go ?_ ?_
  refine aJ hF rfl (fun h151 hF=>?_) (fun h151 hF=>?_)
  ·refine go ?_ ?_
   refine aV ?_
   obtain⟨v152,h153,hF⟩:=a9 hF
   refine go ?_ ?_
   refine aN rfl tyZ3q (fun b154=>?_)
   refine aN rfl tyZ118q (fun b155=>?_)
   obtain⟨v156,h157,hF⟩:=a9 hF
   refine go ?_ ?_
   refine aN7 rfl (aAv h157) zU1 ?_
   rintro _ _ ⟨b159,c160,n161,q162,rfl,rfl⟩
   obtain⟨v164,h165,hF⟩:=a9 hF
   refine go ?_ ?_
   refine aN rfl tyZ51q (fun b166=>?_)
   refine go ?_ ?_
   refine aV (go ?_ ?_)
   refine aJ hF rfl (fun h167 hF=>?_) (fun h167 hF=>?_)
   ·refine aM (aX (mF ?_))
    refine aR (oK (off:=0) (k:=0) rfl tyF118_0) zU1 ?_
    refine aR (gF 2 1 rfl rfl rfl rfl (.one tyO3)) zU1 ?_
    refine aR (gF 4 4 rfl rfl rfl rfl (.agg tyA44)) zU1 ?_
    obtain⟨v168,h169,hF⟩:=a9 hF
    refine aR (l9 (C:=aF.cod) 1 rfl tyS29 rfl q162 (aU h169).1 (aU h169).2.1) zU2 ?_
    refine aR (aM8 (off:=0) (k:=0) rfl tyF58_0) zU1 ?_
    obtain⟨x170,h171,hF⟩:=a9 hF
    refine oS (xT 1 rfl rfl h169 h171 tyA44.s) zU2 ?_
    refine bQ (aS (aM (uM (fun H E=>∃(x174:List aF),dR K a0 v2 x121 x127 x133 v152 v164 (aY K a0 v2 x91 v105 k) x174=some (x134',x140')∧x174.length=n161∧H=([⟨some b166,1,51,18,1,(aA.enc v164)⟩,hO aF.cod b159 c160 58 n161 x174,⟨some b155,1,118,2,1,(aC.enc v152)⟩,⟨some b154,1,3,1,1,[pI .i64 x133]⟩,⟨some b107,1,44,4,1,(eQ v105)⟩,⟨some ((G7 7).1.getD 0),1,24,1,1,[pO b100 n102 c101]⟩,⟨some b4,1,114,1,1,[pS aC.cod v2]⟩,⟨some b1,1,113,4,1,(aD.enc a0)⟩,hO cQ b100 c101 44 n102 v98,⟨some ((G7 6).1.getD 0),1,62,1,1,[pO b122 n124 c123]⟩,hO (cH g128) b122 c123 24 n124 x121]++iD cQ 44 g128 x127)∧E=[(1,.vc (pP (some b1) 0)),(4,.vc (pP (some b4) 0)),(5,.vc (pF 156 [pP (some b4) 0,pP (some b1) 0])),(6,.vc (pP (some ((G7 6).1.getD 0)) 0)),(7,.vc (pP (some ((G7 7).1.getD 0)) 0)),(9,.vc (pS aF.cod x91)),(10,.vc (pP (some b107) 0)),(11,.vc (pP (some b154) 0)),(12,.vc (pP (some b155) 0)),(13,.vc (pO b159 n161 c160)),(14,.vc (pP (some b166) 0)),(49,.vc (pS aC.cod v2)),(50,.vc (pI .i64 (v2.length:Int))),(51,.vc (pI .i64 x133))]) ?_ (fun Jj180=>?_))))
    ·rintro _ _ ⟨x174,hF,q178,rfl,rfl⟩
     unfold dR at hF
     refine aM ?_
     obtain⟨v183,h184,hF⟩:=a9 hF
     rcases Bool.eq_false_or_eq_true (decide (v183<(v2.length:Int))) with h185|h185
     ·have hF:=vZ h185 hF
      have hF:=tC h184 hF
      obtain⟨v188,h189,hF⟩:=a9 hF
      refine kG [0,1,0,4,15,31,63,63,191,511,1023,63,2111,6207,16383,32767] 16 0 [.v (.vc (pI .i64 x133)),.v (.vc (pI .i64 v183)),.v (.vc (pS aC.cod v2)),.v (.vc (pI .i64 (v2.length:Int))),.v (.vc (pB (decide (v183<(v2.length:Int))))),.v (.vc (pB true)),.v (.vc (pS aC.cod v2)),.v (.vc (pI .i64 x133)),.v (.vc (pI .i64 v183)),.v (.vc (pM (aC.cod.e v188))),.v (.va (aC.enc v188)),.v (.vc (pP (some b155) 0)),.v (.vc (pI .i64 v152.row)),.v (.va ([pI .i64 v152.row]++[pI .i64 3])),.v (.vc (pB (v188.row==v152.row&&v188.kind==3))),.v (.vc (pB (v188.row==v152.row&&v188.kind==3)))] bK ⟨d0 (gF 3 1 rfl rfl rfl rfl (.one tyO3)) zU1,d0 (w6 rfl h184) ⟨rfl,kL _ _,trivial⟩,d0 (gF 6 1 rfl rfl rfl rfl (.one tyO114)) zU1,d0 (uN rfl tyS114) zU1,d0 (aKU rfl) zU2,d0 (kW (bW (.inl rfl)) h185) zU1,g0 (gF 6 1 rfl rfl rfl rfl (.one tyO114)) zU1,g0 (gF 3 1 rfl rfl rfl rfl (.one tyO3)) zU1,g0 (w6 rfl h184) ⟨rfl,kL _ _,trivial⟩,g0 (aLY rfl tyS114 h189) zU2,g0 (aGw 2 rfl rfl (.agg tyA118)) zU1,g0 (oK (off:=0) (k:=0) rfl tyF118_0) zU1,g0 (gF 2 1 rfl rfl rfl rfl (.one tyO3)) zU1,g0 (fC (is:=[0,1]) (xs:=[.tmp 99,.const (.int .i64 (3))]) (ps:=[.vc (pI .i64 v152.row),.vc (pI .i64 3)]) rfl tyB118q rfl rfl ⟨trivial,trivial,trivial⟩ rfl) ⟨rfl,kL _ _,trivial⟩,g0 (aRc rfl tyQ118) zU2,d0 (wO rfl) zU2,trivial⟩ (fun bs182 G181=>?_)
      refine bQ (aS (aJ hF rfl (fun h190 hF=>?_) (fun h190 hF=>?_)))
      ·have hF:=tC h184 hF
       obtain⟨v195,h196,hF⟩:=a9 hF
       obtain⟨v197,h198,hF⟩:=a9 hF
       refine kG [0,0,2,7,15,0,0,64,255,511] 9 1 [.v (.vc (pO b122 n124 c123)),.v (.vc (pI .i64 x133)),.v (.vc (pI .i64 v183)),.v (.vc (pE b122 v183 (cH g128).n 0)),.v (.vc (pO (jL g128 v195).1 (jL g128 v195).2.1 (jL g128 v195).2.2)),.v (.vc (pI .i64 x133)),.v (.vc (pP (some b166) 10)),.v (.va (eQ v164.mu)),.v (.vc (pE (jL g128 v195).1 x133 cQ.n 0))] bK ⟨d0 (gF 9 1 rfl rfl rfl rfl (.one tyO62)) zU1,d0 (gF 3 1 rfl rfl rfl rfl (.one tyO3)) zU1,d0 (w6 rfl h184) ⟨rfl,kL _ _,trivial⟩,d0 (l9 (C:=(cH g128)) 10 rfl tyS62 rfl q125 (aU h196).1 (aU h196).2.1) zU2,d0 (p5 (C:=(cH g128)) (k:=1) 10 rfl rfl h196 rfl (.one tyO24) rfl) zU1,d0 (gF 3 1 rfl rfl rfl rfl (.one tyO3)) zU1,d0 (oK (off:=0) (k:=10) rfl tyF51_7) zU1,d0 (gF 0 4 rfl rfl rfl rfl (.agg tyA44)) zU1,d0 (l9 (11+v195) rfl tyS24 (kY 11 rfl q131 q130 (q132 _ (bC h196))) (lW q131 q130 (q132 _ (bC h196))) (aU h198).1 (aU h198).2.1) zU2,trivial⟩ (fun bs192 G191=>?_)
       obtain⟨x199,h200,hF⟩:=a9 hF
       refine oS (xT (H':=([⟨some b166,1,51,18,1,(aA.enc v164)⟩,hO aF.cod b159 c160 58 n161 x174,⟨some b155,1,118,2,1,(aC.enc v152)⟩,⟨some b154,1,3,1,1,[pI .i64 x133]⟩,⟨some b107,1,44,4,1,(eQ v105)⟩,⟨some ((G7 7).1.getD 0),1,24,1,1,[pO b100 n102 c101]⟩,⟨some b4,1,114,1,1,[pS aC.cod v2]⟩,⟨some b1,1,113,4,1,(aD.enc a0)⟩,hO cQ b100 c101 44 n102 v98,⟨some ((G7 6).1.getD 0),1,62,1,1,[pO b122 n124 c123]⟩,hO (cH g128) b122 c123 24 n124 x121]++iD cQ 44 g128 (x127.set v195 x199))) (11+v195) rfl (aB2 11 rfl q131 q130 (q132 _ (bC h196))) h198 h200 tyA44.s (hH:=stN 11 rfl q131 q130 (q132 _ (bC h196)))) zU2 ?_
       refine bQ (yY (aS (aE6 1 [13] rfl q178 zU1 rfl ?_)))
       refine aFb 2 [(11,0)] rfl zU1 rfl ?_
       obtain⟨x204,h205,hF⟩:=a9 hF
       obtain⟨v206,h207,hF⟩:=bD hF cR
       refine kG [0,0,0,4,12,28,0,126,0,511] 9 1 [.v (.vc (pF 156 [pP (some b4) 0,pP (some b1) 0])),.v (.va (aD.enc a0)),.v (.vc (pP (some b1) 0)),.v (.vc (pS aG.cod a0.dofs)),.v (.vc (pI .i64 (a0.dofs.length:Int))),.v (.vc (pS cQ x204)),.v (.vc (pS aF.cod x174)),.v (.vc (pS cQ v206)),.v (.vc (pF 159 [pP (some ((G7 6).1.getD 0)) 0,pM (cI.e x133)]))] bK ⟨d0 (bW (.inl rfl)) zU1,d0 (gF 5 4 rfl rfl rfl rfl (.agg tyA113)) zU1,d0 (oK (off:=0) (k:=0) rfl tyF113_0) zU1,d0 (gF 5 1 rfl rfl rfl rfl (.one tyO23)) zU1,d0 (uN rfl tyS23) zU1,d0 (aCP 0 (hY (C:=cQ) rfl tyS24 rfl tyZ44q h205) (fun _ _=>rfl) rfl (fun _ _=>rfl)) zU1,d0 (bW (.inl rfl)) zU1,d0 (bS rfl h207 rfl) ⟨rfl,rfl,rfl,trivial⟩,d0 (aFU (xs:=[.tmp 6,.tmp 11]) (cs:=[pP (some ((G7 6).1.getD 0)) 0,pM (cI.e x133)]) rfl rfl) zU2,trivial⟩ (fun bs203 G202=>?_)
       obtain⟨v208,h209,hF⟩:=a9 hF
       refine u8 (f:=156) (cs:=[pP (some b4) 0,pP (some b1) 0]) (pre:=[.vc (pS cQ v206),.vc (pF 159 [pP (some ((G7 6).1.getD 0)) 0,pM (cI.e x133)])]) (xs:=[.tmp 176,.tmp 177]) 9 [7,4,5,8] [0,1,2,3,6] rfl (fJ h209 q125 (t9 q130) (xG q131 q130 (q132 _ (bC h196)) (bI h200 rfl)) q132) ⟨rfl,rfl,rfl,trivial⟩ rfl rfl rfl (by decide) ?_
       rintro _ _ ⟨b210,c211,n212,g215,N216,q213,q217,q218,q219,rfl,rfl⟩
       refine sA (o9 [⟨some ((G7 6).1.getD 0),1,62,1,1,[pO b210 n212 c211]⟩,⟨some b4,1,114,1,1,[pS aC.cod v2]⟩,⟨some b1,1,113,4,1,(aD.enc a0)⟩,hO (cH g215) b210 c211 24 n212 v208.1] (iD cQ 44 g215 v208.2) [⟨some b166,1,51,18,1,(aA.enc v164)⟩,⟨some b155,1,118,2,1,(aC.enc v152)⟩,⟨some b107,1,44,4,1,(eQ v105)⟩,⟨some ((G7 7).1.getD 0),1,24,1,1,[pO b100 n102 c101]⟩,hO cQ b100 c101 44 n102 v98]) ?_
       obtain⟨v221,h222,hF⟩:=a9 hF
       refine go ?_ ?_
       exact aL (fun a w hh=>⟨v208.1,v208.2,v221,b210,c211,n212,g215,N216,hF,q213,q217,q218,q219,cM 9 [6,7,1,2,8,0,3] rfl rfl (by decide) (by exact⟨rfl,rfl,rfl,rfl,rfl,rfl,rfl,rfl,rfl,rfl,trivial⟩) hh⟩)
      refine iO (yY (aS (aE6 1 [13] rfl q178 zU1 rfl ?_)))
      refine aFb 2 [(11,0)] rfl zU1 rfl ?_
      obtain⟨x225,h226,hF⟩:=a9 hF
      obtain⟨v227,h228,hF⟩:=bD hF cR
      refine kG [0,0,0,4,12,28,0,126,0,511] 9 1 [.v (.vc (pF 156 [pP (some b4) 0,pP (some b1) 0])),.v (.va (aD.enc a0)),.v (.vc (pP (some b1) 0)),.v (.vc (pS aG.cod a0.dofs)),.v (.vc (pI .i64 (a0.dofs.length:Int))),.v (.vc (pS cQ x225)),.v (.vc (pS aF.cod x174)),.v (.vc (pS cQ v227)),.v (.vc (pF 159 [pP (some ((G7 6).1.getD 0)) 0,pM (cI.e x133)]))] bK ⟨d0 (bW (.inl rfl)) zU1,d0 (gF 5 4 rfl rfl rfl rfl (.agg tyA113)) zU1,d0 (oK (off:=0) (k:=0) rfl tyF113_0) zU1,d0 (gF 5 1 rfl rfl rfl rfl (.one tyO23)) zU1,d0 (uN rfl tyS23) zU1,d0 (aCP 0 (hY (C:=cQ) rfl tyS24 rfl tyZ44q h226) (fun _ _=>rfl) rfl (fun _ _=>rfl)) zU1,d0 (bW (.inl rfl)) zU1,d0 (bS rfl h228 rfl) ⟨rfl,rfl,rfl,trivial⟩,d0 (aFU (xs:=[.tmp 6,.tmp 11]) (cs:=[pP (some ((G7 6).1.getD 0)) 0,pM (cI.e x133)]) rfl rfl) zU2,trivial⟩ (fun bs224 G223=>?_)
      obtain⟨v229,h230,hF⟩:=a9 hF
      refine u8 (f:=156) (cs:=[pP (some b4) 0,pP (some b1) 0]) (pre:=[.vc (pS cQ v227),.vc (pF 159 [pP (some ((G7 6).1.getD 0)) 0,pM (cI.e x133)])]) (xs:=[.tmp 176,.tmp 177]) 9 [7,4,5,8] [0,1,2,3,6] rfl (fJ h230 q125 q130 q131 q132) ⟨rfl,rfl,rfl,trivial⟩ rfl rfl rfl (by decide) ?_
      rintro _ _ ⟨b231,c232,n233,g236,N237,q234,q238,q239,q240,rfl,rfl⟩
      refine sA (o9 [⟨some ((G7 6).1.getD 0),1,62,1,1,[pO b231 n233 c232]⟩,⟨some b4,1,114,1,1,[pS aC.cod v2]⟩,⟨some b1,1,113,4,1,(aD.enc a0)⟩,hO (cH g236) b231 c232 24 n233 v229.1] (iD cQ 44 g236 v229.2) [⟨some b166,1,51,18,1,(aA.enc v164)⟩,⟨some b155,1,118,2,1,(aC.enc v152)⟩,⟨some b107,1,44,4,1,(eQ v105)⟩,⟨some ((G7 7).1.getD 0),1,24,1,1,[pO b100 n102 c101]⟩,hO cQ b100 c101 44 n102 v98]) ?_
      obtain⟨v242,h243,hF⟩:=a9 hF
      refine go ?_ ?_
      exact aL (fun a w hh=>⟨v229.1,v229.2,v242,b231,c232,n233,g236,N237,hF,q234,q238,q239,q240,cM 9 [6,7,1,2,8,0,3] rfl rfl (by decide) (by exact⟨rfl,rfl,rfl,rfl,rfl,rfl,rfl,rfl,rfl,rfl,trivial⟩) hh⟩)
     have hF:=vX h185 hF
     refine drb [0,1,0,4,15,31,63,63,191,511,1023,63,2111,6207,16383,32767] 16 0 ?_ (fun bs182 G181=>?_)
     refine bQ (aS (uP rfl ?_))
     refine iO (yY (aS (aE6 1 [13] rfl q178 zU1 rfl ?_)))
     refine aFb 2 [(11,0)] rfl zU1 rfl ?_
     obtain⟨x246,h247,hF⟩:=a9 hF
     obtain⟨v248,h249,hF⟩:=bD hF cR
     refine kG [0,0,0,4,12,28,0,126,0,511] 9 1 [.v (.vc (pF 156 [pP (some b4) 0,pP (some b1) 0])),.v (.va (aD.enc a0)),.v (.vc (pP (some b1) 0)),.v (.vc (pS aG.cod a0.dofs)),.v (.vc (pI .i64 (a0.dofs.length:Int))),.v (.vc (pS cQ x246)),.v (.vc (pS aF.cod x174)),.v (.vc (pS cQ v248)),.v (.vc (pF 159 [pP (some ((G7 6).1.getD 0)) 0,pM (cI.e x133)]))] bK ⟨d0 (bW (.inl rfl)) zU1,d0 (gF 5 4 rfl rfl rfl rfl (.agg tyA113)) zU1,d0 (oK (off:=0) (k:=0) rfl tyF113_0) zU1,d0 (gF 5 1 rfl rfl rfl rfl (.one tyO23)) zU1,d0 (uN rfl tyS23) zU1,d0 (aCP 0 (hY (C:=cQ) rfl tyS24 rfl tyZ44q h247) (fun _ _=>rfl) rfl (fun _ _=>rfl)) zU1,d0 (bW (.inl rfl)) zU1,d0 (bS rfl h249 rfl) ⟨rfl,rfl,rfl,trivial⟩,d0 (aFU (xs:=[.tmp 6,.tmp 11]) (cs:=[pP (some ((G7 6).1.getD 0)) 0,pM (cI.e x133)]) rfl rfl) zU2,trivial⟩ (fun bs245 G244=>?_)
     obtain⟨v250,h251,hF⟩:=a9 hF
     refine u8 (f:=156) (cs:=[pP (some b4) 0,pP (some b1) 0]) (pre:=[.vc (pS cQ v248),.vc (pF 159 [pP (some ((G7 6).1.getD 0)) 0,pM (cI.e x133)])]) (xs:=[.tmp 176,.tmp 177]) 9 [7,4,5,8] [0,1,2,3,6] rfl (fJ h251 q125 q130 q131 q132) ⟨rfl,rfl,rfl,trivial⟩ rfl rfl rfl (by decide) ?_
     rintro _ _ ⟨b252,c253,n254,g257,N258,q255,q259,q260,q261,rfl,rfl⟩
     refine sA (o9 [⟨some ((G7 6).1.getD 0),1,62,1,1,[pO b252 n254 c253]⟩,⟨some b4,1,114,1,1,[pS aC.cod v2]⟩,⟨some b1,1,113,4,1,(aD.enc a0)⟩,hO (cH g257) b252 c253 24 n254 v250.1] (iD cQ 44 g257 v250.2) [⟨some b166,1,51,18,1,(aA.enc v164)⟩,⟨some b155,1,118,2,1,(aC.enc v152)⟩,⟨some b107,1,44,4,1,(eQ v105)⟩,⟨some ((G7 7).1.getD 0),1,24,1,1,[pO b100 n102 c101]⟩,hO cQ b100 c101 44 n102 v98]) ?_
     obtain⟨v263,h264,hF⟩:=a9 hF
     refine go ?_ ?_
     exact aL (fun a w hh=>⟨v250.1,v250.2,v263,b252,c253,n254,g257,N258,hF,q255,q259,q260,q261,cM 9 [6,7,1,2,8,0,3] rfl rfl (by decide) (by exact⟨rfl,rfl,rfl,rfl,rfl,rfl,rfl,rfl,rfl,rfl,trivial⟩) hh⟩)
    refine go ?_ ?_
    refine aJ hF rfl (fun h265 hF=>?_) (fun h265 hF=>?_)
    ·obtain⟨v268,h269,hF⟩:=bD hF vA
     obtain⟨v270,h271,hF⟩:=a9 hF
     refine dr [0,0,2,0,0,0,56,127,255,511] 9 1 ?_ (fun bs267 G266=>?_)
     obtain⟨x272,h273,hF⟩:=a9 hF
     refine oS (xT 1 rfl rfl h271 h273 tyA44.s) zU2 ?_
     refine bQ ?_
     exact oN Jj180 ⟨x272,hF,(bI h273 (bI h171 q162)),rfl,rfl⟩ 11 [0,1,2,3,4,5,6,7,8,9,10] rfl rfl ⟨rfl,rfl,rfl,rfl,rfl,rfl,rfl,rfl,rfl,rfl,rfl,rfl,rfl,rfl,trivial⟩
    refine iO ?_
    exact oN Jj180 ⟨x170,hF,(bI h171 q162),rfl,rfl⟩ 11 [0,1,2,3,4,5,6,7,8,9,10] rfl rfl ⟨rfl,rfl,rfl,rfl,rfl,rfl,rfl,rfl,rfl,rfl,rfl,rfl,rfl,rfl,trivial⟩
   refine go ?_ ?_
   refine aJ hF rfl (fun h275 hF=>?_) (fun h275 hF=>?_)
   ·obtain⟨v276,h277,x278,h279,v283,h284,v285,h286,hF⟩:=bn4 hF
    obtain⟨v287,h288,hF⟩:=a9 hF
    obtain⟨v289,h290,hF⟩:=bD hF pW
    obtain⟨v291,h292,hF⟩:=a9 hF
    refine go ?_ ?_
    refine kG [0,0,2,6,15,31,0,0,128,511,1023] 10 1 [.v (.vc (pO b122 n124 c123)),.v (.vc (pI .i64 x133)),.v (.vc (pI .i64 v283)),.v (.vc (pI .i64 v285)),.v (.vc (pE b122 v285 (cH g128).n 0)),.v (.vc (pO (jL g128 v287).1 (jL g128 v287).2.1 (jL g128 v287).2.2)),.v (.vc (pI .i64 x133)),.v (.va (eQ v105)),.v (.va (eQ v289)),.v (.vc (pE (jL g128 v287).1 x133 cQ.n 0))] bK ⟨d0 (gF 9 1 rfl rfl rfl rfl (.one tyO62)) zU1,d0 (gF 3 1 rfl rfl rfl rfl (.one tyO3)) zU1,d0 (w6 rfl h284) ⟨rfl,kL _ _,trivial⟩,d0 (aCk rfl h286) ⟨rfl,kL _ _,trivial⟩,d0 (l9 (C:=(cH g128)) 10 rfl tyS62 rfl q125 (aU h288).1 (aU h288).2.1) zU2,d0 (p5 (C:=(cH g128)) (k:=1) 10 rfl rfl h288 rfl (.one tyO24) rfl) zU1,d0 (gF 3 1 rfl rfl rfl rfl (.one tyO3)) zU1,d0 (gF 4 4 rfl rfl rfl rfl (.agg tyA44)) zU1,d0 (bS rfl h290 rfl) zU1,d0 (l9 (11+v287) rfl tyS24 (kY 11 rfl q131 q130 (q132 _ (bC h288))) (lW q131 q130 (q132 _ (bC h288))) (aU h292).1 (aU h292).2.1) zU2,trivial⟩ (fun bs282 G281=>?_)
    obtain⟨x293,h294,hF⟩:=a9 hF
    refine oS (xT (H':=([⟨some b166,1,51,18,1,(aA.enc v164)⟩,hO aF.cod b159 c160 58 n161 x278,⟨some b155,1,118,2,1,(aC.enc v152)⟩,⟨some b154,1,3,1,1,[pI .i64 x133]⟩,⟨some b107,1,44,4,1,(eQ v105)⟩,⟨some ((G7 7).1.getD 0),1,24,1,1,[pO b100 n102 c101]⟩,⟨some b4,1,114,1,1,[pS aC.cod v2]⟩,⟨some b1,1,113,4,1,(aD.enc a0)⟩,hO cQ b100 c101 44 n102 v98,⟨some ((G7 6).1.getD 0),1,62,1,1,[pO b122 n124 c123]⟩,hO (cH g128) b122 c123 24 n124 x121]++iD cQ 44 g128 (x127.set v287 x293))) (11+v287) rfl (aB2 11 rfl q131 q130 (q132 _ (bC h288))) h292 h294 tyA44.s (hH:=stN 11 rfl q131 q130 (q132 _ (bC h288)))) zU2 ?_
    refine bQ (yY (aS (aE6 1 [13,57,114] rfl (bI h279 q162) ⟨rfl,rfl,rfl,trivial⟩ rfl ?_)))
    refine aFb 2 [(11,0)] rfl zU1 rfl ?_
    obtain⟨x298,h299,hF⟩:=a9 hF
    obtain⟨v300,h301,hF⟩:=bD hF cR
    refine kG [0,0,0,4,12,28,0,126,0,511] 9 1 [.v (.vc (pF 156 [pP (some b4) 0,pP (some b1) 0])),.v (.va (aD.enc a0)),.v (.vc (pP (some b1) 0)),.v (.vc (pS aG.cod a0.dofs)),.v (.vc (pI .i64 (a0.dofs.length:Int))),.v (.vc (pS cQ x298)),.v (.vc (pS aF.cod x278)),.v (.vc (pS cQ v300)),.v (.vc (pF 159 [pP (some ((G7 6).1.getD 0)) 0,pM (cI.e x133)]))] bK ⟨d0 (bW (.inl rfl)) zU1,d0 (gF 5 4 rfl rfl rfl rfl (.agg tyA113)) zU1,d0 (oK (off:=0) (k:=0) rfl tyF113_0) zU1,d0 (gF 5 1 rfl rfl rfl rfl (.one tyO23)) zU1,d0 (uN rfl tyS23) zU1,d0 (aCP 0 (hY (C:=cQ) rfl tyS24 rfl tyZ44q h299) (fun _ _=>rfl) rfl (fun _ _=>rfl)) zU1,d0 (bW (.inl rfl)) zU1,d0 (bS rfl h301 rfl) ⟨rfl,rfl,rfl,trivial⟩,d0 (aFU (xs:=[.tmp 6,.tmp 11]) (cs:=[pP (some ((G7 6).1.getD 0)) 0,pM (cI.e x133)]) rfl rfl) zU2,trivial⟩ (fun bs297 G296=>?_)
    obtain⟨v302,h303,hF⟩:=a9 hF
    refine u8 (f:=156) (cs:=[pP (some b4) 0,pP (some b1) 0]) (pre:=[.vc (pS cQ v300),.vc (pF 159 [pP (some ((G7 6).1.getD 0)) 0,pM (cI.e x133)])]) (xs:=[.tmp 176,.tmp 177]) 9 [7,4,5,8] [0,1,2,3,6] rfl (fJ h303 q125 (t9 q130) (xG q131 q130 (q132 _ (bC h288)) (bI h294 rfl)) q132) ⟨rfl,rfl,rfl,trivial⟩ rfl rfl rfl (by decide) ?_
    rintro _ _ ⟨b304,c305,n306,g309,N310,q307,q311,q312,q313,rfl,rfl⟩
    refine sA (o9 [⟨some ((G7 6).1.getD 0),1,62,1,1,[pO b304 n306 c305]⟩,⟨some b4,1,114,1,1,[pS aC.cod v2]⟩,⟨some b1,1,113,4,1,(aD.enc a0)⟩,hO (cH g309) b304 c305 24 n306 v302.1] (iD cQ 44 g309 v302.2) [⟨some b166,1,51,18,1,(aA.enc v164)⟩,⟨some b155,1,118,2,1,(aC.enc v152)⟩,⟨some b107,1,44,4,1,(eQ v105)⟩,⟨some ((G7 7).1.getD 0),1,24,1,1,[pO b100 n102 c101]⟩,hO cQ b100 c101 44 n102 v98]) ?_
    obtain⟨v315,h316,hF⟩:=a9 hF
    refine go ?_ ?_
    exact aL (fun a w hh=>⟨v302.1,v302.2,v315,b304,c305,n306,g309,N310,hF,q307,q311,q312,q313,cM 9 [6,7,1,2,8,0,3] rfl rfl (by decide) (by exact⟨rfl,rfl,rfl,rfl,rfl,rfl,rfl,rfl,rfl,rfl,trivial⟩) hh⟩)
   refine go ?_ ?_
   refine aJ hF rfl (fun h317 hF=>?_) (fun h317 hF=>?_)
   ·refine aM ?_
    obtain⟨v320,h321,hF⟩:=bD hF pW
    obtain⟨v322,h323,hF⟩:=a9 hF
    refine dr [0,0,2,0,8,31,63,127] 7 1 ?_ (fun bs319 G318=>?_)
    obtain⟨x324,h325,v329,h330,v331,h332,v333,h334,hF⟩:=bn4 hF
    obtain⟨v335,h336,hF⟩:=bD hF pW
    obtain⟨v337,h338,hF⟩:=a9 hF
    refine go ?_ ?_
    refine kG [0,0,2,6,15,31,0,0,128,511,1023] 10 1 [.v (.vc (pO b122 n124 c123)),.v (.vc (pI .i64 x133)),.v (.vc (pI .i64 v329)),.v (.vc (pI .i64 v331)),.v (.vc (pE b122 v331 (cH g128).n 0)),.v (.vc (pO (jL g128 v333).1 (jL g128 v333).2.1 (jL g128 v333).2.2)),.v (.vc (pI .i64 x133)),.v (.va (eQ v105)),.v (.va (eQ v335)),.v (.vc (pE (jL g128 v333).1 x133 cQ.n 0))] bK ⟨d0 (gF 9 1 rfl rfl rfl rfl (.one tyO62)) zU1,d0 (gF 3 1 rfl rfl rfl rfl (.one tyO3)) zU1,d0 (w6 rfl h330) ⟨rfl,kL _ _,trivial⟩,d0 (aCk rfl h332) ⟨rfl,kL _ _,trivial⟩,d0 (l9 (C:=(cH g128)) 10 rfl tyS62 rfl q125 (aU h334).1 (aU h334).2.1) zU2,d0 (p5 (C:=(cH g128)) (k:=1) 10 rfl rfl h334 rfl (.one tyO24) rfl) zU1,d0 (gF 3 1 rfl rfl rfl rfl (.one tyO3)) zU1,d0 (gF 4 4 rfl rfl rfl rfl (.agg tyA44)) zU1,d0 (bS rfl h336 rfl) zU1,d0 (l9 (11+v333) rfl tyS24 (kY 11 rfl q131 q130 (q132 _ (bC h334))) (lW q131 q130 (q132 _ (bC h334))) (aU h338).1 (aU h338).2.1) zU2,trivial⟩ (fun bs328 G327=>?_)
    obtain⟨x339,h340,hF⟩:=a9 hF
    refine oS (xT (H':=([⟨some b166,1,51,18,1,(aA.enc v164)⟩,hO aF.cod b159 c160 58 n161 x324,⟨some b155,1,118,2,1,(aC.enc v152)⟩,⟨some b154,1,3,1,1,[pI .i64 x133]⟩,⟨some b107,1,44,4,1,(eQ v105)⟩,⟨some ((G7 7).1.getD 0),1,24,1,1,[pO b100 n102 c101]⟩,⟨some b4,1,114,1,1,[pS aC.cod v2]⟩,⟨some b1,1,113,4,1,(aD.enc a0)⟩,hO cQ b100 c101 44 n102 v98,⟨some ((G7 6).1.getD 0),1,62,1,1,[pO b122 n124 c123]⟩,hO (cH g128) b122 c123 24 n124 x121]++iD cQ 44 g128 (x127.set v333 x339))) (11+v333) rfl (aB2 11 rfl q131 q130 (q132 _ (bC h334))) h338 h340 tyA44.s (hH:=stN 11 rfl q131 q130 (q132 _ (bC h334)))) zU2 ?_
    refine bQ (yY (aS (aE6 1 [13,57,132] rfl (bI h325 q162) ⟨rfl,rfl,rfl,trivial⟩ rfl ?_)))
    refine aFb 2 [(11,0)] rfl zU1 rfl ?_
    obtain⟨x344,h345,hF⟩:=a9 hF
    obtain⟨v346,h347,hF⟩:=bD hF cR
    refine kG [0,0,0,4,12,28,0,126,0,511] 9 1 [.v (.vc (pF 156 [pP (some b4) 0,pP (some b1) 0])),.v (.va (aD.enc a0)),.v (.vc (pP (some b1) 0)),.v (.vc (pS aG.cod a0.dofs)),.v (.vc (pI .i64 (a0.dofs.length:Int))),.v (.vc (pS cQ x344)),.v (.vc (pS aF.cod x324)),.v (.vc (pS cQ v346)),.v (.vc (pF 159 [pP (some ((G7 6).1.getD 0)) 0,pM (cI.e x133)]))] bK ⟨d0 (bW (.inl rfl)) zU1,d0 (gF 5 4 rfl rfl rfl rfl (.agg tyA113)) zU1,d0 (oK (off:=0) (k:=0) rfl tyF113_0) zU1,d0 (gF 5 1 rfl rfl rfl rfl (.one tyO23)) zU1,d0 (uN rfl tyS23) zU1,d0 (aCP 0 (hY (C:=cQ) rfl tyS24 rfl tyZ44q h345) (fun _ _=>rfl) rfl (fun _ _=>rfl)) zU1,d0 (bW (.inl rfl)) zU1,d0 (bS rfl h347 rfl) ⟨rfl,rfl,rfl,trivial⟩,d0 (aFU (xs:=[.tmp 6,.tmp 11]) (cs:=[pP (some ((G7 6).1.getD 0)) 0,pM (cI.e x133)]) rfl rfl) zU2,trivial⟩ (fun bs343 G342=>?_)
    obtain⟨v348,h349,hF⟩:=a9 hF
    refine u8 (f:=156) (cs:=[pP (some b4) 0,pP (some b1) 0]) (pre:=[.vc (pS cQ v346),.vc (pF 159 [pP (some ((G7 6).1.getD 0)) 0,pM (cI.e x133)])]) (xs:=[.tmp 176,.tmp 177]) 9 [7,4,5,8] [0,1,2,3,6] rfl (fJ h349 q125 (t9 q130) (xG q131 q130 (q132 _ (bC h334)) (bI h340 rfl)) q132) ⟨rfl,rfl,rfl,trivial⟩ rfl rfl rfl (by decide) ?_
    rintro _ _ ⟨b350,c351,n352,g355,N356,q353,q357,q358,q359,rfl,rfl⟩
    refine sA (o9 [⟨some ((G7 6).1.getD 0),1,62,1,1,[pO b350 n352 c351]⟩,⟨some b4,1,114,1,1,[pS aC.cod v2]⟩,⟨some b1,1,113,4,1,(aD.enc a0)⟩,hO (cH g355) b350 c351 24 n352 v348.1] (iD cQ 44 g355 v348.2) [⟨some b166,1,51,18,1,(aA.enc v164)⟩,⟨some b155,1,118,2,1,(aC.enc v152)⟩,⟨some b107,1,44,4,1,(eQ v105)⟩,⟨some ((G7 7).1.getD 0),1,24,1,1,[pO b100 n102 c101]⟩,hO cQ b100 c101 44 n102 v98]) ?_
    obtain⟨v361,h362,hF⟩:=a9 hF
    refine go ?_ ?_
    exact aL (fun a w hh=>⟨v348.1,v348.2,v361,b350,c351,n352,g355,N356,hF,q353,q357,q358,q359,cM 9 [6,7,1,2,8,0,3] rfl rfl (by decide) (by exact⟨rfl,rfl,rfl,rfl,rfl,rfl,rfl,rfl,rfl,rfl,trivial⟩) hh⟩)
   refine go ?_ ?_
   refine aJ hF rfl (fun h363 hF=>?_) (fun h363 hF=>?_)
   ·refine aM ?_
    obtain⟨v366,h367,hF⟩:=a9 hF
    obtain⟨v368,h369,hF⟩:=a9 hF
    obtain⟨v370,h371,hF⟩:=a9 hF
    obtain⟨v372,h373,hF⟩:=a9 hF
    obtain⟨v374,h375,hF⟩:=a9 hF
    obtain⟨v376,h377,hF⟩:=a9 hF
    obtain⟨v378,h379,hF⟩:=a9 hF
    obtain⟨x380,h381,hF⟩:=a9 hF
    obtain⟨v383,h384,hF⟩:=a9 hF
    refine sI (HsM [(0,fun G364=>([⟨some b166,1,51,18,1,(aA.enc v164)⟩,hO aF.cod b159 c160 58 n161 v156,⟨some b155,1,118,2,1,(aC.enc v152)⟩,⟨some b154,1,3,1,1,[pI .i64 x133]⟩,⟨some b107,1,44,4,1,(eQ v105)⟩,⟨some ((G7 7).1.getD 0),1,24,1,1,[pO b100 n102 c101]⟩,⟨some b4,1,114,1,1,[pS aC.cod v2]⟩,⟨some b1,1,113,4,1,(aD.enc a0)⟩,hO cQ b100 c101 44 n102 v98,⟨some ((G7 6).1.getD 0),1,62,1,1,[pO b122 n124 c123]⟩,hO (cH g128) b122 c123 24 n124 x121]++iD cQ 44 g128 x127)),(1,fun G364=>([⟨some b166,1,51,18,1,(aA.enc v164)⟩,hO aF.cod b159 c160 58 n161 v156,⟨some b155,1,118,2,1,(aC.enc v152)⟩,⟨some b154,1,3,1,1,[pI .i64 x133]⟩,⟨some b107,1,44,4,1,(eQ v105)⟩,⟨some ((G7 7).1.getD 0),1,24,1,1,[pO b100 n102 c101]⟩,⟨some b4,1,114,1,1,[pS aC.cod v2]⟩,⟨some b1,1,113,4,1,(aD.enc a0)⟩,hO cQ b100 c101 44 n102 v98,⟨some ((G7 6).1.getD 0),1,62,1,1,[pO b122 n124 c123]⟩,hO (cH g128) b122 c123 24 n124 x121]++iD cQ 44 g128 (x127.set v370 x380)))]) [17] [0,0,2,6,15,31,0,0,0,256,768,1920,3968,0,0,0,24575,90111,262143,524287] 19 1 [.v (.vc (pO b122 n124 c123)),.v (.vc (pI .i64 x133)),.v (.vc (pI .i64 v366)),.v (.vc (pI .i64 v368)),.v (.vc (pE b122 v368 (cH g128).n 0)),.v (.vc (pO (jL g128 v370).1 (jL g128 v370).2.1 (jL g128 v370).2.2)),.v (.vc (pI .i64 x133)),.v (.vc (pO b122 n124 c123)),.v (.vc (pI .i64 x133)),.v (.vc (pI .i64 v372)),.v (.vc (pI .i64 v374)),.v (.vc (pE b122 v374 (cH g128).n 0)),.v (.vc (pO (jL g128 v376).1 (jL g128 v376).2.1 (jL g128 v376).2.2)),.v (.vc (pI .i64 x133)),.v (.va (eQ v105)),.v (.va (eQ v105)),.v (.vc (pE (jL g128 v370).1 x133 cQ.n 0)),.g (fun _ _=>.any),.v (.vc (pE (jL g128 v376).1 x133 cQ.n 0))] bK ⟨d1 0 (gF 9 1 rfl rfl rfl rfl (.one tyO62)) zU1,d1 0 (gF 3 1 rfl rfl rfl rfl (.one tyO3)) zU1,d1 0 (w6 rfl h367) ⟨rfl,kL _ _,trivial⟩,d1 0 (aCk rfl h369) ⟨rfl,kL _ _,trivial⟩,d1 0 (l9 (C:=(cH g128)) 10 rfl tyS62 rfl q125 (aU h371).1 (aU h371).2.1) zU2,d1 0 (p5 (C:=(cH g128)) (k:=1) 10 rfl rfl h371 rfl (.one tyO24) rfl) zU1,d1 0 (gF 3 1 rfl rfl rfl rfl (.one tyO3)) zU1,d1 0 (gF 9 1 rfl rfl rfl rfl (.one tyO62)) zU1,d1 0 (gF 3 1 rfl rfl rfl rfl (.one tyO3)) zU1,d1 0 (w6 rfl h373) ⟨rfl,kL _ _,trivial⟩,d1 0 (aCk rfl h375) ⟨rfl,kL _ _,trivial⟩,d1 0 (l9 (C:=(cH g128)) 10 rfl tyS62 rfl q125 (aU h377).1 (aU h377).2.1) zU2,d1 0 (p5 (C:=(cH g128)) (k:=1) 10 rfl rfl h377 rfl (.one tyO24) rfl) zU1,⟨rfl,.run (L:=[0,1]) ⟨fun G364 A=>gF 3 1 rfl rfl rfl rfl (.one tyO3),fun G364 A=>gF 3 1 rfl rfl rfl rfl (.one tyO3),trivial⟩ (fun G364=>zU1)⟩,d1 0 (gF 4 4 rfl rfl rfl rfl (.agg tyA44)) zU1,⟨rfl,.run (L:=[0,1]) ⟨fun G364 A=>gF 4 4 rfl rfl rfl rfl (.agg tyA44),fun G364 A=>gF 4 4 rfl rfl rfl rfl (.agg tyA44),trivial⟩ (fun G364=>zU1)⟩,d1 0 (l9 (11+v370) rfl tyS24 (kY 11 rfl q131 q130 (q132 _ (bC h371))) (lW q131 q130 (q132 _ (bC h371))) (aU h379).1 (aU h379).2.1) zU2,⟨rfl,.hvy [0] ⟨fun G364 A=>aCx (xT (H':=([⟨some b166,1,51,18,1,(aA.enc v164)⟩,hO aF.cod b159 c160 58 n161 v156,⟨some b155,1,118,2,1,(aC.enc v152)⟩,⟨some b154,1,3,1,1,[pI .i64 x133]⟩,⟨some b107,1,44,4,1,(eQ v105)⟩,⟨some ((G7 7).1.getD 0),1,24,1,1,[pO b100 n102 c101]⟩,⟨some b4,1,114,1,1,[pS aC.cod v2]⟩,⟨some b1,1,113,4,1,(aD.enc a0)⟩,hO cQ b100 c101 44 n102 v98,⟨some ((G7 6).1.getD 0),1,62,1,1,[pO b122 n124 c123]⟩,hO (cH g128) b122 c123 24 n124 x121]++iD cQ 44 g128 (x127.set v370 x380))++A) (11+v370) rfl (kY 11 rfl q131 q130 (q132 _ (bC h371))) h379 h381 tyA44.s (hH:=stNA 11 rfl q131 q130 (q132 _ (bC h371)))),trivial⟩ (fun G364=>zU2)⟩,d1 1 (l9 (11+v376) rfl tyS24 (kY 11 rfl (xG q131 q130 (q132 _ (bC h371)) (bI h381 rfl)) (t9 q130) (q132 _ (bC h377))) (lW (xG q131 q130 (q132 _ (bC h371)) (bI h381 rfl)) (t9 q130) (q132 _ (bC h377))) (aU h384).1 (aU h384).2.1) zU2,trivial⟩ (fun bs365 G364=>?_)
    obtain⟨x386,h387,hF⟩:=a9 hF
    refine oS (xT (H':=([⟨some b166,1,51,18,1,(aA.enc v164)⟩,hO aF.cod b159 c160 58 n161 v156,⟨some b155,1,118,2,1,(aC.enc v152)⟩,⟨some b154,1,3,1,1,[pI .i64 x133]⟩,⟨some b107,1,44,4,1,(eQ v105)⟩,⟨some ((G7 7).1.getD 0),1,24,1,1,[pO b100 n102 c101]⟩,⟨some b4,1,114,1,1,[pS aC.cod v2]⟩,⟨some b1,1,113,4,1,(aD.enc a0)⟩,hO cQ b100 c101 44 n102 v98,⟨some ((G7 6).1.getD 0),1,62,1,1,[pO b122 n124 c123]⟩,hO (cH g128) b122 c123 24 n124 x121]++iD cQ 44 g128 ((x127.set v370 x380).set v376 x386))) (11+v376) rfl (aB2 11 rfl (xG q131 q130 (q132 _ (bC h371)) (bI h381 rfl)) (t9 q130) (q132 _ (bC h377))) h384 h387 tyA44.s (hH:=stN 11 rfl (xG q131 q130 (q132 _ (bC h371)) (bI h381 rfl)) (t9 q130) (q132 _ (bC h377)))) zU2 ?_
    refine bQ (aS (dJ ?_))
    have hF:=tC h367 hF
    refine go ?_ ?_
    exact aL (fun a w hh=>⟨x121,((x127.set v370 x380).set v376 x386),v366,b122,c123,n124,g128,N129,hF,q125,(t9 (t9 q130)),(xG (xG q131 q130 (q132 _ (bC h371)) (bI h381 rfl)) (t9 q130) (q132 _ (bC h377)) (bI h387 rfl)),q132,cM 11 [4,5,6,7,8,9,10] rfl rfl (by decide) (by exact⟨rfl,rfl,rfl,rfl,rfl,rfl,rfl,rfl,rfl,rfl,trivial⟩) hh⟩)
   refine iO (yY (aS (aE6 1 [13,57] rfl q162 zU2 rfl ?_)))
   refine aFb 2 [(11,0)] rfl zU1 rfl ?_
   obtain⟨x393,h394,hF⟩:=a9 hF
   obtain⟨v395,h396,hF⟩:=bD hF cR
   refine kG [0,0,0,4,12,28,0,126,0,511] 9 1 [.v (.vc (pF 156 [pP (some b4) 0,pP (some b1) 0])),.v (.va (aD.enc a0)),.v (.vc (pP (some b1) 0)),.v (.vc (pS aG.cod a0.dofs)),.v (.vc (pI .i64 (a0.dofs.length:Int))),.v (.vc (pS cQ x393)),.v (.vc (pS aF.cod v156)),.v (.vc (pS cQ v395)),.v (.vc (pF 159 [pP (some ((G7 6).1.getD 0)) 0,pM (cI.e x133)]))] bK ⟨d0 (bW (.inl rfl)) zU1,d0 (gF 5 4 rfl rfl rfl rfl (.agg tyA113)) zU1,d0 (oK (off:=0) (k:=0) rfl tyF113_0) zU1,d0 (gF 5 1 rfl rfl rfl rfl (.one tyO23)) zU1,d0 (uN rfl tyS23) zU1,d0 (aCP 0 (hY (C:=cQ) rfl tyS24 rfl tyZ44q h394) (fun _ _=>rfl) rfl (fun _ _=>rfl)) zU1,d0 (bW (.inl rfl)) zU1,d0 (bS rfl h396 rfl) ⟨rfl,rfl,rfl,trivial⟩,d0 (aFU (xs:=[.tmp 6,.tmp 11]) (cs:=[pP (some ((G7 6).1.getD 0)) 0,pM (cI.e x133)]) rfl rfl) zU2,trivial⟩ (fun bs392 G391=>?_)
   obtain⟨v397,h398,hF⟩:=a9 hF
   refine u8 (f:=156) (cs:=[pP (some b4) 0,pP (some b1) 0]) (pre:=[.vc (pS cQ v395),.vc (pF 159 [pP (some ((G7 6).1.getD 0)) 0,pM (cI.e x133)])]) (xs:=[.tmp 176,.tmp 177]) 9 [7,4,5,8] [0,1,2,3,6] rfl (fJ h398 q125 q130 q131 q132) ⟨rfl,rfl,rfl,trivial⟩ rfl rfl rfl (by decide) ?_
   rintro _ _ ⟨b399,c400,n401,g404,N405,q402,q406,q407,q408,rfl,rfl⟩
   refine sA (o9 [⟨some ((G7 6).1.getD 0),1,62,1,1,[pO b399 n401 c400]⟩,⟨some b4,1,114,1,1,[pS aC.cod v2]⟩,⟨some b1,1,113,4,1,(aD.enc a0)⟩,hO (cH g404) b399 c400 24 n401 v397.1] (iD cQ 44 g404 v397.2) [⟨some b166,1,51,18,1,(aA.enc v164)⟩,⟨some b155,1,118,2,1,(aC.enc v152)⟩,⟨some b107,1,44,4,1,(eQ v105)⟩,⟨some ((G7 7).1.getD 0),1,24,1,1,[pO b100 n102 c101]⟩,hO cQ b100 c101 44 n102 v98]) ?_
   obtain⟨v410,h411,hF⟩:=a9 hF
   refine go ?_ ?_
   exact aL (fun a w hh=>⟨v397.1,v397.2,v410,b399,c400,n401,g404,N405,hF,q402,q406,q407,q408,cM 9 [6,7,1,2,8,0,3] rfl rfl (by decide) (by exact⟨rfl,rfl,rfl,rfl,rfl,rfl,rfl,rfl,rfl,rfl,trivial⟩) hh⟩)
  refine dJ ?_
  obtain⟨rfl,rfl⟩:=sm2 hF
  exact oN Jj147 ⟨x121,x127,b122,c123,n124,g128,N129,hRl146,q125,q130,q131,q132,rfl,rfl⟩ 7 [1,4,5,6] rfl rfl zU2
 obtain⟨⟨x77',x83'⟩,hL,hRl89⟩:=a9 hF
 refine iT (fun k a w=>∃(x64:List Nat),∃(x70:List (List Rat)),∃(x76:Int),∃(b65:Option Nat),∃(c66:Nat),∃(n67:Nat),∃(g71:List wM),∃(N72:Nat),fE K v2 x10 k x64 x70 x76=some (x77',x83')∧x64.length=n67∧x70.length=N72∧lR g71 x70∧(∀k∈x64,k<N72)∧hs _ ([⟨some ((G7 7).1.getD 0),1,24,1,1,[pO ((G7 5).1) x13.length x13.length]⟩,⟨some ((G7 6).1.getD 0),1,62,1,1,[pO b65 n67 c66]⟩,hO cQ ((G7 5).1) x13.length 44 x13.length x13,hO (cH g71) b65 c66 24 n67 x64,⟨some b4,1,114,1,1,[pS aC.cod v2]⟩,⟨some b1,1,113,4,1,(aD.enc a0)⟩]++iD cQ 44 g71 x70) [(1,.vc (pP (some b1) 0)),(4,.vc (pP (some b4) 0)),(5,.vc (pF 156 [pP (some b4) 0,pP (some b1) 0])),(6,.vc (pP (some ((G7 6).1.getD 0)) 0)),(7,.vc (pP (some ((G7 7).1.getD 0)) 0)),(25,.vc (pI .i64 (x10.length:Int))),(26,.vc (pI .i64 x76))] a w) K (fun a w ⟨_,_,_,_,_,_,_,_,hF,_,_,_,_,_⟩=>by cases hF) (fun k a w ⟨x64,x70,x76,b65,c66,n67,g71,N72,hF,q68,q73,q74,q75,hh⟩=>iS ?_ hh) (fun a w hh=>⟨x10,[([]:List Rat)],0,((G7 2).1),x10.length,x10.length,[(none,0,0)],1,hL,rfl,rfl,aKx,(aQY h11),cM 6 [0,1,2,3,4,5] rfl rfl (by decide) (by exact⟨rfl,rfl,rfl,rfl,rfl,rfl,rfl,trivial⟩) hh⟩)
 rw [fE.eq_2] at hF
 refine go ?_ ?_
 refine aJ hF rfl (fun h412 hF=>?_) (fun h412 hF=>?_)
 ·refine go ?_ ?_
  refine aV ?_
  have hF:=tC h14 hF
  obtain⟨v419,h420,hF⟩:=a9 hF
  refine go ?_ ?_
  refine sI (HsM [(0,fun G413=>([⟨some ((G7 7).1.getD 0),1,24,1,1,[pO ((G7 5).1) x13.length x13.length]⟩,⟨some ((G7 6).1.getD 0),1,62,1,1,[pO b65 n67 c66]⟩,hO cQ ((G7 5).1) x13.length 44 x13.length x13,hO (cH g71) b65 c66 24 n67 x64,⟨some b4,1,114,1,1,[pS aC.cod v2]⟩,⟨some b1,1,113,4,1,(aD.enc a0)⟩]++iD cQ 44 g71 x70)),(1,fun G413=>([hO cQ ((G413 4).1) x13.length 44 x13.length x13,⟨some ((G7 7).1.getD 0),1,24,1,1,[pO ((G7 5).1) x13.length x13.length]⟩,⟨some ((G7 6).1.getD 0),1,62,1,1,[pO b65 n67 c66]⟩,hO cQ ((G7 5).1) x13.length 44 x13.length x13,hO (cH g71) b65 c66 24 n67 x64,⟨some b4,1,114,1,1,[pS aC.cod v2]⟩,⟨some b1,1,113,4,1,(aD.enc a0)⟩]++iD cQ 44 g71 x70))]) [4] [0,0,0,4,12,31,63] 6 1 [.v (.vc (pO b65 n67 c66)),.v (.vc (pI .i64 x76)),.v (.vc (pS aC.cod v2)),.v (.vc (pI .i64 (v2.length:Int))),.g (fun b _=>.vc (pO b x13.length x13.length)),.v (.vc (pE b65 x76 (cH g71).n 0))] bK ⟨⟨rfl,.run (L:=[0,1]) ⟨fun G413 A=>gF 1 1 rfl rfl rfl rfl (.one tyO62),fun G413 A=>gF 2 1 rfl rfl rfl rfl (.one tyO62),trivial⟩ (fun G413=>zU1)⟩,⟨rfl,.run (L:=[0,1]) ⟨fun G413 A=>bW (.inl rfl),fun G413 A=>bW (.inl rfl),trivial⟩ (fun G413=>zU1)⟩,d1 0 (gF 4 1 rfl rfl rfl rfl (.one tyO114)) zU1,d1 0 (uN rfl tyS114) zU1,⟨rfl,.hvy [0] ⟨fun G413 A=>hY (C:=cQ) rfl tyS24 rfl tyZ44q h14,trivial⟩ (fun G413=>zU1)⟩,d1 1 (l9 (C:=(cH g71)) 4 rfl tyS62 rfl q68 (aU h420).1 (aU h420).2.1) zU2,trivial⟩ (fun bs414 G413=>?_)
  obtain⟨x423,h424,hF⟩:=a9 hF
  refine aPf (show([hO cQ ((G413 4).1) x13.length 44 x13.length x13,⟨some ((G7 7).1.getD 0),1,24,1,1,[pO ((G7 5).1) x13.length x13.length]⟩,⟨some ((G7 6).1.getD 0),1,62,1,1,[pO b65 n67 c66]⟩,hO cQ ((G7 5).1) x13.length 44 x13.length x13,hO (cH (g71++[((G413 4).1,x13.length,x13.length)])) b65 c66 24 n67 x64,⟨some b4,1,114,1,1,[pS aC.cod v2]⟩,⟨some b1,1,113,4,1,(aD.enc a0)⟩]++iD cQ 44 g71 x70)=([hO cQ ((G413 4).1) x13.length 44 x13.length x13,⟨some ((G7 7).1.getD 0),1,24,1,1,[pO ((G7 5).1) x13.length x13.length]⟩,⟨some ((G7 6).1.getD 0),1,62,1,1,[pO b65 n67 c66]⟩,hO cQ ((G7 5).1) x13.length 44 x13.length x13,hO (cH g71) b65 c66 24 n67 x64,⟨some b4,1,114,1,1,[pS aC.cod v2]⟩,⟨some b1,1,113,4,1,(aD.enc a0)⟩]++iD cQ 44 g71 x70) from by rw [aID (N:=x70.length) ((G413 4).1,x13.length,x13.length) q74.1 (aGp q73 q75)]) ?_
  refine oS (xT (C:=cH (g71++[((G413 4).1,x13.length,x13.length)])) (z':=x70.length) 4 rfl rfl h420 h424 tyO24.s (hq:=aHp ((G413 4).1,x13.length,x13.length) q74.1)) zU2 ?_
  refine aEh (g:=((G413 4).1,x13.length,x13.length)) 0 7 rfl rfl rfl q74 ?_
  obtain⟨v427,h428,hF⟩:=a9 hF
  refine go ?_ ?_
  exact aL (fun a w hh=>⟨x423,(x70++[x13]),v427,b65,c66,n67,(g71++[((G413 4).1,x13.length,x13.length)]),(N72+1),hF,(bI h424 q68),(aEv q73),(zW q74 rfl),(sG q75 h424 q73),cM 6 [0,1,2,3,4,5] rfl rfl (by decide) (by exact⟨rfl,rfl,rfl,rfl,rfl,rfl,rfl,trivial⟩) hh⟩)
 refine dJ ?_
 obtain⟨rfl,rfl⟩:=sm2 hF
 exact oN Jj90 ⟨x64,x70,b65,c66,n67,g71,N72,hRl89,q68,q73,q74,q75,rfl,rfl⟩ 6 [0,1,2,3,4,5] rfl rfl ⟨rfl,rfl,rfl,rfl,rfl,trivial⟩
def sB (K:Nat) (a0:List aG) (a1:List Rat) (a2:List Rat) (a3:List aA) (x33:List aF):Option ((List Rat)×(List aF)×Int):=
 (bE K (⟨a0,a1,a2,a3⟩:aD) a1 x33).bind fun v41=>some (v41,x33,0)
def dC (K:Nat) (a0:List aG) (a1:List Rat) (a2:List Rat) (a3:List aA) (v5:List aC) (v10:aO×Int):Nat→(List aF)→Int→Option (List aF)
 |0,_,_=>none
 |k+1,x26,x32=>bif(decide (x32<(v5.length:Int))) then((bM v5 x32).bind fun v44=>(bM x26 v44.row).bind fun v47=>bif(v44.kind==0) then((bM v10.1.z x32).bind fun v50=>(nU x26 v44.row (⟨v50,v47.f⟩:aF)).bind fun x52=>(bM a3 v44.row).bind fun v55=>bif(decide (0<(v55.t.length:Int))) then((bM x52 v44.row).bind fun v61=>(jW K (⟨a0,a1,a2,a3⟩:aD) v55 v61.n).bind fun v63=>(bM x52 v44.row).bind fun v65=>(nU x52 v44.row (⟨v65.n,v63⟩:aF)).bind fun x67=>(aP (x32+1)).bind fun v70=>dC K a0 a1 a2 a3 v5 v10 k x67 v70) else((aP (x32+1)).bind fun v72=>dC K a0 a1 a2 a3 v5 v10 k x52 v72)) else(bif(v44.kind==1) then((bM v10.1.z x32).bind fun v77=>(aCA v47.f v77).bind fun v79=>(nU x26 v44.row (⟨v47.n,v79⟩:aF)).bind fun x81=>(aP (x32+1)).bind fun v84=>dC K a0 a1 a2 a3 v5 v10 k x81 v84) else(bif(v44.kind==2) then((bM v10.1.z x32).bind fun v89=>(aEO v47.f v89).bind fun v91=>(nU x26 v44.row (⟨v47.n,v91⟩:aF)).bind fun x93=>(aP (x32+1)).bind fun v96=>dC K a0 a1 a2 a3 v5 v10 k x93 v96) else((aP (x32+1)).bind fun v98=>dC K a0 a1 a2 a3 v5 v10 k x26 v98)))) else(some x26)
def jZ (K:Nat) (a0:List aG) (a1:List Rat) (a2:List Rat) (a3:List aA):Option ((List Rat)×(List aF)×Int):=
 (mM K (⟨a0,a1,a2,a3⟩:aD)).bind fun v2=>bif(!v2) then(some ([],[],1)) else((iW K (⟨a0,a1,a2,a3⟩:aD)).bind fun v5=>bif(decide (32<(v5.length:Int))) then(some ([],[],4)) else((l7 K (⟨a0,a1,a2,a3⟩:aD)).bind fun v8=>(mI K v8.1 v8.2 4096).bind fun v10=>bif(v10.2 != 0) then(some ([],[],v10.2)) else((wG (a3.length:Int) (⟨0,0⟩:aF)).bind fun x14=>(dC K a0 a1 a2 a3 v5 v10 K x14 0).bind fun x33=>sB K a0 a1 a2 a3 x33)))
theorem sO {K:Nat} {a0:List aG} {a1:List Rat} {a2:List Rat} {a3:List aA} {r:(List Rat)×(List aF)×Int} (hF:jZ K a0 a1 a2 a3=some r):Ct Tryz.prog 17 [.vc (pS aG.cod a0),.vc (pS cQ a1),.vc (pS cQ a2),.vc (pS aA.cod a3)] (.t3 (.vc (pS cQ r.1)) (.vc (pS aF.cod r.2.1)) (.vc (pI .i64 r.2.2))):=by
 unfold jZ at hF
 refine aI Tryz.func17 rfl (by kernel_rfl) Tryz.ntmps17 rfl (fun w0 M0=>?_)
 refine aM (aX (aR (bW (.inr rfl)) ⟨eJ cQ,trivial⟩ ?_))
 refine aR (bW (.inr rfl)) ⟨eJ aF.cod,trivial⟩ ?_
 refine go ?_ ?_
 refine aR (fC (is:=[0,1,2,3]) (xs:=[.tmp 22,.tmp 23,.tmp 24,.tmp 25]) (ps:=[.vc (pS aG.cod a0),.vc (pS cQ a1),.vc (pS cQ a2),.vc (pS aA.cod a3)]) rfl tyB113q rfl rfl ⟨trivial,trivial,trivial,trivial,trivial⟩ rfl) ⟨rfl,rfl,rfl,rfl,trivial⟩ ?_
 refine aN rfl tyZ113q (fun b1=>?_)
 obtain⟨v2,h3,hF⟩:=bD hF w5
 refine go ?_ ?_
 refine aJ hF rfl (fun h4 hF=>?_) (fun h4 hF=>?_)
 ·refine aM (aX (aR (bW (.inr rfl)) ⟨eJ cQ,trivial⟩ ?_))
  refine aR (bW (.inr rfl)) ⟨eJ aF.cod,trivial⟩ ?_
  exact cA
 obtain⟨v5,h6,hF⟩:=bD hF uU
 refine go ?_ ?_
 refine aJ hF rfl (fun h7 hF=>?_) (fun h7 hF=>?_)
 ·refine aM (aX (aR (bW (.inr rfl)) ⟨eJ cQ,trivial⟩ ?_))
  refine aR (bW (.inr rfl)) ⟨eJ aF.cod,trivial⟩ ?_
  exact cA
 obtain⟨v8,h9,hF⟩:=bD hF z9
 obtain⟨v10,h11,hF⟩:=bD hF aBs
 refine go ?_ ?_
 refine aN rfl tyZ68q (fun b12=>?_)
 refine go ?_ ?_
 refine aJ hF rfl (fun h13 hF=>?_) (fun h13 hF=>?_)
 ·refine go ?_ ?_
  refine aR (bW (.inr rfl)) ⟨eJ cQ,trivial⟩ ?_
  refine aR (bW (.inr rfl)) ⟨eJ aF.cod,trivial⟩ ?_
  exact cA
 obtain⟨x14,h15,hF⟩:=a9 hF
 refine go ?_ ?_
 refine uY (C:=aF.cod) (z:=(⟨0,0⟩:aF)) rfl tyS29 rfl tyZ58q rfl h15 (fun b16=>?_)
 refine go ?_ ?_
 refine aV (cJ (fun H E=>∃(x33:List aF),sB K a0 a1 a2 a3 x33=some r∧x33.length=x14.length∧H=[hO aF.cod b16 x14.length 58 x14.length x33,⟨some b1,1,113,4,1,([pS aG.cod a0]++[pS cQ a1]++[pS cQ a2]++[pS aA.cod a3])⟩]∧E=[(1,.vc (pS cQ a1)),(11,.vc (pP (some b1) 0)),(17,.vc (pO b16 x14.length x14.length))]) ?_ (fun Jj40=>?_))
 ·rintro _ _ ⟨x33,hF,q37,rfl,rfl⟩
  unfold sB at hF
  refine aS (aM (aX (aR (gF 1 4 rfl rfl rfl rfl (.agg tyA113)) zU1 ?_)))
  refine mF ?_
  refine mF ?_
  refine aAZ 0 [17,127] rfl q37 zU2 rfl ?_
  obtain⟨v41,h42,hF⟩:=bD hF cR
  exact cA
 obtain⟨x33',hL,hRl39⟩:=a9 hF
 refine iT (fun k a w=>∃(x26:List aF),∃(x32:Int),dC K a0 a1 a2 a3 v5 v10 k x26 x32=some x33'∧x26.length=x14.length∧hs _ [hO aF.cod b16 x14.length 58 x14.length x26,⟨some b12,1,68,3,1,(aO.enc v10.1)⟩,⟨some b1,1,113,4,1,([pS aG.cod a0]++[pS cQ a1]++[pS cQ a2]++[pS aA.cod a3])⟩] [(1,.vc (pS cQ a1)),(3,.vc (pS aA.cod a3)),(11,.vc (pP (some b1) 0)),(15,.vc (pP (some b12) 0)),(17,.vc (pO b16 x14.length x14.length)),(52,.vc (pS aC.cod v5)),(53,.vc (pI .i64 (v5.length:Int))),(54,.vc (pI .i64 x32))] a w) K (fun a w ⟨_,_,hF,_,_⟩=>by cases hF) (fun k a w ⟨x26,x32,hF,q30,hh⟩=>iS ?_ hh) (fun a w hh=>⟨x14,0,hL,rfl,iH [0,1,2] hh⟩)
 rw [dC.eq_2] at hF
 refine go ?_ ?_
 refine aJ hF rfl (fun h43 hF=>?_) (fun h43 hF=>?_)
 ·refine go ?_ ?_
  refine aV ?_
  obtain⟨v44,h45,hF⟩:=a9 hF
  refine go ?_ ?_
  refine aN rfl tyZ118q (fun b46=>?_)
  obtain⟨v47,h48,hF⟩:=a9 hF
  refine go ?_ ?_
  refine aV (go ?_ ?_)
  refine aJ hF rfl (fun h49 hF=>?_) (fun h49 hF=>?_)
  ·obtain⟨v50,h51,x52,h53,v55,h56,hF⟩:=bn3 hF
   refine go ?_ ?_
   refine aN rfl tyZ51q (fun b57=>?_)
   refine go ?_ ?_
   refine aJ hF rfl (fun h58 hF=>?_) (fun h58 hF=>?_)
   ·obtain⟨v61,h62,hF⟩:=a9 hF
    obtain⟨v63,h64,hF⟩:=bD hF vA
    refine dr [0,0,0,0,8,24,56,126,255,511,1023] 10 1 ?_ (fun bs60 G59=>?_)
    have hF:=tC h62 hF
    obtain⟨x67,h68,v70,h71,hF⟩:=vN hF
    refine go ?_ ?_
    exact aL (fun a w hh=>⟨x67,v70,hF,(bI h68 (bI h53 q30)),iH [2,3,4] hh⟩)
   obtain⟨v72,h73,hF⟩:=a9 hF
   refine go ?_ ?_
   exact aL (fun a w hh=>⟨x52,v72,hF,(bI h53 q30),iH [2,3,4] hh⟩)
  refine go ?_ ?_
  refine aJ hF rfl (fun h74 hF=>?_) (fun h74 hF=>?_)
  ·obtain⟨v77,h78,hF⟩:=a9 hF
   obtain⟨v79,h80,hF⟩:=bD hF wF
   refine dr [0,0,2,6,14,0,32,0,224,480,1022,2047,4095,8191] 13 1 ?_ (fun bs76 G75=>?_)
   obtain⟨x81,h82,v84,h85,hF⟩:=vN hF
   refine go ?_ ?_
   exact aL (fun a w hh=>⟨x81,v84,hF,(bI h82 q30),iH [1,2,3] hh⟩)
  refine go ?_ ?_
  refine aJ hF rfl (fun h86 hF=>?_) (fun h86 hF=>?_)
  ·obtain⟨v89,h90,hF⟩:=a9 hF
   obtain⟨v91,h92,hF⟩:=bD hF aDX
   refine dr [0,0,2,6,14,0,32,0,224,480,1022,2047,4095,8191] 13 1 ?_ (fun bs88 G87=>?_)
   obtain⟨x93,h94,v96,h97,hF⟩:=vN hF
   refine go ?_ ?_
   exact aL (fun a w hh=>⟨x93,v96,hF,(bI h94 q30),iH [1,2,3] hh⟩)
  obtain⟨v98,h99,hF⟩:=a9 hF
  refine go ?_ ?_
  exact aL (fun a w hh=>⟨x26,v98,hF,q30,iH [1,2,3] hh⟩)
 refine dJ ?_
 obtain rfl:=qN hF
 exact qB Jj40 ⟨x26,hRl39,q30,rfl,rfl⟩ [0,2]
def oI (K:Nat):Option Int:=
 some (-1)
def lG (K:Nat) (a0:List aF) (a1:(aF→Option Bool)):Nat→Int→Option (LR Int Unit)
 |0,_=>none
 |k+1,x2=>bif(decide (x2<(a0.length:Int))) then((bM a0 x2).bind fun v6=>(a1 v6).bind fun v8=>bif v8 then(some (.ret x2)) else((aP (x2+1)).bind fun v11=>lG K a0 a1 k v11)) else(some (.go ()))
def qH (K:Nat) (a0:List aF) (a1:(aF→Option Bool)):Option Int:=
 (lG K a0 a1 K 0).bind fun o=>match o with| .ret r=>some r| .go _=>oI K
theorem yZ {K:Nat} {a0:List aF} {a1:(aF→Option Bool)} {r:Int} (hF:qH K a0 a1=some r):Ct Tryz.prog 163 [.vc (pS aF.cod a0),.vc (pFn Tryz.prog (fun x:aF=>[.va (aF.enc x)]) (fun r:Bool=>.vc (pB r)) a1)] (.vc (pI .i64 r)):=by
 unfold qH at hF
 refine aI Tryz.func163 rfl (by kernel_rfl) Tryz.ntmps163 rfl (fun w0 M0=>?_)
 refine go ?_ ?_
 refine aV (cJ (fun H E=>oI K=some r∧H=[]∧E=[]) ?_ (fun Jj4=>?_))
 ·rintro _ _ ⟨hF,rfl,rfl⟩
  unfold oI at hF
  exact cA
 obtain⟨ol3,hL,hRl3⟩:=a9 hF
 refine iT (fun k a w=>∃(x2:Int),lG K a0 a1 k x2=some ol3∧hs _ [] [(0,.vc (pS aF.cod a0)),(1,.vc (pFn Tryz.prog (fun x:aF=>[.va (aF.enc x)]) (fun r:Bool=>.vc (pB r)) a1)),(7,.vc (pI .i64 (a0.length:Int))),(8,.vc (pI .i64 x2))] a w) K (fun a w ⟨_,hF,_⟩=>by cases hF) (fun k a w ⟨x2,hF,hh⟩=>iS ?_ hh) (fun a w hh=>⟨0,hL,iH [] hh⟩)
 rw [lG.eq_2] at hF
 refine go ?_ ?_
 refine aJ hF rfl (fun h5 hF=>?_) (fun h5 hF=>?_)
 ·refine go ?_ ?_
  refine aV ?_
  obtain⟨v6,h7,v8,h9,hF⟩:=vN hF
  refine go ?_ ?_
  refine aR (aCg (pre:=fun x:aF=>[.va (aF.enc x)]) (post:=fun r:Bool=>.vc (pB r)) (x:=v6) (r:=v8) rfl h9 rfl) zU2 ?_
  refine bQ (aS (aJ hF rfl (fun h10 hF=>?_) (fun h10 hF=>?_)))
  ·exact cA
  obtain⟨v11,h12,hF⟩:=a9 hF
  refine go ?_ ?_
  exact aL (fun a w hh=>⟨v11,hF,iH [] hh⟩)
 refine dJ ?_
 obtain rfl:=qN hF
 exact qB Jj4 ⟨hRl3,rfl,rfl⟩ []
def oF (K:Nat) (a0:List aF) (a1:(aF→Option Bool)):Option Bool:=
 (qH K a0 a1).bind fun v1=>some (decide (0≤v1))
theorem xB {K:Nat} {a0:List aF} {a1:(aF→Option Bool)} {r:Bool} (hF:oF K a0 a1=some r):Ct Tryz.prog 76 [.vc (pS aF.cod a0),.vc (pFn Tryz.prog (fun x:aF=>[.va (aF.enc x)]) (fun r:Bool=>.vc (pB r)) a1)] (.vc (pB r)):=by
 unfold oF at hF
 refine aI Tryz.func76 rfl (by kernel_rfl) Tryz.ntmps76 rfl (fun w0 M0=>?_)
 obtain⟨v1,h2,hF⟩:=bD hF yZ
 exact cA
def uD (a0:aF):Option Bool:=
 (aBw a0.n).bind fun v2=>bif(!v2) then(some true) else((aBw a0.f).bind fun v5=>some (!v5))
theorem aCI {a0:aF} {r:Bool} (hF:uD a0=some r):Ct Tryz.prog 77 [.va (aF.enc a0)] (.vc (pB r)):=by
 unfold uD at hF
 refine aI Tryz.func77 rfl (by kernel_rfl) Tryz.ntmps77 rfl (fun w0 M0=>?_)
 refine aM (aX (cT rfl rfl trivial (fun b1=>?_)))
 obtain⟨v2,h3,hF⟩:=bD hF pD
 refine go ?_ ?_
 refine dQ hF (fun h4 hF=>?_) (fun h4 hF=>?_)
 ·exact cA
 obtain⟨v5,h6,hF⟩:=bD hF pD
 exact cA
def oW (K:Nat):Option Bool:=
 some true
def lT (K:Nat) (a0:List Rat) (a1:List Rat) (a2:(Rat×Rat→Option Bool)):Nat→Int→Option (LR Bool Unit)
 |0,_=>none
 |k+1,x3=>bif(decide (x3<(a0.length:Int))) then((bM a0 x3).bind fun v7=>(bM a1 x3).bind fun v10=>(a2 (v7,v10)).bind fun v13=>bif(!v13) then(some (.ret false)) else((aP (x3+1)).bind fun v16=>lT K a0 a1 a2 k v16)) else(some (.go ()))
def rL (K:Nat) (a0:List Rat) (a1:List Rat) (a2:(Rat×Rat→Option Bool)):Option Bool:=
 bif((a0.length:Int) != (a1.length:Int)) then(some false) else((lT K a0 a1 a2 K 0).bind fun o=>match o with| .ret r=>some r| .go _=>oW K)
theorem zF {K:Nat} {a0:List Rat} {a1:List Rat} {a2:(Rat×Rat→Option Bool)} {r:Bool} (hF:rL K a0 a1 a2=some r):Ct Tryz.prog 79 [.vc (pS cQ a0),.vc (pS cQ a1),.vc (pFn Tryz.prog (fun x:Rat×Rat=>[.va (eQ x.1),.va (eQ x.2)]) (fun r:Bool=>.vc (pB r)) a2)] (.vc (pB r)):=by
 unfold rL at hF
 refine aI Tryz.func79 rfl (by kernel_rfl) Tryz.ntmps79 rfl (fun w0 M0=>?_)
 refine go ?_ ?_
 refine aJ hF rfl (fun h1 hF=>?_) (fun h1 hF=>?_)
 ·exact cA
 refine go ?_ ?_
 refine aV (cJ (fun H E=>oW K=some r∧H=[]∧E=[]) ?_ (fun Jj5=>?_))
 ·rintro _ _ ⟨hF,rfl,rfl⟩
  unfold oW at hF
  exact cA
 obtain⟨ol4,hL,hRl4⟩:=a9 hF
 refine iT (fun k a w=>∃(x3:Int),lT K a0 a1 a2 k x3=some ol4∧hs _ [] [(1,.vc (pS cQ a1)),(2,.vc (pFn Tryz.prog (fun x:Rat×Rat=>[.va (eQ x.1),.va (eQ x.2)]) (fun r:Bool=>.vc (pB r)) a2)),(15,.vc (pS cQ a0)),(16,.vc (pI .i64 (a0.length:Int))),(17,.vc (pI .i64 x3))] a w) K (fun a w ⟨_,hF,_⟩=>by cases hF) (fun k a w ⟨x3,hF,hh⟩=>iS ?_ hh) (fun a w hh=>⟨0,hL,iH [] hh⟩)
 rw [lT.eq_2] at hF
 refine go ?_ ?_
 refine aJ hF rfl (fun h6 hF=>?_) (fun h6 hF=>?_)
 ·refine go ?_ ?_
  refine aV ?_
  obtain⟨v7,h8,hF⟩:=a9 hF
  refine go ?_ ?_
  refine aN rfl tyZ44q (fun b9=>?_)
  obtain⟨v10,h11,hF⟩:=a9 hF
  refine go ?_ ?_
  refine aN rfl tyZ44q (fun b12=>?_)
  obtain⟨v13,h14,hF⟩:=a9 hF
  refine go ?_ ?_
  refine aR (aCg (pre:=fun x:Rat×Rat=>[.va (eQ x.1),.va (eQ x.2)]) (post:=fun r:Bool=>.vc (pB r)) (x:=(v7,v10)) (r:=v13) rfl h14 rfl) ⟨rfl,rfl,rfl,trivial⟩ ?_
  refine go ?_ ?_
  refine aJ hF rfl (fun h15 hF=>?_) (fun h15 hF=>?_)
  ·exact cA
  obtain⟨v16,h17,hF⟩:=a9 hF
  refine go ?_ ?_
  exact aL (fun a w hh=>⟨v16,hF,iH [] hh⟩)
 refine dJ ?_
 obtain rfl:=qN hF
 exact qB Jj5 ⟨hRl4,rfl,rfl⟩ []
def nA (K:Nat) (a1:aA) (a3:aF) (v6:Int) (v8:Rat) (x16:Int):Option Bool:=
 (wP a3.n).bind fun v18=>bif(decide (v18<0)) then(some false) else(bif(decide (v6<0)) then(some false) else(bif(decide (0<v6)) then((wP a3.n).bind fun v23=>bif(decide (0<v23)) then(some false) else(bif((a1.t.length:Int)==0) then((wP a3.f).bind fun v27=>some (v27==0)) else(bif(decide (0<x16)) then((aBY v8).bind fun v32=>(xU a3.f v32).bind fun v34=>some v34) else(bif(decide (x16<0)) then((xU a3.f v8).bind fun v37=>some v37) else((aGC a3.f v8).bind fun v41=>bif(decide (v41≤0)) then((aBY a3.f).bind fun v44=>(aGC v44 v8).bind fun v46=>some (decide (v46≤0))) else(some false)))))) else(bif((a1.t.length:Int)==0) then((wP a3.f).bind fun v49=>some (v49==0)) else(bif(decide (0<x16)) then((aBY v8).bind fun v54=>(xU a3.f v54).bind fun v56=>some v56) else(bif(decide (x16<0)) then((xU a3.f v8).bind fun v59=>some v59) else((aGC a3.f v8).bind fun v63=>bif(decide (v63≤0)) then((aBY a3.f).bind fun v66=>(aGC v66 v8).bind fun v68=>some (decide (v68≤0))) else(some false)))))))
def tM (K:Nat) (a0:aD) (a1:aA) (a2:List Rat) (a3:aF):Option Bool:=
 (gK K a1.j a2).bind fun v4=>(wP v4).bind fun v6=>(z5 a1.mu a3.n).bind fun v8=>(gK K a1.t a2).bind fun v11=>(wP v11).bind fun v13=>(kI K a0 a1).bind fun v70=>bif(v70 != 0) then(nA K a1 a3 v6 v8 v70) else(nA K a1 a3 v6 v8 v13)
theorem aAQ {K:Nat} {a0:aD} {a1:aA} {a2:List Rat} {a3:aF} {r:Bool} (hF:tM K a0 a1 a2 a3=some r):Ct Tryz.prog 80 [.va (aD.enc a0),.va (aA.enc a1),.vc (pS cQ a2),.va (aF.enc a3)] (.vc (pB r)):=by
 unfold tM at hF
 refine aI Tryz.func80 rfl (by kernel_rfl) Tryz.ntmps80 rfl (fun w0 M0=>?_)
 refine aM (aX (cT rfl rfl trivial (fun b1=>?_)))
 refine cT rfl rfl trivial (fun b2=>?_)
 refine cT rfl rfl trivial (fun b3=>?_)
 obtain⟨v4,h5,hF⟩:=bD hF kD
 obtain⟨v6,h7,hF⟩:=bD hF jO
 obtain⟨v8,h9,hF⟩:=bD hF rF
 refine go ?_ ?_
 refine aN rfl tyZ44q (fun b10=>?_)
 refine oS (t_s 0 rfl rfl rfl tyA44.s) zU2 ?_
 refine bQ (aS (aM (aX (aR (oK (off:=0) (k:=9) rfl tyF51_6) zU1 ?_))))
 refine aR (gF 2 1 rfl rfl rfl rfl (.one tyO49)) zU1 ?_
 refine mF ?_
 obtain⟨v11,h12,hF⟩:=bD hF kD
 refine aR (bS rfl h12 rfl) zU2 ?_
 obtain⟨v13,h14,hF⟩:=bD hF jO
 refine aR (bS rfl h14 rfl) zU1 ?_
 refine wX ?_
 refine bQ (aS (aM (uM (fun H E=>∃(x16:Int),nA K a1 a3 v6 v8 x16=some r∧H=[⟨some b10,1,44,4,1,(eQ v8)⟩,⟨some b3,1,58,8,1,(aF.enc a3)⟩,⟨some b2,1,51,18,1,(aA.enc a1)⟩]∧E=[(5,.vc (pP (some b2) 0)),(7,.vc (pP (some b3) 0)),(9,.vc (pI .i64 v6)),(10,.vc (pP (some b10) 0)),(11,.vc (pI .i64 x16))]) ?_ (fun Jj17=>?_))))
 ·rintro _ _ ⟨x16,hF,rfl,rfl⟩
  unfold nA at hF
  refine aM (aV ?_)
  obtain⟨v18,h19,hF⟩:=bD hF jO
  refine go ?_ ?_
  refine dQ hF (fun h20 hF=>?_) (fun h20 hF=>?_)
  ·refine go ?_ ?_
   refine mD rfl ?_
   exact cA
  refine go ?_ ?_
  refine dQ hF (fun h21 hF=>?_) (fun h21 hF=>?_)
  ·refine go ?_ ?_
   refine mD rfl ?_
   exact cA
  refine go ?_ ?_
  refine dQ hF (fun h22 hF=>?_) (fun h22 hF=>?_)
  ·obtain⟨v23,h24,hF⟩:=bD hF jO
   refine go ?_ ?_
   refine aJ hF rfl (fun h25 hF=>?_) (fun h25 hF=>?_)
   ·exact cA
   refine go ?_ ?_
   refine aJ hF rfl (fun h26 hF=>?_) (fun h26 hF=>?_)
   ·obtain⟨v27,h28,hF⟩:=bD hF jO
    exact cA
   refine go ?_ ?_
   refine aJ hF rfl (fun h29 hF=>?_) (fun h29 hF=>?_)
   ·refine aM ?_
    obtain⟨v32,h33,hF⟩:=bD hF pW
    obtain⟨v34,h35,hF⟩:=bD hF pU
    refine dr [0,1,0,4,15,31] 6 0 ?_ (fun bs31 G30=>?_)
    refine bQ (aS ?_)
    exact cA
   refine go ?_ ?_
   refine aJ hF rfl (fun h36 hF=>?_) (fun h36 hF=>?_)
   ·obtain⟨v37,h38,hF⟩:=bD hF pU
    exact cA
   obtain⟨v41,h42,hF⟩:=bD hF sV
   refine go ?_ ?_
   rcases Bool.eq_false_or_eq_true (decide (v41≤0)) with h43|h43
   ·have hF:=vZ h43 hF
    obtain⟨v44,h45,hF⟩:=bD hF pW
    obtain⟨v46,h47,hF⟩:=bD hF sV
    refine drb [0,1,0,7,15,31,63,127,255,63,1023,2047,4095,8191] 14 0 ?_ (fun bs40 G39=>?_)
    refine bQ (aS ?_)
    exact cA
   have hF:=vX h43 hF
   refine drb [0,1,0,7,15,31,63,127,255,63,1023,2047,4095,8191] 14 0 ?_ (fun bs40 G39=>?_)
   refine bQ (aS ?_)
   exact cA
  refine go ?_ ?_
  refine uP rfl ?_
  refine go ?_ ?_
  refine aJ hF rfl (fun h48 hF=>?_) (fun h48 hF=>?_)
  ·obtain⟨v49,h50,hF⟩:=bD hF jO
   exact cA
  refine go ?_ ?_
  refine aJ hF rfl (fun h51 hF=>?_) (fun h51 hF=>?_)
  ·refine aM ?_
   obtain⟨v54,h55,hF⟩:=bD hF pW
   obtain⟨v56,h57,hF⟩:=bD hF pU
   refine dr [0,1,0,4,15,31] 6 0 ?_ (fun bs53 G52=>?_)
   refine bQ (aS ?_)
   exact cA
  refine go ?_ ?_
  refine aJ hF rfl (fun h58 hF=>?_) (fun h58 hF=>?_)
  ·obtain⟨v59,h60,hF⟩:=bD hF pU
   exact cA
  obtain⟨v63,h64,hF⟩:=bD hF sV
  refine go ?_ ?_
  rcases Bool.eq_false_or_eq_true (decide (v63≤0)) with h65|h65
  ·have hF:=vZ h65 hF
   obtain⟨v66,h67,hF⟩:=bD hF pW
   obtain⟨v68,h69,hF⟩:=bD hF sV
   refine drb [0,1,0,7,15,31,63,127,255,63,1023,2047,4095,8191] 14 0 ?_ (fun bs62 G61=>?_)
   refine bQ (aS ?_)
   exact cA
  have hF:=vX h65 hF
  refine drb [0,1,0,7,15,31,63,127,255,63,1023,2047,4095,8191] 14 0 ?_ (fun bs62 G61=>?_)
  refine bQ (aS ?_)
  exact cA
 obtain⟨v70,h71,hF⟩:=bD hF tH
 refine go ?_ ?_
 refine aJ hF rfl (fun h72 hF=>?_) (fun h72 hF=>?_)
 ·refine aX (mF ?_)
  refine wX ?_
  refine bQ ?_
  exact qB Jj17 ⟨v70,hF,rfl,rfl⟩ [0,1,2]
 refine iO ?_
 exact qB Jj17 ⟨v13,hF,rfl,rfl⟩ [0,1,2]
def vC (K:Nat):Option Int:=
 some 0
def sK (K:Nat) (a0:List aG) (a1:List Rat) (a2:List Rat) (a3:List aA) (a4:List Rat) (a5:List aF):Nat→Int→Option (LR Int Unit)
 |0,_=>none
 |k+1,x19=>bif(decide (x19<(a3.length:Int))) then((bM a3 x19).bind fun v23=>(bM a5 x19).bind fun v28=>(tM K (⟨a0,a1,a2,a3⟩:aD) v23 a4 v28).bind fun v30=>bif(!v30) then(some (.ret 18)) else((aP (x19+1)).bind fun v33=>sK K a0 a1 a2 a3 a4 a5 k v33)) else(some (.go ()))
def yQ (K:Nat) (a0:List aG) (a1:List Rat) (a2:List Rat) (a3:List aA) (a4:List Rat) (a5:List aF):Option Int:=
 (mM K (⟨a0,a1,a2,a3⟩:aD)).bind fun v2=>bif(!v2) then(some 1) else(bif((a4.length:Int) != (a0.length:Int)) then(some 18) else(bif((a5.length:Int) != (a3.length:Int)) then(some 18) else((rH K a4).bind fun v7=>bif(!v7) then(some 18) else((oF K a5 (uD)).bind fun v10=>bif v10 then(some 18) else((bE K (⟨a0,a1,a2,a3⟩:aD) a1 a5).bind fun v13=>(rL K a4 v13 (fun x=>xU x.1 x.2)).bind fun v15=>bif(!v15) then(some 18) else((sK K a0 a1 a2 a3 a4 a5 K 0).bind fun o=>match o with| .ret r=>some r| .go _=>vC K))))))
theorem aEm {K:Nat} {a0:List aG} {a1:List Rat} {a2:List Rat} {a3:List aA} {a4:List Rat} {a5:List aF} {r:Int} (hF:yQ K a0 a1 a2 a3 a4 a5=some r):Ct Tryz.prog 19 [.vc (pS aG.cod a0),.vc (pS cQ a1),.vc (pS cQ a2),.vc (pS aA.cod a3),.vc (pS cQ a4),.vc (pS aF.cod a5)] (.vc (pI .i64 r)):=by
 unfold yQ at hF
 refine aI Tryz.func19 rfl (by kernel_rfl) Tryz.ntmps19 rfl (fun w0 M0=>?_)
 refine go ?_ ?_
 refine aR (fC (is:=[0,1,2,3]) (xs:=[.tmp 16,.tmp 17,.tmp 18,.tmp 19]) (ps:=[.vc (pS aG.cod a0),.vc (pS cQ a1),.vc (pS cQ a2),.vc (pS aA.cod a3)]) rfl tyB113q rfl rfl ⟨trivial,trivial,trivial,trivial,trivial⟩ rfl) ⟨rfl,rfl,rfl,rfl,trivial⟩ ?_
 refine aN rfl tyZ113q (fun b1=>?_)
 refine go ?_ ?_
 refine aV ?_
 obtain⟨v2,h3,hF⟩:=bD hF w5
 refine go ?_ ?_
 refine aJ hF rfl (fun h4 hF=>?_) (fun h4 hF=>?_)
 ·exact cA
 refine go ?_ ?_
 refine dQ hF (fun h5 hF=>?_) (fun h5 hF=>?_)
 ·refine go ?_ ?_
  refine mD rfl ?_
  exact cA
 refine go ?_ ?_
 refine dQ hF (fun h6 hF=>?_) (fun h6 hF=>?_)
 ·refine go ?_ ?_
  refine mD rfl ?_
  exact cA
 obtain⟨v7,h8,hF⟩:=bD hF yN
 refine go ?_ ?_
 refine aJ hF rfl (fun h9 hF=>?_) (fun h9 hF=>?_)
 ·exact cA
 obtain⟨v10,h11,hF⟩:=bD hF xB
 refine go ?_ ?_
 refine aR (bS rfl h11 rfl) ⟨rfl,(aNY (P:=Tryz.prog) (φ:=(uD)) (pre:=fun x:aF=>[.va (aF.enc x)]) (post:=fun r:Bool=>.vc (pB r)) (fun x r h=>aCI h)),trivial⟩ ?_
 refine go ?_ ?_
 refine aJ hF rfl (fun h12 hF=>?_) (fun h12 hF=>?_)
 ·exact cA
 obtain⟨v13,h14,hF⟩:=bD hF cR
 obtain⟨v15,h16,hF⟩:=bD hF zF
 refine go ?_ ?_
 refine aR (bS rfl h16 rfl) ⟨rfl,rfl,(aNY (P:=Tryz.prog) (φ:=(fun x=>xU x.1 x.2)) (pre:=fun x:Rat×Rat=>[.va (eQ x.1),.va (eQ x.2)]) (post:=fun r:Bool=>.vc (pB r)) (fun x r h=>pU h)),trivial⟩ ?_
 refine go ?_ ?_
 refine aJ hF rfl (fun h17 hF=>?_) (fun h17 hF=>?_)
 ·exact cA
 refine go ?_ ?_
 refine aV (cJ (fun H E=>vC K=some r∧H=[]∧E=[]) ?_ (fun Jj21=>?_))
 ·rintro _ _ ⟨hF,rfl,rfl⟩
  unfold vC at hF
  exact cA
 obtain⟨ol20,hL,hRl20⟩:=a9 hF
 refine iT (fun k a w=>∃(x19:Int),sK K a0 a1 a2 a3 a4 a5 k x19=some ol20∧hs _ [⟨some b1,1,113,4,1,([pS aG.cod a0]++[pS cQ a1]++[pS cQ a2]++[pS aA.cod a3])⟩] [(4,.vc (pS cQ a4)),(5,.vc (pS aF.cod a5)),(13,.vc (pP (some b1) 0)),(54,.vc (pS aA.cod a3)),(55,.vc (pI .i64 (a3.length:Int))),(56,.vc (pI .i64 x19))] a w) K (fun a w ⟨_,hF,_⟩=>by cases hF) (fun k a w ⟨x19,hF,hh⟩=>iS ?_ hh) (fun a w hh=>⟨0,hL,iH [0] hh⟩)
 rw [sK.eq_2] at hF
 refine go ?_ ?_
 refine aJ hF rfl (fun h22 hF=>?_) (fun h22 hF=>?_)
 ·refine go ?_ ?_
  refine aV ?_
  obtain⟨v23,h24,hF⟩:=a9 hF
  refine go ?_ ?_
  refine aN rfl tyZ51q (fun b25=>?_)
  obtain⟨v28,h29,hF⟩:=a9 hF
  obtain⟨v30,h31,hF⟩:=bD hF aAQ
  refine go ?_ ?_
  refine dr [0,0,0,0,0,24,56,127,255] 9 0 ?_ (fun bs27 G26=>?_)
  refine bQ (aS (aJ hF rfl (fun h32 hF=>?_) (fun h32 hF=>?_)))
  ·exact cA
  obtain⟨v33,h34,hF⟩:=a9 hF
  refine go ?_ ?_
  exact aL (fun a w hh=>⟨v33,hF,iH [1] hh⟩)
 refine dJ ?_
 obtain rfl:=qN hF
 exact qB Jj21 ⟨hRl20,rfl,rfl⟩ []
def vT (K:Nat) (x26:List Rat):Option (List Rat):=
 some x26
def mA (K:Nat) (a1:List aE) (a2:Rat):Nat→(List Rat)→Int→Option (List Rat)
 |0,_,_=>none
 |k+1,x19,x25=>bif(decide (x25<(a1.length:Int))) then((bM a1 x25).bind fun v37=>(bM a1 x25).bind fun v39=>(bM x19 v39.dof).bind fun v41=>(bM a1 x25).bind fun v43=>(z5 v43.k a2).bind fun v45=>(aCA v41 v45).bind fun v47=>(bM x19 v37.dof).bind fun v49=>(nU x19 v37.dof v47).bind fun x51=>(aP (x25+1)).bind fun v54=>mA K a1 a2 k x51 v54) else(some x19)
def sJ (K:Nat) (a0:List Rat) (a1:List aE) (a2:Rat):Option (List Rat):=
 (qD ([]:List Rat) a0).bind fun x5=>(mA K a1 a2 K x5 0).bind fun x26=>vT K x26
def wA (K:Nat) (x10:List Rat):Option (List Rat):=
 some x10
def l4 (K:Nat) (a1:List aA) (a2:List aF):Nat→(List Rat)→Int→Option (List Rat)
 |0,_,_=>none
 |k+1,x8,x9=>bif(decide (x9<(a1.length:Int))) then((bM a1 x9).bind fun v16=>(bM a2 x9).bind fun v18=>(sJ K x8 v16.j v18.n).bind fun v20=>(bM a1 x9).bind fun v22=>(bM a2 x9).bind fun v24=>(sJ K v20 v22.t v24.f).bind fun v26=>(aP (x9+1)).bind fun v28=>l4 K a1 a2 k v26 v28) else(some x8)
def yL (K:Nat) (a0:Int) (a1:List aA) (a2:List aF):Option (List Rat):=
 (wG a0 0).bind fun x1=>(l4 K a1 a2 K x1 0).bind fun x10=>wA K x10
def p6 (K:Nat) (x19:List Rat):Option (List Rat):=
 some x19
def fU (K:Nat) (a0:List aG) (a1:List Rat) (v1:List Rat):Nat→(List Rat)→Int→Option (List Rat)
 |0,_,_=>none
 |k+1,x12,x18=>bif(decide (x18<(a0.length:Int))) then((bM a0 x18).bind fun v30=>(bM a1 x18).bind fun v32=>(bM v1 x18).bind fun v34=>(aCA v32 v34).bind fun v36=>(z5 v30.inv v36).bind fun v38=>(qD x12 [v38]).bind fun x40=>(aP (x18+1)).bind fun v47=>fU K a0 a1 v1 k x40 v47) else(some x12)
def kX (K:Nat) (a0:List aG) (a1:List Rat) (a2:List aA) (a3:List aF):Option (List Rat):=
 (yL K (a0.length:Int) a2 a3).bind fun v1=>(fU K a0 a1 v1 K ([]:List Rat) 0).bind fun x19=>p6 K x19
def mO (K:Nat):Option Bool:=
 some true
def fT (K:Nat) (a0:List Rat) (a1:List Rat):Nat→Int→Option (LR Bool Unit)
 |0,_=>none
 |k+1,x3=>bif(decide (x3<(a0.length:Int))) then((bM a0 x3).bind fun v9=>(bM a1 x3).bind fun v11=>(xU v9 v11).bind fun v13=>bif(!v13) then(some (.ret false)) else((aP (x3+1)).bind fun v16=>fT K a0 a1 k v16)) else(some (.go ()))
def jV (K:Nat) (a0:List Rat) (a1:List Rat):Option Bool:=
 bif((a0.length:Int) != (a1.length:Int)) then(some false) else((fT K a0 a1 K 0).bind fun o=>match o with| .ret r=>some r| .go _=>mO K)
theorem u9 {K:Nat} {a0:List Rat} {a1:List Rat} {r:Bool} (hF:jV K a0 a1=some r):Ct Tryz.prog 29 [.vc (pS cQ a0),.vc (pS cQ a1)] (.vc (pB r)):=by
 unfold jV at hF
 refine aI Tryz.func29 rfl (by kernel_rfl) Tryz.ntmps29 rfl (fun w0 M0=>?_)
 refine go ?_ ?_
 refine aJ hF rfl (fun h1 hF=>?_) (fun h1 hF=>?_)
 ·exact cA
 refine go ?_ ?_
 refine aV (cJ (fun H E=>mO K=some r∧H=[]∧E=[]) ?_ (fun Jj5=>?_))
 ·rintro _ _ ⟨hF,rfl,rfl⟩
  unfold mO at hF
  exact cA
 obtain⟨ol4,hL,hRl4⟩:=a9 hF
 refine iT (fun k a w=>∃(x3:Int),fT K a0 a1 k x3=some ol4∧hs _ [] [(0,.vc (pS cQ a0)),(1,.vc (pS cQ a1)),(5,.vc (pI .i64 x3))] a w) K (fun a w ⟨_,hF,_⟩=>by cases hF) (fun k a w ⟨x3,hF,hh⟩=>iS ?_ hh) (fun a w hh=>⟨0,hL,iH [] hh⟩)
 rw [fT.eq_2] at hF
 refine go ?_ ?_
 refine aJ hF rfl (fun h6 hF=>?_) (fun h6 hF=>?_)
 ·refine go ?_ ?_
  refine aV (aM ?_)
  obtain⟨v9,h10,hF⟩:=a9 hF
  obtain⟨v11,h12,hF⟩:=a9 hF
  obtain⟨v13,h14,hF⟩:=bD hF aBr
  refine dr [0,0,3,7,0,0,48,112,255,511] 10 0 ?_ (fun bs8 G7=>?_)
  refine bQ (aS (aJ hF rfl (fun h15 hF=>?_) (fun h15 hF=>?_)))
  ·exact cA
  obtain⟨v16,h17,hF⟩:=a9 hF
  refine go ?_ ?_
  exact aL (fun a w hh=>⟨v16,hF,iH [] hh⟩)
 refine dJ ?_
 obtain rfl:=qN hF
 exact qB Jj5 ⟨hRl4,rfl,rfl⟩ []
def vR (K:Nat) (x7:Rat):Option Rat:=
 some x7
def gZ (K:Nat) (a0:List aE) (a1:List Rat):Nat→Rat→Int→Option Rat
 |0,_,_=>none
 |k+1,x5,x6=>bif(decide (x6<(a0.length:Int))) then((bM a0 x6).bind fun v11=>bif(decide (0≤v11.dof)) then((bM a0 x6).bind fun v14=>bif(decide (v14.dof<(a1.length:Int))) then((bM a0 x6).bind fun v19=>(bM a0 x6).bind fun v21=>(bM a1 (max v21.dof 0)).bind fun v23=>(z5 v19.k v23).bind fun v25=>(aCA x5 v25).bind fun v27=>(aP (x6+1)).bind fun v29=>gZ K a0 a1 k v27 v29) else((aP (x6+1)).bind fun v31=>gZ K a0 a1 k x5 v31)) else((aP (x6+1)).bind fun v33=>gZ K a0 a1 k x5 v33)) else(some x5)
def iQ (K:Nat) (a0:List aE) (a1:List Rat):Option Rat:=
 (gZ K a0 a1 K 0 0).bind fun x7=>vR K x7
def vP (K:Nat):Option Bool:=
 some true
def l6 (K:Nat) (a0:List Rat):Nat→Int→Option (LR Bool Unit)
 |0,_=>none
 |k+1,x2=>bif(decide (x2<(a0.length:Int))) then((bM a0 x2).bind fun v6=>(aBw v6).bind fun v8=>bif(!v8) then(some (.ret false)) else((aP (x2+1)).bind fun v11=>l6 K a0 k v11)) else(some (.go ()))
def qZ (K:Nat) (a0:List Rat):Option Bool:=
 (l6 K a0 K 0).bind fun o=>match o with| .ret r=>some r| .go _=>vP K
def vF (K:Nat):Option Bool:=
 some true
def jC (K:Nat) (a0:List aE) (a1:Int):Nat→Int→Option (LR Bool Unit)
 |0,_=>none
 |k+1,x2=>bif(decide (x2<(a0.length:Int))) then((bM a0 x2).bind fun v8=>(aBw v8.k).bind fun v10=>bif(!v10) then(some (.ret false)) else((bM a0 x2).bind fun v13=>bif(decide (v13.dof<0)) then(some (.ret false)) else((bM a0 x2).bind fun v16=>bif(decide (a1≤v16.dof)) then(some (.ret false)) else(bif(decide (0<x2)) then((bM a0 x2).bind fun v20=>(aP (x2-1)).bind fun v22=>(bM a0 (max v22 0)).bind fun v24=>bif(decide (v20.dof≤v24.dof)) then(some (.ret false)) else((aP (x2+1)).bind fun v27=>jC K a0 a1 k v27)) else((aP (x2+1)).bind fun v29=>jC K a0 a1 k v29))))) else(some (.go ()))
def qC (K:Nat) (a0:List aE) (a1:Int):Option Bool:=
 (jC K a0 a1 K 0).bind fun o=>match o with| .ret r=>some r| .go _=>vF K
def tP (K:Nat):Option Bool:=
 some true
def kA (K:Nat) (a0:List aG) (a3:List aA):Nat→Int→Option (LR Bool Unit)
 |0,_=>none
 |k+1,x15=>bif(decide (x15<(a3.length:Int))) then((bM a3 x15).bind fun v19=>(qC K v19.j (a0.length:Int)).bind fun v21=>bif(!v21) then(some (.ret false)) else((bM a3 x15).bind fun v24=>(qC K v24.t (a0.length:Int)).bind fun v26=>bif(!v26) then(some (.ret false)) else((bM a3 x15).bind fun v29=>(aBw v29.mu).bind fun v31=>bif(!v31) then(some (.ret false)) else((bM a3 x15).bind fun v34=>(wP v34.mu).bind fun v36=>bif(decide (v36<0)) then(some (.ret false)) else((aP (x15+1)).bind fun v39=>kA K a0 a3 k v39))))) else(some (.go ()))
def tR (K:Nat) (a0:List aG) (a3:List aA):Option Bool:=
 (kA K a0 a3 K 0).bind fun o=>match o with| .ret r=>some r| .go _=>tP K
def kB (K:Nat) (a0:List aG):Nat→Int→Option (LR Bool Unit)
 |0,_=>none
 |k+1,x11=>bif(decide (x11<(a0.length:Int))) then((bM a0 x11).bind fun v42=>(aBw v42.inv).bind fun v44=>bif(!v44) then(some (.ret false)) else((bM a0 x11).bind fun v47=>(wP v47.inv).bind fun v49=>bif(decide (v49≤0)) then(some (.ret false)) else((aP (x11+1)).bind fun v52=>kB K a0 k v52))) else(some (.go ()))
def wQ (K:Nat) (a0:List aG) (a1:List Rat) (a2:List Rat) (a3:List aA):Option Bool:=
 bif(decide (12<(a0.length:Int))) then(some false) else(bif((a1.length:Int) != (a0.length:Int)) then(some false) else(bif((a2.length:Int) != (a0.length:Int)) then(some false) else((qZ K a1).bind fun v4=>bif(!v4) then(some false) else((qZ K a2).bind fun v7=>bif(!v7) then(some false) else((kB K a0 K 0).bind fun o=>match o with| .ret r=>some r| .go _=>tR K a0 a3)))))
def wR (K:Nat):Option Bool:=
 some true
def mX (K:Nat) (a2:List Rat) (a3:List aA):Nat→Int→Option (LR Bool Unit)
 |0,_=>none
 |k+1,x5=>bif(decide (x5<(a3.length:Int))) then((bM a3 x5).bind fun v9=>(iQ K v9.j a2).bind fun v11=>(wP v11).bind fun v13=>bif(v13 != 0) then(some (.ret false)) else((aP (x5+1)).bind fun v16=>mX K a2 a3 k v16)) else(some (.go ()))
def sH (K:Nat) (a0:List aG) (a1:List Rat) (a2:List Rat) (a3:List aA):Option Bool:=
 (wQ K a0 a1 a2 a3).bind fun v1=>bif(!v1) then(some false) else((mX K a2 a3 K 0).bind fun o=>match o with| .ret r=>some r| .go _=>wR K)
def qU (K:Nat) (a0:aA) (a1:List Rat):Option Int:=
 (iQ K a0.t a1).bind fun v2=>(wP v2).bind fun v4=>some v4
def uB (K:Nat) (c0:List Rat) (c1:List Rat) (a0:aA):Option Bool:=
 (gK K a0.t c0).bind fun v2=>(gK K a0.t c1).bind fun v7=>(aCA v2 v7).bind fun v9=>(z5 v2 v9).bind fun v11=>(wP v11).bind fun v13=>some (decide (v13<0))
theorem aCL {K:Nat} {c0:List Rat} {c1:List Rat} {a0:aA} {r:Bool} (hF:uB K c0 c1 a0=some r):Ct Tryz.prog 91 [.va (aA.enc a0),.vc (pM ((xC cQ).e c0)),.vc (pM ((xC cQ).e c1))] (.vc (pB r)):=by
 unfold uB at hF
 refine aI Tryz.func91 rfl (by kernel_rfl) Tryz.ntmps91 rfl (fun w0 M0=>?_)
 refine aM (aX (cT rfl rfl trivial (fun b1=>?_)))
 obtain⟨v2,h3,hF⟩:=bD hF kD
 refine go ?_ ?_
 refine aN rfl tyZ44q (fun b4=>?_)
 obtain⟨v7,h8,hF⟩:=bD hF kD
 obtain⟨v9,h10,hF⟩:=bD hF wF
 obtain⟨v11,h12,hF⟩:=bD hF rF
 obtain⟨v13,h14,hF⟩:=bD hF jO
 refine go ?_ ?_
 refine dr [0,0,0,4,0,28,62,127,255,511,1023] 11 0 ?_ (fun bs6 G5=>?_)
 refine bQ (aS ?_)
 exact cA
def yW (K:Nat) (a0:List Rat) (a1:List Rat) (a2:List aA):Option Bool:=
 (fG K a2 (uB K a0 a1)).bind fun v3=>some (!v3)
theorem aDF {K:Nat} {a0:List Rat} {a1:List Rat} {a2:List aA} {r:Bool} (hF:yW K a0 a1 a2=some r):Ct Tryz.prog 27 [.vc (pS cQ a0),.vc (pS cQ a1),.vc (pS aA.cod a2)] (.vc (pB r)):=by
 unfold yW at hF
 refine aI Tryz.func27 rfl (by kernel_rfl) Tryz.ntmps27 rfl (fun w0 M0=>?_)
 refine aM (aX (cT rfl rfl trivial (fun b1=>?_)))
 refine cT rfl rfl trivial (fun b2=>?_)
 refine aR (bW (.inr rfl)) ⟨k_B _,trivial⟩ ?_
 refine bQ (aS (aM (aX (mF ?_))))
 refine aKb 1 [(3,0)] rfl zU1 rfl ?_
 refine aKb 0 [(4,0)] rfl zU1 rfl ?_
 refine aR (aPM (φ:=(uB K a0 a1)) (pre:=fun x:aA=>[.va (aA.enc x)]) (post:=fun r:Bool=>.vc (pB r)) (xs:=[.tmp 3,.tmp 4]) (cs:=[pM ((xC cQ).e a0),pM ((xC cQ).e a1)]) rfl rfl (fun x r h=>aCL h)) zU2 ?_
 obtain⟨v3,h4,hF⟩:=bD hF sR
 exact cA
def lM (a0:Int) (a1:Int) (a2:Int) (a3:Int):Option aK:=
 (qof 1 2).bind fun v2=>(qof 1 1).bind fun v5=>(qof 1 2).bind fun v10=>(qof a0 a2).bind fun v14=>(qof a1 1).bind fun v16=>(qof a3 1).bind fun v18=>some (⟨[(⟨v2,0,false,0,0⟩:aG),(⟨v2,0,false,0,0⟩:aG)],[v14,v16],[v18,0],[(⟨0,0,0,0,0,[(⟨1,v5⟩:aE)],[(⟨0,v5⟩:aE)],v10,0⟩:aA)]⟩:aK)
theorem pH {a0:Int} {a1:Int} {a2:Int} {a3:Int} {r:aK} (hF:lM a0 a1 a2 a3=some r):Ct Tryz.prog 88 [.vc (pI .i64 a0),.vc (pI .i64 a1),.vc (pI .i64 a2),.vc (pI .i64 a3)] (.va (aK.enc r)):=by
 unfold lM at hF
 refine aI Tryz.func88 rfl (by kernel_rfl) Tryz.ntmps88 rfl (fun w0 M0=>?_)
 refine aM (aX (aN rfl tyZ27q (fun b1=>?_)))
 obtain⟨v2,h3,hF⟩:=bD hF cG
 refine go ?_ ?_
 refine aR (fC (is:=[0]) (xs:=[.tmp 12]) (ps:=[.va (eQ v2)]) rfl tyB108q rfl rfl ⟨trivial,trivial⟩ rfl) zU1 ?_
 refine aN rfl tyZ108q (fun b4=>?_)
 obtain⟨v5,h6,hF⟩:=bD hF cG
 refine go ?_ ?_
 refine aN rfl tyZ44q (fun b7=>?_)
 obtain⟨v10,h11,hF⟩:=bD hF cG
 refine go ?_ ?_
 refine kG [0,1,3,0,8,24,0,127,0,511] 9 1 [.v (.va (eQ v5)),.v (.va ([pI .i64 1]++(eQ v5))),.v (.vc (pS aE.cod [(⟨1,v5⟩:aE)])),.v (.va (eQ v5)),.v (.va ([pI .i64 0]++(eQ v5))),.v (.vc (pS aE.cod [(⟨0,v5⟩:aE)])),.v (.va (eQ v10)),.v (.va ([pI .i64 0]++[pI .i64 0]++[pI .i64 0]++[pI .i64 0]++(eQ 0)++[pS aE.cod [(⟨1,v5⟩:aE)]]++[pS aE.cod [(⟨0,v5⟩:aE)]]++(eQ v10)++(eQ 0))),.a 51 ([pI .i64 0]++[pI .i64 0]++[pI .i64 0]++[pI .i64 0]++(eQ 0)++[pS aE.cod ([]:List aE)]++[pS aE.cod ([]:List aE)]++(eQ 0)++(eQ 0))] bK ⟨d0 (gF 0 4 rfl rfl rfl rfl (.agg tyA44)) zU1,d0 (fC (is:=[0,1]) (xs:=[.const (.int .i64 (1)),.tmp 15]) (ps:=[.vc (pI .i64 1),.va (eQ v5)]) rfl tyB92q rfl rfl ⟨trivial,trivial,trivial⟩ rfl) ⟨kL _ _,rfl,trivial⟩,d0 (sM (C:=aE.cod) (xs:=[.tmp 16]) (ps:=[.va ([pI .i64 1]++(eQ v5))]) (zs:=[(⟨1,v5⟩:aE)]) rfl tyS49 rfl ⟨⟨trivial,rfl⟩,trivial⟩ rfl) zU1,d0 (gF 0 4 rfl rfl rfl rfl (.agg tyA44)) zU1,d0 (fC (is:=[0,1]) (xs:=[.const (.int .i64 (0)),.tmp 18]) (ps:=[.vc (pI .i64 0),.va (eQ v5)]) rfl tyB92q rfl rfl ⟨trivial,trivial,trivial⟩ rfl) ⟨kL _ _,rfl,trivial⟩,d0 (sM (C:=aE.cod) (xs:=[.tmp 19]) (ps:=[.va ([pI .i64 0]++(eQ v5))]) (zs:=[(⟨0,v5⟩:aE)]) rfl tyS49 rfl ⟨⟨trivial,rfl⟩,trivial⟩ rfl) zU1,d0 (bS rfl h11 rfl) ⟨kL _ _,kL _ _,trivial⟩,d0 (fC (is:=[5,6,7]) (xs:=[.tmp 17,.tmp 20,.tmp 21]) (ps:=[.vc (pS aE.cod [(⟨1,v5⟩:aE)]),.vc (pS aE.cod [(⟨0,v5⟩:aE)]),.va (eQ v10)]) rfl tyB51q rfl rfl ⟨trivial,trivial,trivial,trivial⟩ rfl) ⟨rfl,rfl,rfl,trivial⟩,⟨rfl,.alc tyZ51q⟩,trivial⟩ (fun bs9 G8=>?_)
 obtain⟨v14,h15,hF⟩:=bD hF cG
 obtain⟨v16,h17,hF⟩:=bD hF cG
 obtain⟨v18,h19,hF⟩:=bD hF cG
 refine go ?_ ?_
 refine kG [0,0,3,0,0,24,0,120,248,0,760,0,3832,0,8192,32767,65535] 16 1 [.v (.va ((eQ v2)++(eQ 0)++[pB false]++(eQ 0)++(eQ 0))),.v (.va ((eQ v2)++(eQ 0)++[pB false]++(eQ 0)++(eQ 0))),.v (.vc (pS aG.cod [(⟨v2,0,false,0,0⟩:aG),(⟨v2,0,false,0,0⟩:aG)])),.v (.vc (pI .i64 a0)),.v (.vc (pI .i64 a2)),.v (.va (eQ v14)),.v (.vc (pI .i64 a1)),.v (.va (eQ v16)),.v (.vc (pS cQ [v14,v16])),.v (.vc (pI .i64 a3)),.v (.va (eQ v18)),.v (.va (eQ 0)),.v (.vc (pS cQ [v18,0])),.v (.va ([pI .i64 0]++[pI .i64 0]++[pI .i64 0]++[pI .i64 0]++(eQ 0)++[pS aE.cod [(⟨1,v5⟩:aE)]]++[pS aE.cod [(⟨0,v5⟩:aE)]]++(eQ v10)++(eQ 0))),.v (.vc (pS aA.cod [(⟨0,0,0,0,0,[(⟨1,v5⟩:aE)],[(⟨0,v5⟩:aE)],v10,0⟩:aA)])),.v (.va ([pS aG.cod [(⟨v2,0,false,0,0⟩:aG),(⟨v2,0,false,0,0⟩:aG)]]++[pS cQ [v14,v16]]++[pS cQ [v18,0]]++[pS aA.cod [(⟨0,0,0,0,0,[(⟨1,v5⟩:aE)],[(⟨0,v5⟩:aE)],v10,0⟩:aA)]]))] bK ⟨d0 (gF 2 17 rfl rfl rfl rfl (.agg tyA108)) zU1,d0 (gF 2 17 rfl rfl rfl rfl (.agg tyA108)) zU1,d0 (sM (C:=aG.cod) (xs:=[.tmp 23,.tmp 24]) (ps:=[.va ((eQ v2)++(eQ 0)++[pB false]++(eQ 0)++(eQ 0)),.va ((eQ v2)++(eQ 0)++[pB false]++(eQ 0)++(eQ 0))]) (zs:=[(⟨v2,0,false,0,0⟩:aG),(⟨v2,0,false,0,0⟩:aG)]) rfl tyS23 rfl ⟨⟨trivial,rfl⟩,⟨trivial,rfl⟩,trivial⟩ rfl) zU2,d0 (bW (.inl rfl)) zU1,d0 (bW (.inl rfl)) zU1,d0 (bS rfl h15 rfl) zU2,d0 (bW (.inl rfl)) zU1,d0 (bS rfl h17 rfl) ⟨rfl,kL _ _,trivial⟩,d0 (sM (C:=cQ) (xs:=[.tmp 28,.tmp 30]) (ps:=[.va (eQ v14),.va (eQ v16)]) (zs:=[v14,v16]) rfl tyS24 rfl ⟨⟨trivial,rfl⟩,⟨trivial,rfl⟩,trivial⟩ rfl) zU2,d0 (bW (.inl rfl)) zU1,d0 (bS rfl h19 rfl) ⟨rfl,kL _ _,trivial⟩,d0 (fC (is:=[]) (xs:=[]) (ps:=[]) rfl tyB44q rfl rfl trivial rfl) trivial,d0 (sM (C:=cQ) (xs:=[.tmp 33,.tmp 34]) (ps:=[.va (eQ v18),.va (eQ 0)]) (zs:=[v18,0]) rfl tyS24 rfl ⟨⟨trivial,rfl⟩,⟨trivial,rfl⟩,trivial⟩ rfl) zU2,d0 (gF 0 18 rfl rfl rfl rfl (.agg tyA51)) zU1,d0 (sM (C:=aA.cod) (xs:=[.tmp 36]) (ps:=[.va ([pI .i64 0]++[pI .i64 0]++[pI .i64 0]++[pI .i64 0]++(eQ 0)++[pS aE.cod [(⟨1,v5⟩:aE)]]++[pS aE.cod [(⟨0,v5⟩:aE)]]++(eQ v10)++(eQ 0))]) (zs:=[(⟨0,0,0,0,0,[(⟨1,v5⟩:aE)],[(⟨0,v5⟩:aE)],v10,0⟩:aA)]) rfl tyS25 rfl ⟨⟨trivial,rfl⟩,trivial⟩ rfl) zU1,d0 (fC (is:=[0,1,2,3]) (xs:=[.tmp 25,.tmp 31,.tmp 35,.tmp 37]) (ps:=[.vc (pS aG.cod [(⟨v2,0,false,0,0⟩:aG),(⟨v2,0,false,0,0⟩:aG)]),.vc (pS cQ [v14,v16]),.vc (pS cQ [v18,0]),.vc (pS aA.cod [(⟨0,0,0,0,0,[(⟨1,v5⟩:aE)],[(⟨0,v5⟩:aE)],v10,0⟩:aA)])]) rfl tyB27q rfl rfl ⟨trivial,trivial,trivial,trivial,trivial⟩ rfl) ⟨rfl,rfl,rfl,rfl,trivial⟩,trivial⟩ (fun bs13 G12=>?_)
 exact cA
def lL (K:Nat) (a0:aK) (a1:Rat) (a2:Rat) (a3:Rat) (a4:Rat):Option Bool:=
 (jZ K a0.dofs a0.load a0.v a0.rows).bind fun v6=>bif(v6.2.2 != 0) then(some false) else(bif((v6.1.length:Int) != 2) then(some false) else(bif((v6.2.1.length:Int) != 1) then(some false) else((bM v6.1 0).bind fun v13=>(xU v13 a1).bind fun v15=>bif v15 then((bM v6.1 1).bind fun v18=>(xU v18 a2).bind fun v20=>bif v20 then((bM v6.2.1 0).bind fun v23=>(xU v23.n a3).bind fun v25=>bif v25 then((bM v6.2.1 0).bind fun v28=>(xU v28.f a4).bind fun v30=>some v30) else(some false)) else(some false)) else(some false))))
theorem pG {K:Nat} {a0:aK} {a1:Rat} {a2:Rat} {a3:Rat} {a4:Rat} {r:Bool} (hF:lL K a0 a1 a2 a3 a4=some r):Ct Tryz.prog 89 [.va (aK.enc a0),.va (eQ a1),.va (eQ a2),.va (eQ a3),.va (eQ a4)] (.vc (pB r)):=by
 unfold lL at hF
 refine aI Tryz.func89 rfl (by kernel_rfl) Tryz.ntmps89 rfl (fun w0 M0=>?_)
 refine aM (aX (cT rfl rfl trivial (fun b1=>?_)))
 refine cT rfl rfl trivial (fun b2=>?_)
 refine cT rfl rfl trivial (fun b3=>?_)
 refine cT rfl rfl trivial (fun b4=>?_)
 refine cT rfl rfl trivial (fun b5=>?_)
 obtain⟨v6,h7,hF⟩:=bD hF sO
 refine go ?_ ?_
 refine dQ hF (fun h8 hF=>?_) (fun h8 hF=>?_)
 ·refine go ?_ ?_
  refine mD rfl ?_
  exact cA
 refine go ?_ ?_
 refine dQ hF (fun h9 hF=>?_) (fun h9 hF=>?_)
 ·refine go ?_ ?_
  refine mD rfl ?_
  exact cA
 refine go ?_ ?_
 refine aJ hF rfl (fun h10 hF=>?_) (fun h10 hF=>?_)
 ·exact cA
 obtain⟨v13,h14,hF⟩:=a9 hF
 obtain⟨v15,h16,hF⟩:=bD hF pU
 refine go ?_ ?_
 rcases Bool.eq_false_or_eq_true v15 with h17|h17
 ·have hF:=vZ h17 hF
  obtain⟨v18,h19,hF⟩:=a9 hF
  obtain⟨v20,h21,hF⟩:=bD hF pU
  rcases Bool.eq_false_or_eq_true v20 with h22|h22
  ·have hF:=vZ h22 hF
   obtain⟨v23,h24,hF⟩:=a9 hF
   obtain⟨v25,h26,hF⟩:=bD hF pU
   rcases Bool.eq_false_or_eq_true v25 with h27|h27
   ·have hF:=vZ h27 hF
    have hF:=tC h24 hF
    obtain⟨v30,h31,hF⟩:=bD hF pU
    refine drb (0::1::3::0::15::31::63::127::255::63::1023::2047::4095::8191::16383::32767::65535::8191::262143::524287::1048575::2097151::4194303::8388607::16777215::2097151::67108863::134217727::268435455::[]) 29 0 ?_ (fun bs12 G11=>?_)
    refine bQ (aS ?_)
    exact cA
   have hF:=vX h27 hF
   refine drb (0::1::3::0::15::31::63::127::255::63::1023::2047::4095::8191::16383::32767::65535::8191::262143::524287::1048575::2097151::4194303::8388607::16777215::2097151::67108863::134217727::268435455::[]) 29 0 ?_ (fun bs12 G11=>?_)
   refine bQ (aS ?_)
   exact cA
  have hF:=vX h22 hF
  refine drb (0::1::3::0::15::31::63::127::255::63::1023::2047::4095::8191::16383::32767::65535::8191::262143::524287::1048575::2097151::4194303::8388607::16777215::2097151::67108863::134217727::268435455::[]) 29 0 ?_ (fun bs12 G11=>?_)
  refine bQ (aS ?_)
  exact cA
 have hF:=vX h17 hF
 refine drb (0::1::3::0::15::31::63::127::255::63::1023::2047::4095::8191::16383::32767::65535::8191::262143::524287::1048575::2097151::4194303::8388607::16777215::2097151::67108863::134217727::268435455::[]) 29 0 ?_ (fun bs12 G11=>?_)
 refine bQ (aS ?_)
 exact cA
def qA (K:Nat):Option Bool:=
 (qof 1 1).bind fun v2=>(qof (-1) 2).bind fun v5=>(lM 0 (-1) 1 1).bind fun v8=>(jZ K v8.dofs v8.load v8.v v8.rows).bind fun v11=>(lM 1 (-1) 4 0).bind fun v15=>(qof (-1) 4).bind fun v17=>(lL K v15 0 0 v2 v17).bind fun v19=>bif v19 then((lM 1 (-1) 1 0).bind fun v22=>(qof 1 4).bind fun v24=>(lL K v22 v24 0 v2 v5).bind fun v26=>bif v26 then((lM 0 1 1 0).bind fun v29=>(qof 1 2).bind fun v31=>(lL K v29 0 v31 0 0).bind fun v33=>bif v33 then((qof (-1) 4).bind fun v36=>(lL K v8 v36 0 v2 v5).bind fun v38=>bif v38 then(bif(v11.2.2==0) then((yW K v8.v v11.1 v8.rows).bind fun v42=>bif v42 then((yQ K v8.dofs v8.load v8.v v8.rows v11.1 v11.2.1).bind fun v45=>some (v45==0)) else(some false)) else(some false)) else(some false)) else(some false)) else(some false)) else(some false)
theorem aAU {K:Nat} {r:Bool} (hF:qA K=some r):Ct Tryz.prog 23 [] (.vc (pB r)):=by
 unfold qA at hF
 refine aI Tryz.func23 rfl (by kernel_rfl) Tryz.ntmps23 rfl (fun w0 M0=>?_)
 refine go ?_ ?_
 refine aN rfl tyZ44q (fun b1=>?_)
 obtain⟨v2,h3,hF⟩:=bD hF cG
 refine go ?_ ?_
 refine aN rfl tyZ44q (fun b4=>?_)
 obtain⟨v5,h6,hF⟩:=bD hF cG
 refine go ?_ ?_
 refine aN rfl tyZ44q (fun b7=>?_)
 obtain⟨v8,h9,hF⟩:=bD hF pH
 refine go ?_ ?_
 refine aN rfl tyZ27q (fun b10=>?_)
 obtain⟨v11,h12,hF⟩:=bD hF sO
 obtain⟨v15,h16,hF⟩:=bD hF pH
 obtain⟨v17,h18,hF⟩:=bD hF cG
 obtain⟨v19,h20,hF⟩:=bD hF pG
 refine go ?_ ?_
 rcases Bool.eq_false_or_eq_true v19 with h21|h21
 ·have hF:=vZ h21 hF
  obtain⟨v22,h23,hF⟩:=bD hF pH
  obtain⟨v24,h25,hF⟩:=bD hF cG
  obtain⟨v26,h27,hF⟩:=bD hF pG
  rcases Bool.eq_false_or_eq_true v26 with h28|h28
  ·have hF:=vZ h28 hF
   obtain⟨v29,h30,hF⟩:=bD hF pH
   obtain⟨v31,h32,hF⟩:=bD hF cG
   obtain⟨v33,h34,hF⟩:=bD hF pG
   rcases Bool.eq_false_or_eq_true v33 with h35|h35
   ·have hF:=vZ h35 hF
    obtain⟨v36,h37,hF⟩:=bD hF cG
    obtain⟨v38,h39,hF⟩:=bD hF pG
    refine kG (0::0::0::0::1::31::63::127::255::127::127::127::4095::8191::16383::32767::32767::65535::32767::32767::1048575::2097151::4194303::8388607::8388607::8388607::8388607::8388607::268435455::536870911::1073741823::[]) 31 0 (.v (.va (aK.enc v15))::.v (.va (eQ 0))::.v (.va (eQ 0))::.v (.va (eQ v2))::.v (.va (eQ v17))::.v (.vc (pB v19))::.v (.vc (pB true))::.v (.va (aK.enc v22))::.v (.va (eQ v24))::.v (.va (eQ 0))::.v (.va (eQ v2))::.v (.va (eQ v5))::.v (.vc (pB v26))::.v (.vc (pB v26))::.v (.vc (pB true))::.v (.va (aK.enc v29))::.v (.va (eQ 0))::.v (.va (eQ v31))::.v (.va (eQ 0))::.v (.va (eQ 0))::.v (.vc (pB v33))::.v (.vc (pB v33))::.v (.vc (pB true))::.v (.va (aK.enc v8))::.v (.va (eQ v36))::.v (.va (eQ 0))::.v (.va (eQ v2))::.v (.va (eQ v5))::.v (.vc (pB v38))::.v (.vc (pB v38))::.v (.vc (pB v38))::[]) bK ⟨d0 (bS rfl h16 rfl) ⟨kL _ _,kL _ _,kL _ _,kL _ _,trivial⟩,d0 (gF 3 4 rfl rfl rfl rfl (.agg tyA44)) zU1,d0 (gF 3 4 rfl rfl rfl rfl (.agg tyA44)) zU1,d0 (gF 2 4 rfl rfl rfl rfl (.agg tyA44)) zU1,d0 (bS rfl h18 rfl) ⟨kL _ _,kL _ _,trivial⟩,d0 (bS rfl h20 rfl) ⟨rfl,rfl,rfl,rfl,rfl,trivial⟩,d0 (kW (bW (.inl rfl)) h21) zU1,g0 (bS rfl h23 rfl) ⟨kL _ _,kL _ _,kL _ _,kL _ _,trivial⟩,g0 (bS rfl h25 rfl) ⟨kL _ _,kL _ _,trivial⟩,g0 (gF 3 4 rfl rfl rfl rfl (.agg tyA44)) zU1,g0 (gF 2 4 rfl rfl rfl rfl (.agg tyA44)) zU1,g0 (gF 1 4 rfl rfl rfl rfl (.agg tyA44)) zU1,g0 (bS rfl h27 rfl) ⟨rfl,rfl,rfl,rfl,rfl,trivial⟩,d0 (wO rfl) zU2,d0 (kW (bW (.inl rfl)) h28) zU1,g0 (bS rfl h30 rfl) ⟨kL _ _,kL _ _,kL _ _,kL _ _,trivial⟩,g0 (gF 3 4 rfl rfl rfl rfl (.agg tyA44)) zU1,g0 (bS rfl h32 rfl) ⟨kL _ _,kL _ _,trivial⟩,g0 (gF 3 4 rfl rfl rfl rfl (.agg tyA44)) zU1,g0 (gF 3 4 rfl rfl rfl rfl (.agg tyA44)) zU1,g0 (bS rfl h34 rfl) ⟨rfl,rfl,rfl,rfl,rfl,trivial⟩,d0 (wO rfl) zU2,d0 (kW (bW (.inl rfl)) h35) zU1,g0 (gF 0 4 rfl rfl rfl rfl (.agg tyA27)) zU1,g0 (bS rfl h37 rfl) ⟨kL _ _,kL _ _,trivial⟩,g0 (gF 3 4 rfl rfl rfl rfl (.agg tyA44)) zU1,g0 (gF 2 4 rfl rfl rfl rfl (.agg tyA44)) zU1,g0 (gF 1 4 rfl rfl rfl rfl (.agg tyA44)) zU1,g0 (bS rfl h39 rfl) ⟨rfl,rfl,rfl,rfl,rfl,trivial⟩,d0 (wO rfl) zU2,d0 (bW (.inr rfl)) zU1,trivial⟩ (fun bs14 G13=>?_)
    refine go ?_ ?_
    refine dQ hF (fun h40 hF=>?_) (fun h40 hF=>?_)
    ·refine go ?_ ?_
     refine dQ hF (fun h41 hF=>?_) (fun h41 hF=>?_)
     ·obtain⟨v42,h43,hF⟩:=bD hF aDF
      refine go ?_ ?_
      refine dQ hF (fun h44 hF=>?_) (fun h44 hF=>?_)
      ·obtain⟨v45,h46,hF⟩:=bD hF aEm
       exact cA
      exact cA
     exact cA
    exact cA
   have hF:=vX h35 hF
   refine kG (0::0::0::0::1::31::63::127::255::127::127::127::4095::8191::16383::32767::32767::65535::32767::32767::1048575::2097151::4194303::8388607::8388607::8388607::8388607::8388607::268435455::536870911::1073741823::[]) 31 0 (.v (.va (aK.enc v15))::.v (.va (eQ 0))::.v (.va (eQ 0))::.v (.va (eQ v2))::.v (.va (eQ v17))::.v (.vc (pB v19))::.v (.vc (pB true))::.v (.va (aK.enc v22))::.v (.va (eQ v24))::.v (.va (eQ 0))::.v (.va (eQ v2))::.v (.va (eQ v5))::.v (.vc (pB v26))::.v (.vc (pB v26))::.v (.vc (pB true))::.v (.va (aK.enc v29))::.v (.va (eQ 0))::.v (.va (eQ v31))::.v (.va (eQ 0))::.v (.va (eQ 0))::.v (.vc (pB v33))::.v (.vc (pB v33))::.v (.vc (pB false))::.v .un::.v .un::.v .un::.v .un::.v .un::.v .un::.v (.vc (pB false))::.v (.vc (pB false))::[]) bK ⟨d0 (bS rfl h16 rfl) ⟨kL _ _,kL _ _,kL _ _,kL _ _,trivial⟩,d0 (gF 3 4 rfl rfl rfl rfl (.agg tyA44)) zU1,d0 (gF 3 4 rfl rfl rfl rfl (.agg tyA44)) zU1,d0 (gF 2 4 rfl rfl rfl rfl (.agg tyA44)) zU1,d0 (bS rfl h18 rfl) ⟨kL _ _,kL _ _,trivial⟩,d0 (bS rfl h20 rfl) ⟨rfl,rfl,rfl,rfl,rfl,trivial⟩,d0 (kW (bW (.inl rfl)) h21) zU1,g0 (bS rfl h23 rfl) ⟨kL _ _,kL _ _,kL _ _,kL _ _,trivial⟩,g0 (bS rfl h25 rfl) ⟨kL _ _,kL _ _,trivial⟩,g0 (gF 3 4 rfl rfl rfl rfl (.agg tyA44)) zU1,g0 (gF 2 4 rfl rfl rfl rfl (.agg tyA44)) zU1,g0 (gF 1 4 rfl rfl rfl rfl (.agg tyA44)) zU1,g0 (bS rfl h27 rfl) ⟨rfl,rfl,rfl,rfl,rfl,trivial⟩,d0 (wO rfl) zU2,d0 (kW (bW (.inl rfl)) h28) zU1,g0 (bS rfl h30 rfl) ⟨kL _ _,kL _ _,kL _ _,kL _ _,trivial⟩,g0 (gF 3 4 rfl rfl rfl rfl (.agg tyA44)) zU1,g0 (bS rfl h32 rfl) ⟨kL _ _,kL _ _,trivial⟩,g0 (gF 3 4 rfl rfl rfl rfl (.agg tyA44)) zU1,g0 (gF 3 4 rfl rfl rfl rfl (.agg tyA44)) zU1,g0 (bS rfl h34 rfl) ⟨rfl,rfl,rfl,rfl,rfl,trivial⟩,d0 (wO rfl) zU2,d0 (kW (bW (.inl rfl)) h35) zU1,⟨rfl,.skipN⟩,⟨rfl,.skipN⟩,⟨rfl,.skipN⟩,⟨rfl,.skipN⟩,⟨rfl,.skipN⟩,⟨rfl,.skipN⟩,d0 (xD rfl) ⟨rfl,k_B _,trivial⟩,d0 (bW (.inr rfl)) zU1,trivial⟩ (fun bs14 G13=>?_)
   exact cA
  have hF:=vX h28 hF
  refine kG (0::0::0::0::1::31::63::127::255::127::127::127::4095::8191::16383::32767::32767::65535::32767::32767::1048575::2097151::4194303::8388607::8388607::8388607::8388607::8388607::268435455::536870911::1073741823::[]) 31 0 (.v (.va (aK.enc v15))::.v (.va (eQ 0))::.v (.va (eQ 0))::.v (.va (eQ v2))::.v (.va (eQ v17))::.v (.vc (pB v19))::.v (.vc (pB true))::.v (.va (aK.enc v22))::.v (.va (eQ v24))::.v (.va (eQ 0))::.v (.va (eQ v2))::.v (.va (eQ v5))::.v (.vc (pB v26))::.v (.vc (pB v26))::.v (.vc (pB false))::.v .un::.v .un::.v .un::.v .un::.v .un::.v .un::.v (.vc (pB false))::.v (.vc (pB false))::.v .un::.v .un::.v .un::.v .un::.v .un::.v .un::.v (.vc (pB false))::.v (.vc (pB false))::[]) bK ⟨d0 (bS rfl h16 rfl) ⟨kL _ _,kL _ _,kL _ _,kL _ _,trivial⟩,d0 (gF 3 4 rfl rfl rfl rfl (.agg tyA44)) zU1,d0 (gF 3 4 rfl rfl rfl rfl (.agg tyA44)) zU1,d0 (gF 2 4 rfl rfl rfl rfl (.agg tyA44)) zU1,d0 (bS rfl h18 rfl) ⟨kL _ _,kL _ _,trivial⟩,d0 (bS rfl h20 rfl) ⟨rfl,rfl,rfl,rfl,rfl,trivial⟩,d0 (kW (bW (.inl rfl)) h21) zU1,g0 (bS rfl h23 rfl) ⟨kL _ _,kL _ _,kL _ _,kL _ _,trivial⟩,g0 (bS rfl h25 rfl) ⟨kL _ _,kL _ _,trivial⟩,g0 (gF 3 4 rfl rfl rfl rfl (.agg tyA44)) zU1,g0 (gF 2 4 rfl rfl rfl rfl (.agg tyA44)) zU1,g0 (gF 1 4 rfl rfl rfl rfl (.agg tyA44)) zU1,g0 (bS rfl h27 rfl) ⟨rfl,rfl,rfl,rfl,rfl,trivial⟩,d0 (wO rfl) zU2,d0 (kW (bW (.inl rfl)) h28) zU1,⟨rfl,.skipN⟩,⟨rfl,.skipN⟩,⟨rfl,.skipN⟩,⟨rfl,.skipN⟩,⟨rfl,.skipN⟩,⟨rfl,.skipN⟩,d0 (xD rfl) ⟨rfl,k_B _,trivial⟩,d0 (bW (.inl rfl)) zU1,⟨rfl,.skipN⟩,⟨rfl,.skipN⟩,⟨rfl,.skipN⟩,⟨rfl,.skipN⟩,⟨rfl,.skipN⟩,⟨rfl,.skipN⟩,d0 (xD rfl) ⟨rfl,k_B _,trivial⟩,d0 (bW (.inr rfl)) zU1,trivial⟩ (fun bs14 G13=>?_)
  exact cA
 have hF:=vX h21 hF
 refine kG (0::0::0::0::1::31::63::127::255::127::127::127::4095::8191::16383::32767::32767::65535::32767::32767::1048575::2097151::4194303::8388607::8388607::8388607::8388607::8388607::268435455::536870911::1073741823::[]) 31 0 (.v (.va (aK.enc v15))::.v (.va (eQ 0))::.v (.va (eQ 0))::.v (.va (eQ v2))::.v (.va (eQ v17))::.v (.vc (pB v19))::.v (.vc (pB false))::.v .un::.v .un::.v .un::.v .un::.v .un::.v .un::.v (.vc (pB false))::.v (.vc (pB false))::.v .un::.v .un::.v .un::.v .un::.v .un::.v .un::.v (.vc (pB false))::.v (.vc (pB false))::.v .un::.v .un::.v .un::.v .un::.v .un::.v .un::.v (.vc (pB false))::.v (.vc (pB false))::[]) bK ⟨d0 (bS rfl h16 rfl) ⟨kL _ _,kL _ _,kL _ _,kL _ _,trivial⟩,d0 (gF 3 4 rfl rfl rfl rfl (.agg tyA44)) zU1,d0 (gF 3 4 rfl rfl rfl rfl (.agg tyA44)) zU1,d0 (gF 2 4 rfl rfl rfl rfl (.agg tyA44)) zU1,d0 (bS rfl h18 rfl) ⟨kL _ _,kL _ _,trivial⟩,d0 (bS rfl h20 rfl) ⟨rfl,rfl,rfl,rfl,rfl,trivial⟩,d0 (kW (bW (.inl rfl)) h21) zU1,⟨rfl,.skipN⟩,⟨rfl,.skipN⟩,⟨rfl,.skipN⟩,⟨rfl,.skipN⟩,⟨rfl,.skipN⟩,⟨rfl,.skipN⟩,d0 (xD rfl) ⟨rfl,k_B _,trivial⟩,d0 (bW (.inl rfl)) zU1,⟨rfl,.skipN⟩,⟨rfl,.skipN⟩,⟨rfl,.skipN⟩,⟨rfl,.skipN⟩,⟨rfl,.skipN⟩,⟨rfl,.skipN⟩,d0 (xD rfl) ⟨rfl,k_B _,trivial⟩,d0 (bW (.inl rfl)) zU1,⟨rfl,.skipN⟩,⟨rfl,.skipN⟩,⟨rfl,.skipN⟩,⟨rfl,.skipN⟩,⟨rfl,.skipN⟩,⟨rfl,.skipN⟩,d0 (xD rfl) ⟨rfl,k_B _,trivial⟩,d0 (bW (.inr rfl)) zU1,trivial⟩ (fun bs14 G13=>?_)
 exact cA
end Go.Proofs.YtcjdedkdoagifaaGreat
set_option linter.unusedVariables false
set_option maxRecDepth 100000
namespace Go.Proofs.YtcjdedkdoagifaaGreat
def eV (K:Nat) (v1:aK) (v54:(List Rat)×(List aF)×Int) (v56:(List Rat)×(List aF)×Int) (x59:List aA):Option Bool:=
 (jZ K v1.dofs v1.load v1.v x59).bind fun v61=>bif(v54.2.2==0) then(bif(v56.2.2==0) then(bif(v61.2.2==0) then((jV K v54.1 v56.1).bind fun v66=>bif v66 then((jV K v54.1 v61.1).bind fun v69=>bif v69 then(bif((v54.1.length:Int)==(v1.dofs.length:Int)) then((qA K).bind fun v73=>some v73) else(some false)) else(some false)) else(some false)) else(some false)) else(some false)) else(some false)
def jT (K:Nat) (a2:Int) (v1:aK) (x22:List aA) (x46:List aA):Option Bool:=
 (jZ K v1.dofs v1.load v1.v x22).bind fun v54=>(jZ K v1.dofs v1.load v1.v x46).bind fun v56=>bif(decide (0<(x22.length:Int))) then((qD ([]:List aA) x22).bind fun x79=>(kQ a2 (x22.length:Int)).bind fun v86=>(bM x22 v86).bind fun v88=>(qD x79 [v88]).bind fun x90=>eV K v1 v54 v56 x90) else(eV K v1 v54 v56 x22)
def cY (K:Nat) (x22:List aA):Nat→(List aA)→Int→Option (List aA)
 |0,_,_=>none
 |k+1,x39,x45=>bif(decide (0≤x45)) then((bM x22 x45).bind fun v98=>(qD x39 [v98]).bind fun x100=>(aP (x45-1)).bind fun v107=>cY K x22 k x100 v107) else(some x39)
def jQ (K:Nat) (a2:Int) (v1:aK) (x22:List aA):Option Bool:=
 (aP ((x22.length:Int)-1)).bind fun v30=>(cY K x22 K ([]:List aA) v30).bind fun x46=>jT K a2 v1 x22 x46
def cZ (K:Nat) (v1:aK):Nat→(List aA)→Int→Option (List aA)
 |0,_,_=>none
 |k+1,x15,x21=>bif(decide (x21<(v1.rows.length:Int))) then((bM v1.rows x21).bind fun v110=>(qD x15 [(⟨0,0,x21,0,0,v110.j,([]:List aE),0,0⟩:aA)]).bind fun x112=>(aP (x21+1)).bind fun v119=>cZ K v1 k x112 v119) else(some x15)
def jD (K:Nat) (a0:List Int) (a1:Bool) (a2:Int):Option Bool:=
 (kE K a0 a1).bind fun v1=>(cZ K v1 K ([]:List aA) 0).bind fun x22=>jQ K a2 v1 x22
theorem xO {K:Nat} {a0:List Int} {a1:Bool} {a2:Int} {r:Bool} (hF:jD K a0 a1 a2=some r):Ct Tryz.prog 5 [.vc (pS cI a0),.vc (pB a1),.vc (pI .i64 a2)] (.vc (pB r)):=by
 unfold jD at hF
 refine aI Tryz.func5 rfl (by kernel_rfl) Tryz.ntmps5 rfl (fun w0 M0=>?_)
 obtain⟨v1,h2,hF⟩:=bD hF aBj
 refine go ?_ ?_
 refine aN rfl tyZ27q (fun b3=>?_)
 refine oS (t_s 0 rfl rfl rfl tyA27.s) zU2 ?_
 refine bQ (aS (aM (aX (wV aA.cod 51 rfl ?_))))
 refine bQ (aS (aM (aX (wV aA.cod 51 rfl ?_))))
 refine go ?_ ?_
 refine aV (cJ (fun H E=>∃(x22:List aA),∃(b23:Option Nat),∃(c24:Nat),∃(n25:Nat),jQ K a2 v1 x22=some r∧x22.length=n25∧H=[hO aA.cod none 0 51 0 ([]:List aA),hO aA.cod b23 c24 51 n25 x22,⟨some b3,1,27,4,1,(aK.enc v1)⟩]∧E=[(2,.vc (pI .i64 a2)),(7,.vc (pP (some b3) 0)),(8,.vc (pO b23 n25 c24)),(9,.vc (pO none 0 0))]) ?_ (fun Jj29=>?_))
 ·rintro _ _ ⟨x22,b23,c24,n25,hF,q26,rfl,rfl⟩
  unfold jQ at hF
  obtain⟨v30,h31,hF⟩:=a9 hF
  refine go ?_ ?_
  refine aV (cJ (fun H E=>∃(x46:List aA),∃(b47:Option Nat),∃(c48:Nat),∃(n49:Nat),jT K a2 v1 x22 x46=some r∧x46.length=n49∧H=[hO aA.cod b47 c48 51 n49 x46,hO aA.cod b23 c24 51 n25 x22,⟨some b3,1,27,4,1,(aK.enc v1)⟩]∧E=[(2,.vc (pI .i64 a2)),(7,.vc (pP (some b3) 0)),(8,.vc (pO b23 n25 c24)),(9,.vc (pO b47 n49 c48))]) ?_ (fun Jj53=>?_))
  ·rintro _ _ ⟨x46,b47,c48,n49,hF,q50,rfl,rfl⟩
   unfold jT at hF
   refine aS (aM (aX (aR (oK (off:=0) (k:=0) rfl tyF27_0) zU1 ?_)))
   refine aR (gF 2 1 rfl rfl rfl rfl (.one tyO23)) zU1 ?_
   refine aR (oK (off:=0) (k:=1) rfl tyF27_1) zU1 ?_
   refine aR (gF 2 1 rfl rfl rfl rfl (.one tyO24)) zU1 ?_
   refine aR (oK (off:=0) (k:=2) rfl tyF27_2) zU1 ?_
   refine aR (gF 2 1 rfl rfl rfl rfl (.one tyO24)) zU1 ?_
   refine mF ?_
   refine aAZ 1 [8,64] rfl q26 zU2 rfl ?_
   obtain⟨v54,h55,hF⟩:=bD hF sO
   refine aR (bS rfl h55 rfl) ⟨rfl,rfl,rfl,rfl,trivial⟩ ?_
   refine mF ?_
   refine aR (aDp rfl) zU1 ?_
   refine aR (aDr rfl) zU1 ?_
   refine aR (aDm rfl) zU1 ?_
   refine wX ?_
   refine wX ?_
   refine wX ?_
   refine bQ (aS (aM (aX (aR (oK (off:=0) (k:=0) rfl tyF27_0) zU1 ?_))))
   refine aR (gF 1 1 rfl rfl rfl rfl (.one tyO23)) zU1 ?_
   refine aR (oK (off:=0) (k:=1) rfl tyF27_1) zU1 ?_
   refine aR (gF 1 1 rfl rfl rfl rfl (.one tyO24)) zU1 ?_
   refine aR (oK (off:=0) (k:=2) rfl tyF27_2) zU1 ?_
   refine aR (gF 1 1 rfl rfl rfl rfl (.one tyO24)) zU1 ?_
   refine mF ?_
   refine aAZ 0 [9,76] rfl q50 zU2 rfl ?_
   obtain⟨v56,h57,hF⟩:=bD hF sO
   refine aR (bS rfl h57 rfl) ⟨rfl,rfl,rfl,rfl,trivial⟩ ?_
   refine mF ?_
   refine aR (aDp rfl) zU1 ?_
   refine aR (aDr rfl) zU1 ?_
   refine aR (aDm rfl) zU1 ?_
   refine wX ?_
   refine wX ?_
   refine wX ?_
   refine bQ (aS (aM (aX (mF ?_))))
   refine wX ?_
   refine bQ (aS (aM (uM (fun H E=>∃(x59:List aA),eV K v1 v54 v56 x59=some r∧H=[⟨some b3,1,27,4,1,(aK.enc v1)⟩]∧E=[(7,.vc (pP (some b3) 0)),(12,.vc (pS cQ v54.1)),(14,.vc (pI .i64 v54.2.2)),(15,.vc (pS cQ v56.1)),(17,.vc (pI .i64 v56.2.2)),(18,.vc (pS aA.cod x59))]) ?_ (fun Jj60=>?_))))
   ·rintro _ _ ⟨x59,hF,rfl,rfl⟩
    unfold eV at hF
    obtain⟨v61,h62,hF⟩:=bD hF sO
    refine go ?_ ?_
    refine dQ hF (fun h63 hF=>?_) (fun h63 hF=>?_)
    ·refine go ?_ ?_
     refine dQ hF (fun h64 hF=>?_) (fun h64 hF=>?_)
     ·refine go ?_ ?_
      refine dQ hF (fun h65 hF=>?_) (fun h65 hF=>?_)
      ·obtain⟨v66,h67,hF⟩:=bD hF u9
       refine go ?_ ?_
       refine dQ hF (fun h68 hF=>?_) (fun h68 hF=>?_)
       ·obtain⟨v69,h70,hF⟩:=bD hF u9
        refine go ?_ ?_
        refine dQ hF (fun h71 hF=>?_) (fun h71 hF=>?_)
        ·refine go ?_ ?_
         refine dQ hF (fun h72 hF=>?_) (fun h72 hF=>?_)
         ·obtain⟨v73,h74,hF⟩:=bD hF aAU
          exact cA
         exact cA
        exact cA
       exact cA
      exact cA
     exact cA
    exact cA
   refine go ?_ ?_
   refine aJ hF rfl (fun h75 hF=>?_) (fun h75 hF=>?_)
   ·refine aX (aIh (aH1 (C:=aA.cod) (xs:=[]) (ps:=[]) (zs:=([]:List aA)) rfl tyS25 rfl trivial rfl) trivial (fun b76 _=>?_))
    refine mF ?_
    obtain⟨x79,h80,hF⟩:=a9 hF
    refine o8 0 rfl tyS25 rfl rfl rfl rfl rfl h80 (fun b81 c82 H83 e84=>?_)
    cases e84
    obtain⟨v86,h87,hF⟩:=bD hF vY
    obtain⟨v88,h89,hF⟩:=a9 hF
    refine go ?_ ?_
    refine aR (sM (C:=aA.cod) (xs:=[.tmp 94]) (ps:=[.va (aA.enc v88)]) (zs:=[v88]) rfl tyS25 rfl ⟨⟨trivial,rfl⟩,trivial⟩ rfl) zU1 ?_
    obtain⟨x90,h91,hF⟩:=a9 hF
    refine o8 0 rfl tyS25 rfl rfl (f7 h80 rfl) rfl rfl h91 (fun b92 c93 H94 e95=>?_)
    cases e95
    refine wX ?_
    refine bQ (yF 0 [18,96] rfl (f7 h91 (f7 h80 rfl)) zU2 rfl ?_)
    exact qB Jj60 ⟨x90,hF,rfl,rfl⟩ [0]
   refine iO ?_
   exact qB Jj60 ⟨x22,hF,rfl,rfl⟩ [0]
  obtain⟨x46',hL,hRl52⟩:=a9 hF
  refine iT (fun k a w=>∃(x39:List aA),∃(x45:Int),∃(b40:Option Nat),∃(c41:Nat),∃(n42:Nat),cY K x22 k x39 x45=some x46'∧x39.length=n42∧hs _ [hO aA.cod b40 c41 51 n42 x39,hO aA.cod b23 c24 51 n25 x22,⟨some b3,1,27,4,1,(aK.enc v1)⟩] [(2,.vc (pI .i64 a2)),(7,.vc (pP (some b3) 0)),(8,.vc (pO b23 n25 c24)),(9,.vc (pO b40 n42 c41)),(11,.vc (pI .i64 x45))] a w) K (fun a w ⟨_,_,_,_,_,hF,_,_⟩=>by cases hF) (fun k a w ⟨x39,x45,b40,c41,n42,hF,q43,hh⟩=>iS ?_ hh) (fun a w hh=>⟨([]:List aA),v30,none,0,0,hL,rfl,iH [0,1,2] hh⟩)
  rw [cY.eq_2] at hF
  refine go ?_ ?_
  refine aJ hF rfl (fun h97 hF=>?_) (fun h97 hF=>?_)
  ·refine go ?_ ?_
   refine aV ?_
   obtain⟨v98,h99,hF⟩:=a9 hF
   refine go ?_ ?_
   refine aR (sM (C:=aA.cod) (xs:=[.tmp 54]) (ps:=[.va (aA.enc v98)]) (zs:=[v98]) rfl tyS25 rfl ⟨⟨trivial,rfl⟩,trivial⟩ rfl) zU1 ?_
   obtain⟨x100,h101,hF⟩:=a9 hF
   refine o8 0 rfl tyS25 rfl rfl q43 rfl rfl h101 (fun b102 c103 H104 e105=>?_)
   cases e105
   obtain⟨v107,h108,hF⟩:=a9 hF
   refine go ?_ ?_
   exact aL (fun a w hh=>⟨x100,v107,b102,c103,(n42+[v98].length),hF,(f7 h101 q43),iH [0,1,2] hh⟩)
  refine dJ ?_
  obtain rfl:=qN hF
  exact qB Jj53 ⟨x39,b40,c41,n42,hRl52,q43,rfl,rfl⟩ [0,1,2]
 obtain⟨x22',hL,hRl28⟩:=a9 hF
 refine iT (fun k a w=>∃(x15:List aA),∃(x21:Int),∃(b16:Option Nat),∃(c17:Nat),∃(n18:Nat),cZ K v1 k x15 x21=some x22'∧x15.length=n18∧hs _ [hO aA.cod none 0 51 0 ([]:List aA),hO aA.cod b16 c17 51 n18 x15,⟨some b3,1,27,4,1,(aK.enc v1)⟩] [(2,.vc (pI .i64 a2)),(7,.vc (pP (some b3) 0)),(8,.vc (pO b16 n18 c17)),(9,.vc (pO none 0 0)),(10,.vc (pI .i64 x21))] a w) K (fun a w ⟨_,_,_,_,_,hF,_,_⟩=>by cases hF) (fun k a w ⟨x15,x21,b16,c17,n18,hF,q19,hh⟩=>iS ?_ hh) (fun a w hh=>⟨([]:List aA),0,none,0,0,hL,rfl,iH [0,1,2] hh⟩)
 rw [cZ.eq_2] at hF
 refine go ?_ ?_
 refine aJ hF rfl (fun h109 hF=>?_) (fun h109 hF=>?_)
 ·refine go ?_ ?_
  refine aV ?_
  obtain⟨v110,h111,hF⟩:=a9 hF
  refine go ?_ ?_
  refine aR (fC (is:=[5,2]) (xs:=[.tmp 38,.tmp 39]) (ps:=[.vc (pS aE.cod v110.j),.vc (pI .i64 x21)]) rfl tyB51q rfl rfl ⟨trivial,trivial,trivial⟩ rfl) zU2 ?_
  refine aR (sM (C:=aA.cod) (xs:=[.tmp 40]) (ps:=[.va ([pI .i64 0]++[pI .i64 0]++[pI .i64 x21]++[pI .i64 0]++(eQ 0)++[pS aE.cod v110.j]++[pS aE.cod ([]:List aE)]++(eQ 0)++(eQ 0))]) (zs:=[(⟨0,0,x21,0,0,v110.j,([]:List aE),0,0⟩:aA)]) rfl tyS25 rfl ⟨⟨trivial,rfl⟩,trivial⟩ rfl) zU1 ?_
  obtain⟨x112,h113,hF⟩:=a9 hF
  refine o8 1 rfl tyS25 rfl rfl q19 rfl rfl h113 (fun b114 c115 H116 e117=>?_)
  cases e117
  obtain⟨v119,h120,hF⟩:=a9 hF
  refine go ?_ ?_
  exact aL (fun a w hh=>⟨x112,v119,b114,c115,(n18+[(⟨0,0,x21,0,0,v110.j,([]:List aE),0,0⟩:aA)].length),hF,(f7 h113 q19),iH [0,1,2] hh⟩)
 refine dJ ?_
 obtain rfl:=qN hF
 exact qB Jj29 ⟨x15,b16,c17,n18,hRl28,q19,rfl,rfl⟩ [0,1,2]
def sY (K:Nat) (x17:List aQ):Option (List aQ):=
 some x17
def eP (K:Nat) (a0:List Rat) (a1:List aA):Nat→(List aQ)→Int→Option (List aQ)
 |0,_,_=>none
 |k+1,x10,x16=>bif(decide (x16<(a1.length:Int))) then((qD x10 [(⟨x16,0⟩:aQ)]).bind fun x26=>(bM a1 x16).bind fun v33=>bif(decide (0<(v33.t.length:Int))) then((bM a1 x16).bind fun v36=>(qU K v36 a0).bind fun v38=>bif(v38==0) then((qD x26 [(⟨x16,1⟩:aQ),(⟨x16,2⟩:aQ),(⟨x16,3⟩:aQ)]).bind fun x41=>(aP (x16+1)).bind fun v48=>eP K a0 a1 k x41 v48) else((aP (x16+1)).bind fun v50=>eP K a0 a1 k x26 v50)) else((aP (x16+1)).bind fun v52=>eP K a0 a1 k x26 v52)) else(some x10)
def jA (K:Nat) (a0:List Rat) (a1:List aA):Option (List aQ):=
 (eP K a0 a1 K ([]:List aQ) 0).bind fun x17=>sY K x17
def tJ (K:Nat) (a0:aA) (a1:List Rat) (a2:List Rat):Option aF:=
 (qU K a0 a1).bind fun v3=>bif((a0.t.length:Int)==0) then((bM a2 0).bind fun v6=>some (⟨v6,0⟩:aF)) else(bif(v3 != 0) then((bM a2 0).bind fun v11=>(aP (-v3)).bind fun v13=>(qof v13 1).bind fun v15=>(bM a2 0).bind fun v17=>(z5 a0.mu v17).bind fun v19=>(z5 v15 v19).bind fun v21=>some (⟨v11,v21⟩:aF)) else((bM a2 0).bind fun v25=>(bM a2 1).bind fun v27=>(bM a2 2).bind fun v29=>(aEO v27 v29).bind fun v31=>some (⟨v25,v31⟩:aF)))
def tZ (K:Nat) (x19:List aF):Option (List aF):=
 some x19
def tV (K:Nat) (a0:List Rat) (a1:List aA) (x12:List aF) (x18:Int) (recl25:(List aF)→Int→Option (List aF)) (x47:List Rat):Option (List aF):=
 (bM a1 x18).bind fun v55=>(tJ K v55 a0 x47).bind fun v57=>(qD x12 [v57]).bind fun x59=>(aP (x18+1)).bind fun v66=>recl25 x59 v66
def gT (K:Nat) (a2:List Rat) (v3:List aQ) (x18:Int):Nat→(List Rat)→Int→Option (List Rat)
 |0,_,_=>none
 |k+1,x40,x46=>bif(decide (x46<(v3.length:Int))) then((bM v3 x46).bind fun v69=>bif(v69.row==x18) then((bM v3 x46).bind fun v74=>(bM a2 x46).bind fun v76=>(bM x40 v74.kind).bind fun v78=>(nU x40 v74.kind v76).bind fun x80=>(aP (x46+1)).bind fun v83=>gT K a2 v3 x18 k x80 v83) else((aP (x46+1)).bind fun v85=>gT K a2 v3 x18 k x40 v85)) else(some x40)
def jX (K:Nat) (a0:List Rat) (a1:List aA) (a2:List Rat) (v3:List aQ):Nat→(List aF)→Int→Option (List aF)
 |0,_,_=>none
 |k+1,x12,x18=>bif(decide (x18<(a1.length:Int))) then((wG 4 0).bind fun x28=>(gT K a2 v3 x18 K x28 0).bind fun x47=>tV K a0 a1 x12 x18 (jX K a0 a1 a2 v3 k) x47) else(some x12)
def pK (K:Nat) (a0:List Rat) (a1:List aA) (a2:List Rat):Option (List aF):=
 (jA K a0 a1).bind fun v3=>(jX K a0 a1 a2 v3 K ([]:List aF) 0).bind fun x19=>tZ K x19
def tY (K:Nat) (x23:List Rat):Option (List Rat):=
 some x23
def eH (K:Nat) (a3:List aA) (a4:List Rat) (v3:List Rat) (v5:List aQ):Nat→(List Rat)→Int→Option (List Rat)
 |0,_,_=>none
 |k+1,x16,x22=>bif(decide (x22<(v5.length:Int))) then((bM v5 x22).bind fun v32=>(bM a3 v32.row).bind fun v34=>(bM v5 x22).bind fun v37=>bif(v37.kind==0) then((iQ K v34.j v3).bind fun v40=>(qD x16 [v40]).bind fun x42=>(aP (x22+1)).bind fun v49=>eH K a3 a4 v3 v5 k x42 v49) else(bif(v37.kind==1) then((iQ K v34.t v3).bind fun v54=>(aP (x22+2)).bind fun v56=>(bM a4 v56).bind fun v58=>(aCA v54 v58).bind fun v60=>(qD x16 [v60]).bind fun x62=>(aP (x22+1)).bind fun v69=>eH K a3 a4 v3 v5 k x62 v69) else(bif(v37.kind==2) then((aP (x22+1)).bind fun v74=>(bM a4 v74).bind fun v76=>(iQ K v34.t v3).bind fun v78=>(aEO v76 v78).bind fun v80=>(qD x16 [v80]).bind fun x82=>(aP (x22+1)).bind fun v89=>eH K a3 a4 v3 v5 k x82 v89) else((aP (x22-3)).bind fun v93=>(bM a4 v93).bind fun v95=>(z5 v34.mu v95).bind fun v97=>(aP (x22-2)).bind fun v99=>(bM a4 v99).bind fun v101=>(aP (x22-1)).bind fun v103=>(bM a4 v103).bind fun v105=>(aCA v101 v105).bind fun v107=>(aEO v97 v107).bind fun v109=>(qD x16 [v109]).bind fun x111=>(aP (x22+1)).bind fun v118=>eH K a3 a4 v3 v5 k x111 v118)))) else(some x16)
def mU (K:Nat) (a0:List aG) (a1:List Rat) (a2:List Rat) (a3:List aA) (a4:List Rat):Option (List Rat):=
 (pK K a2 a3 a4).bind fun v1=>(kX K a0 a1 a3 v1).bind fun v3=>(jA K a2 a3).bind fun v5=>(eH K a3 a4 v3 v5 K ([]:List Rat) 0).bind fun x23=>tY K x23
def uI (a0:List (List Rat)):Option Int:=
 bif((a0.length:Int)==0) then(some 0) else((bM a0 0).bind fun v2=>some (v2.length:Int))
def vK (K:Nat) (x17:List (List Rat)):Option (List (List Rat)):=
 some x17
def vE (K:Nat) (x10:List (List Rat)) (x16:Int) (recl23:(List (List Rat))→Int→Option (List (List Rat))) (x44:List Rat):Option (List (List Rat)):=
 (qD x10 [x44]).bind fun x52=>(aP (x16+1)).bind fun v59=>recl23 x52 v59
def lK (K:Nat) (a0:List (List Rat)) (x16:Int):Nat→(List Rat)→Int→Option (List Rat)
 |0,_,_=>none
 |k+1,x37,x43=>bif(decide (x43<(a0.length:Int))) then((bM a0 x43).bind fun v62=>(bM v62 x16).bind fun v64=>(qD x37 [v64]).bind fun x66=>(aP (x43+1)).bind fun v73=>lK K a0 x16 k x66 v73) else(some x37)
def k9 (K:Nat) (a0:List (List Rat)):Nat→(List (List Rat))→Int→Option (List (List Rat))
 |0,_,_=>none
 |k+1,x10,x16=>(uI a0).bind fun v25=>bif(decide (x16<v25)) then((lK K a0 x16 K ([]:List Rat) 0).bind fun x44=>vE K x10 x16 (k9 K a0 k) x44) else(some x10)
def uL (K:Nat) (a0:List (List Rat)):Option (List (List Rat)):=
 (k9 K a0 K ([]:List (List Rat)) 0).bind fun x17=>vK K x17
def tD (K:Nat) (v11:List Rat) (x29:List (List Rat)):Option ((List (List Rat))×(List Rat)):=
 (uL K x29).bind fun v37=>some (v37,v11)
def tE (K:Nat) (x22:List (List Rat)) (x28:Int) (recl35:(List (List Rat))→Int→Option (List (List Rat))) (x70:List Rat):Option (List (List Rat)):=
 (qD x22 [x70]).bind fun x78=>(aP (x28+1)).bind fun v85=>recl35 x78 v85
def jG (K:Nat) (v4:List aQ) (v11:List Rat) (v52:List Rat):Nat→(List Rat)→Int→Option (List Rat)
 |0,_,_=>none
 |k+1,x63,x69=>bif(decide (x69<(v4.length:Int))) then((bM v52 x69).bind fun v90=>(bM v11 x69).bind fun v92=>(aEO v90 v92).bind fun v94=>(qD x63 [v94]).bind fun x96=>(aP (x69+1)).bind fun v103=>jG K v4 v11 v52 k x96 v103) else(some x63)
def jI (K:Nat) (a0:List aG) (a1:List Rat) (a2:List Rat) (a3:List aA) (v4:List aQ) (v11:List Rat):Nat→(List (List Rat))→Int→Option (List (List Rat))
 |0,_,_=>none
 |k+1,x22,x28=>bif(decide (x28<(v4.length:Int))) then((wG (v4.length:Int) 0).bind fun x40=>(qof 1 1).bind fun v45=>(bM x40 x28).bind fun v47=>(nU x40 x28 v45).bind fun x49=>(mU K a0 a1 a2 a3 x49).bind fun v52=>(jG K v4 v11 v52 K ([]:List Rat) 0).bind fun x70=>tE K x22 x28 (jI K a0 a1 a2 a3 v4 v11 k) x70) else(some x22)
def rS (K:Nat) (a0:List aG) (a1:List Rat) (a2:List Rat) (a3:List aA):Option ((List (List Rat))×(List Rat)):=
 (sH K a0 a1 a2 a3).bind fun v1=>bif(!v1) then(some ([],[])) else((jA K a2 a3).bind fun v4=>(wG (v4.length:Int) 0).bind fun x6=>(mU K a0 a1 a2 a3 x6).bind fun v11=>(jI K a0 a1 a2 a3 v4 v11 K ([]:List (List Rat)) 0).bind fun x29=>tD K v11 x29)
def vS (K:Nat):Option Bool:=
 some true
def l8 (K:Nat) (a0:List Rat):Nat→Int→Option (LR Bool Unit)
 |0,_=>none
 |k+1,x2=>bif(decide (x2<(a0.length:Int))) then((bM a0 x2).bind fun v6=>(aBw v6).bind fun v8=>bif(!v8) then(some (.ret false)) else((aP (x2+1)).bind fun v11=>l8 K a0 k v11)) else(some (.go ()))
def qV (K:Nat) (a0:List Rat):Option Bool:=
 (l8 K a0 K 0).bind fun o=>match o with| .ret r=>some r| .go _=>vS K
def vL (K:Nat):Option Bool:=
 some true
def lH (K:Nat) (a0:List (List Rat)) (a1:List Rat):Nat→Int→Option (LR Bool Unit)
 |0,_=>none
 |k+1,x7=>bif(decide (x7<(a0.length:Int))) then((bM a0 x7).bind fun v11=>bif((v11.length:Int) != (a1.length:Int)) then(some (.ret false)) else((bM a0 x7).bind fun v14=>(qV K v14).bind fun v16=>bif(!v16) then(some (.ret false)) else((aP (x7+1)).bind fun v19=>lH K a0 a1 k v19))) else(some (.go ()))
def tK (K:Nat) (a0:List (List Rat)) (a1:List Rat):Option Bool:=
 bif((a0.length:Int) != (a1.length:Int)) then(some false) else(bif(decide (32<(a1.length:Int))) then(some false) else((qV K a1).bind fun v3=>bif(!v3) then(some false) else((lH K a0 a1 K 0).bind fun o=>match o with| .ret r=>some r| .go _=>vL K)))
def tF (K:Nat):Option Bool:=
 some false
def jE (K:Nat) (a0:List Rat):Nat→Int→Option (LR Bool Unit)
 |0,_=>none
 |k+1,x2=>bif(decide (x2<(a0.length:Int))) then((bM a0 x2).bind fun v6=>(wP v6).bind fun v8=>bif(decide (v8<0)) then(some (.ret true)) else((aP (x2+1)).bind fun v11=>jE K a0 k v11)) else(some (.go ()))
def rK (K:Nat) (a0:List Rat):Option Bool:=
 (jE K a0 K 0).bind fun o=>match o with| .ret r=>some r| .go _=>tF K
def uT (K:Nat):Option Bool:=
 some false
def iF (K:Nat) (a0:List Rat) (a1:List Rat):Nat→Int→Option (LR Bool Unit)
 |0,_=>none
 |k+1,x2=>bif(decide (x2<(a0.length:Int))) then(bif(decide (x2<(a1.length:Int))) then((bM a0 x2).bind fun v9=>(bM a1 x2).bind fun v11=>(aGC v9 v11).bind fun v13=>bif(v13 != 0) then(some (.ret (decide (v13<0)))) else((aP (x2+1)).bind fun v16=>iF K a0 a1 k v16)) else(some (.go ()))) else(some (.go ()))
def mT (K:Nat) (a0:List Rat) (a1:List Rat):Option Bool:=
 (iF K a0 a1 K 0).bind fun o=>match o with| .ret r=>some r| .go _=>uT K
def vU (K:Nat) (x29:List Rat):Option (List Rat):=
 some x29
def l5 (K:Nat) (a0:List Rat) (a1:Int) (a2:Rat):Nat→(List Rat)→Int→Option (List Rat)
 |0,_,_=>none
 |k+1,x22,x28=>bif(decide (x28<a1)) then((bM a0 x28).bind fun v40=>(aGv v40 a2).bind fun v42=>(qD x22 [v42]).bind fun x44=>(aP (x28+1)).bind fun v51=>l5 K a0 a1 a2 k x44 v51) else(some x22)
def nI (K:Nat) (a0:List Rat) (a1:Int) (a2:Rat):Option (List Rat):=
 (aP (2*a1)).bind fun v4=>(aP (v4+1)).bind fun v6=>(bM a0 v6).bind fun v8=>(aGv v8 a2).bind fun v10=>(l5 K a0 a1 a2 K [v10] 0).bind fun x29=>vU K x29
def uR (K:Nat) (x41:List (List Rat)):Option (List (List Rat)):=
 some x41
def uV (K:Nat) (x34:List (List Rat)) (x40:Int) (recl47:(List (List Rat))→Int→Option (List (List Rat))) (x76:List Rat):Option (List (List Rat)):=
 (qD x34 [x76]).bind fun x84=>(aP (x40+1)).bind fun v91=>recl47 x84 v91
def kO (K:Nat) (a0:List (List Rat)) (a2:Int) (x17:List Rat) (x40:Int):Nat→(List Rat)→Int→Option (List Rat)
 |0,_,_=>none
 |k+1,x69,x75=>bif(decide (x75<(x17.length:Int))) then((bM a0 x40).bind fun v96=>(bM v96 x75).bind fun v98=>(bM a0 x40).bind fun v100=>(bM v100 a2).bind fun v102=>(bM x17 x75).bind fun v104=>(z5 v102 v104).bind fun v106=>(aEO v98 v106).bind fun v108=>(qD x69 [v108]).bind fun x110=>(aP (x75+1)).bind fun v117=>kO K a0 a2 x17 x40 k x110 v117) else(some x69)
def gD (K:Nat) (a0:List (List Rat)) (a1:Int) (a2:Int) (x17:List Rat):Nat→(List (List Rat))→Int→Option (List (List Rat))
 |0,_,_=>none
 |k+1,x34,x40=>bif(decide (x40<(a0.length:Int))) then(bif(x40==a1) then((qD x34 [x17]).bind fun x51=>(aP (x40+1)).bind fun v58=>gD K a0 a1 a2 x17 k x51 v58) else((kO K a0 a2 x17 x40 K ([]:List Rat) 0).bind fun x76=>uV K x34 x40 (gD K a0 a1 a2 x17 k) x76)) else(some x34)
def uQ (K:Nat) (a0:List (List Rat)) (a1:Int) (a2:Int) (x17:List Rat):Option (List (List Rat)):=
 (gD K a0 a1 a2 x17 K ([]:List (List Rat)) 0).bind fun x41=>uR K x41
def kV (K:Nat) (a0:List (List Rat)) (a1:Int) (a2:Int):Nat→(List Rat)→Int→Option (List Rat)
 |0,_,_=>none
 |k+1,x10,x16=>(bM a0 a1).bind fun v119=>bif(decide (x16<(v119.length:Int))) then((bM a0 a1).bind fun v124=>(bM v124 x16).bind fun v126=>(bM a0 a1).bind fun v128=>(bM v128 a2).bind fun v130=>(aGv v126 v130).bind fun v132=>(qD x10 [v132]).bind fun x134=>(aP (x16+1)).bind fun v141=>kV K a0 a1 a2 k x134 v141) else(some x10)
def tO (K:Nat) (a0:List (List Rat)) (a1:Int) (a2:Int):Option (List (List Rat)):=
 (kV K a0 a1 a2 K ([]:List Rat) 0).bind fun x17=>uQ K a0 a1 a2 x17
def zP (K:Nat):Option (aO×Int):=
 none
def t5 (K:Nat) (v95:Int) (x155:List Rat) (x161:List Rat):Option (LR (aO×Int) Unit):=
 some (.ret ((⟨x161,x155,v95⟩:aO),0))
def fQ (K:Nat) (a1:List Rat) (v93:List (List Rat)) (x101:List Int):Nat→(List Rat)→(List Rat)→Int→Option ((List Rat)×(List Rat))
 |0,_,_,_=>none
 |k+1,x142,x148,x154=>bif(decide (x154<(a1.length:Int))) then((bM x101 x154).bind fun v170=>bif(decide (v170<(a1.length:Int))) then((bM x101 x154).bind fun v175=>(bM v93 x154).bind fun v177=>(aP (2*(a1.length:Int))).bind fun v179=>(aP (v179+1)).bind fun v181=>(bM v177 v181).bind fun v183=>(bM x142 v175).bind fun v185=>(nU x142 v175 v183).bind fun x187=>(aP (x154+1)).bind fun v190=>fQ K a1 v93 x101 k x187 x148 v190) else((bM x101 x154).bind fun v194=>(aP (v194-(a1.length:Int))).bind fun v196=>(bM v93 x154).bind fun v198=>(aP (2*(a1.length:Int))).bind fun v200=>(aP (v200+1)).bind fun v202=>(bM v198 v202).bind fun v204=>(bM x148 v196).bind fun v206=>(nU x148 v196 v204).bind fun x208=>(aP (x154+1)).bind fun v211=>fQ K a1 v93 x101 k x142 x208 v211)) else(some (x142,x148))
def t7 (K:Nat) (v93:List (List Rat)) (v95:Int) (x101:List Int) (v217:Int) (recl90:(List Int)→(List (List Rat))→Int→Int→Int→Option (LR (aO×Int) Unit)) (x223:Int):Option (LR (aO×Int) Unit):=
 bif(decide (x223<0)) then(some (.ret ((⟨([]:List Rat),([]:List Rat),0⟩:aO),15))) else(recl90 x101 v93 x223 v217 v95)
def eI (K:Nat) (a1:List Rat) (v93:List (List Rat)) (v217:Int):Nat→Int→Int→Option Int
 |0,_,_=>none
 |k+1,x221,x222=>bif(decide (x222<(a1.length:Int))) then((bM v93 x222).bind fun v228=>(bM v228 v217).bind fun v230=>(wP v230).bind fun v232=>bif(decide (v232≤0)) then((aP (x222+1)).bind fun v235=>eI K a1 v93 v217 k x221 v235) else(bif(decide (x221<0)) then((aP (x222+1)).bind fun v240=>eI K a1 v93 v217 k x222 v240) else((bM v93 x222).bind fun v242=>(bM v93 x222).bind fun v244=>(bM v244 v217).bind fun v246=>(nI K v242 (a1.length:Int) v246).bind fun v248=>(bM v93 x221).bind fun v250=>(bM v93 x221).bind fun v252=>(bM v252 v217).bind fun v254=>(nI K v250 (a1.length:Int) v254).bind fun v256=>(mT K v248 v256).bind fun v258=>bif v258 then((aP (x222+1)).bind fun v261=>eI K a1 v93 v217 k x222 v261) else((aP (x222+1)).bind fun v263=>eI K a1 v93 v217 k x221 v263)))) else(some x221)
def kU (K:Nat) (a1:List Rat) (a2:Int):Nat→(List Int)→(List (List Rat))→Int→Int→Int→Option (LR (aO×Int) Unit)
 |0,_,_,_,_,_=>none
 |k+1,x80,x86,x87,x88,x89=>bif(x89==a2) then(some (.ret ((⟨([]:List Rat),([]:List Rat),0⟩:aO),16))) else((tO K x86 x87 x88).bind fun v93=>(aP (x89+1)).bind fun v95=>(bM x80 x87).bind fun v97=>(bM x80 x87).bind fun v99=>(nU x80 x87 x88).bind fun x101=>(aP (2*(a1.length:Int))).bind fun v104=>bif(v97==v104) then((wG (a1.length:Int) 0).bind fun x109=>(wG (a1.length:Int) 0).bind fun x113=>(fQ K a1 v93 x101 K x113 x109 0).bind fun(x155,x161)=>t5 K v95 x155 x161) else((aP (v97+(a1.length:Int))).bind fun v213=>(aP (2*(a1.length:Int))).bind fun v215=>(wH v213 v215).bind fun v217=>(eI K a1 v93 v217 K (-1) 0).bind fun x223=>t7 K v93 v95 x101 v217 (kU K a1 a2 k) x223))
def uW (K:Nat) (a1:List Rat) (a2:Int) (x47:List Int) (x53:List (List Rat)) (x65:Int):Option (aO×Int):=
 (aP (2*(a1.length:Int))).bind fun v68=>(kU K a1 a2 K x47 x53 x65 v68 0).bind fun o=>match o with| .ret r=>some r| .go _=>zP K
def iG (K:Nat) (a1:List Rat) (v14:Rat) (x53:List (List Rat)):Nat→Int→Int→Option Int
 |0,_,_=>none
 |k+1,x63,x64=>bif(decide (x64<(a1.length:Int))) then((bM x53 x64).bind fun v268=>(nI K v268 (a1.length:Int) v14).bind fun v270=>(bM x53 x63).bind fun v272=>(nI K v272 (a1.length:Int) v14).bind fun v274=>(mT K v270 v274).bind fun v276=>bif v276 then((aP (x64+1)).bind fun v279=>iG K a1 v14 x53 k x64 v279) else((aP (x64+1)).bind fun v281=>iG K a1 v14 x53 k x63 v281)) else(some x63)
def uS (K:Nat) (a1:List Rat) (a2:Int) (v14:Rat) (x47:List Int) (x53:List (List Rat)):Option (aO×Int):=
 (iG K a1 v14 x53 K 0 1).bind fun x65=>uW K a1 a2 x47 x53 x65
def tX (K:Nat) (a1:List Rat) (x34:List Int) (x40:List (List Rat)) (x46:Int) (recl59:(List Int)→(List (List Rat))→Int→Option ((List Int)×(List (List Rat)))) (x312:List Rat):Option ((List Int)×(List (List Rat))):=
 (aP (2*(a1.length:Int))).bind fun v320=>(qof (-1) 1).bind fun v322=>(bM x312 v320).bind fun v324=>(nU x312 v320 v322).bind fun x326=>(aP (2*(a1.length:Int))).bind fun v329=>(aP (v329+1)).bind fun v331=>(bM a1 x46).bind fun v333=>(bM x326 v331).bind fun v335=>(nU x326 v331 v333).bind fun x337=>(qD x40 [x337]).bind fun x340=>(qD x34 [x46]).bind fun x347=>(aP (x46+1)).bind fun v354=>recl59 x347 x340 v354
def kC (K:Nat) (a0:List (List Rat)) (a1:List Rat) (x46:Int):Nat→(List Rat)→Int→Option (List Rat)
 |0,_,_=>none
 |k+1,x305,x311=>bif(decide (x311<(a1.length:Int))) then((aP ((a1.length:Int)+x311)).bind fun v357=>(bM a0 x46).bind fun v359=>(bM v359 x311).bind fun v361=>(aBY v361).bind fun v363=>(bM x305 v357).bind fun v365=>(nU x305 v357 v363).bind fun x367=>(aP (x311+1)).bind fun v370=>kC K a0 a1 x46 k x367 v370) else(some x305)
def kT (K:Nat) (a0:List (List Rat)) (a1:List Rat) (v14:Rat):Nat→(List Int)→(List (List Rat))→Int→Option ((List Int)×(List (List Rat)))
 |0,_,_,_=>none
 |k+1,x34,x40,x46=>bif(decide (x46<(a1.length:Int))) then((aP (2*(a1.length:Int))).bind fun v284=>(aP (v284+2)).bind fun v286=>(wG v286 0).bind fun x288=>(bM x288 x46).bind fun v293=>(nU x288 x46 v14).bind fun x295=>(kC K a0 a1 x46 K x295 0).bind fun x312=>tX K a1 x34 x40 x46 (kT K a0 a1 v14 k) x312) else(some (x34,x40))
def qE (K:Nat) (a0:List (List Rat)) (a1:List Rat) (a2:Int):Option (aO×Int):=
 (tK K a0 a1).bind fun v2=>bif(!v2) then(some ((⟨([]:List Rat),([]:List Rat),0⟩:aO),1)) else(bif(decide (a2<0)) then(some ((⟨([]:List Rat),([]:List Rat),0⟩:aO),1)) else((rK K a1).bind fun v6=>bif(!v6) then((wG (a1.length:Int) 0).bind fun x9=>some ((⟨x9,a1,0⟩:aO),0)) else((qof 1 1).bind fun v14=>(kT K a0 a1 v14 K ([]:List Int) ([]:List (List Rat)) 0).bind fun(x47,x53)=>uS K a1 a2 v14 x47 x53)))
def tL (K:Nat) (a0:List aG) (a1:List Rat) (a2:List Rat) (a3:List aA):Option ((List Rat)×(List aF)×Int):=
 (sH K a0 a1 a2 a3).bind fun v1=>bif(!v1) then(some ([],[],1)) else((jA K a2 a3).bind fun v4=>bif(decide (32<(v4.length:Int))) then(some ([],[],4)) else((rS K a0 a1 a2 a3).bind fun v7=>(qE K v7.1 v7.2 4096).bind fun v9=>bif(v9.2 != 0) then(some ([],[],v9.2)) else((pK K a2 a3 v9.1.z).bind fun v13=>(kX K a0 a1 a3 v13).bind fun v15=>some (v15,v13,0))))
end Go.Proofs.YtcjdedkdoagifaaGreat
set_option linter.unusedVariables false
set_option maxRecDepth 100000
namespace Go.Proofs.YtcjdedkdoagifaaGreat
end Go.Proofs.YtcjdedkdoagifaaGreat
set_option linter.unusedVariables false
namespace Go.Proofs.YtcjdedkdoagifaaGreat
theorem aFm {x m:Int} (hx:-9223372036854775808≤x∧x≤9223372036854775807) (hm:0<m):∃r,kQ x m=some r∧0≤r∧r<m:=by
 unfold kQ
 by_cases h:x<0
 ·refine⟨(-(x+1))%m,?_,Int.emod_nonneg _ (by omega),Int.emod_lt_of_pos _ hm⟩
  rw [dT h,bT,kM (by omega),oB,kM (by omega),oB,mW (by omega) hm,oB]
 ·refine⟨x%m,?_,Int.emod_nonneg _ (by omega),Int.emod_lt_of_pos _ hm⟩
  rw [dF h,bO,mW (by omega) hm,oB]
theorem aBC {l:List Int} (hl:aHV l) (i:Int) {m:Int} (hm:0<m):∃r,bH l i m=some r∧0≤r∧r<m:=by
 unfold bH
 by_cases h:i<0
 ·exact⟨0,by rw [dT h,bT],by omega,hm⟩
 ·rw [dF h,bO]
  by_cases h2:(l.length:Int)≤i
  ·exact⟨0,by rw [dT h2,bT],by omega,hm⟩
  ·rw [dF h2,bO]
   obtain⟨n,rfl⟩:∃n:Nat,i=n:=⟨i.toNat,by omega⟩
   obtain⟨x,hx,_,hr⟩:=rdM (xs:=l) (i:=n) (by omega)
   obtain⟨r,h3,h4,h5⟩:=aFm (hl x hx) hm
   exact⟨r,by rw [hr,oB,h3,oB],h4,h5⟩
theorem aC7 {a m:Int} (h:0≤a) (hm:0<m):0≤a%m∧a%m<m:=⟨Int.emod_nonneg _ (by omega),Int.emod_lt_of_pos _ hm⟩
def vQ (k:Nat) (xs:List Rat):Prop:=∀x∈xs,Bd k x
theorem vQ.snoc {k:Nat} {xs:List Rat} {x:Rat} (h:vQ k xs) (hx:Bd k x):vQ k (xs++[x]):=fun y hy=>by
 rcases List.mem_append.1 hy with h1|h1
 ·exact h y h1
 ·rw [List.mem_singleton.1 h1];exact hx
theorem apS {α:Type} {xs:List α} {x:α} (h:xs.length≤60000000000):qD xs [x]=some (xs++[x]):=aAa (by simp;omega)
theorem aQi {p q:Int} (hp:p≠0) (hq:q≠0):(p:Rat)/q≠0:=by
 rw [←Rat.divInt_eq_div]
 intro h
 have:=congrArg Rat.num h
 rw [Rat.num_divInt] at this
 have e:(0:Rat).num=0:=rfl
 rw [e] at this
 obtain⟨c,hc⟩:=Int.gcd_dvd_right (a:=q) (b:=p)
 have hg:0<Int.gcd q p:=Int.gcd_pos_of_ne_zero_left p hq
 have h2:q.sign*p/((Int.gcd q p:Nat):Int)=q.sign*c:=by
  conv=>lhs;rw [hc]
  rw [←Int.mul_assoc,Int.mul_comm q.sign,Int.mul_assoc]
  have:((q.gcd (((q.gcd p:Nat):Int)*c):Nat):Int)=((q.gcd p:Nat):Int):=by rw [←hc]
  rw [this]
  exact Int.mul_ediv_cancel_left _ (by omega)
 rw [h2] at this
 rcases Int.mul_eq_zero.1 this with h3|h3
 ·exact hq (Int.sign_eq_zero_iff_zero.1 h3)
 ·subst h3;rw [Int.mul_zero] at hc;exact hp hc
theorem rdD {α:Type} {xs:List α} {i:Nat} (d:α) (h:i<xs.length):bM xs (i:Int)=some (xs.getD i d):=by
 rw [rdG (x:=xs.getD i d)]
 simp [List.getD_eq_getElem?_getD,h]
def oA (l:List Rat) (i:Nat):Rat:=l.getD i 0
theorem aHy {l:List Rat} {i:Nat} (h:i<l.length):bM l (i:Int)=some (oA l i):=rdD _ h
theorem wI {l:List Rat} {i:Nat} (h:i<l.length):oA l i∈l:=by
 have:oA l i=l[i]:=by unfold oA;simp [List.getD_eq_getElem?_getD,h]
 rw [this];exact List.getElem_mem h
theorem aQF:((1:Int):Rat)/((1:Int):Rat)=1:=by decide+kernel
def mp {α:Type} (g:Nat→α) (n:Nat):List α:=(List.range n).map g
theorem aAl {α:Type} (g:Nat→α):mp g 0=[]:=rfl
theorem aDx {α:Type} (g:Nat→α) (n:Nat):mp g (n+1)=mp g n++[g n]:=by unfold mp;rw [List.range_succ,List.map_append];rfl
theorem bF {α:Type} (g:Nat→α) (n:Nat):(mp g n).length=n:=by simp [mp]
theorem yR {α:Type} {g:Nat→α} {n i:Nat} (h:i<n):(mp g n)[i]?=some (g i):=by simp [mp,h]
theorem aAp {g:Nat→Rat} {n i:Nat} (h:i<n):oA (mp g n) i=g i:=by
 unfold oA mp
 simp [List.getD_eq_getElem?_getD,h]
theorem aAR {g:Nat→Rat} {n k:Nat} (h:∀i,i<n→Bd k (g i)):vQ k (mp g n):=fun x hx=>by
 obtain⟨i,hi,rfl⟩:=List.mem_map.1 hx
 exact h i (List.mem_range.1 hi)
theorem apM {α:Type} {g:Nat→α} {i:Nat} (h:i≤1000000):qD (mp g i) [g i]=some (mp g (i+1)):=by rw [aDx];exact apS (by rw [bF];omega)
theorem bZ {α:Type} {f g:Nat→α} {n:Nat} (h:∀i,i<n→f i=g i):mp f n=mp g n:=by
 unfold mp
 exact List.map_congr_left fun i hi=>h i (List.mem_range.1 hi)
def gI {α:Type} (f:Nat→α) (i:Nat) (v:α) (j:Nat):α:=if j=i then v else f j
theorem aW {α:Type} {f:Nat→α} {i:Nat} {v:α}:gI f i v i=v:=if_pos rfl
theorem bY {α:Type} {f:Nat→α} {i j:Nat} {v:α} (h:j≠i):gI f i v j=f j:=if_neg h
theorem aNj {α:Type} {f:Nat→α} {n i:Nat} {v:α}:(mp f n).set i v=mp (gI f i v) n:=by
 apply List.ext_getElem?
 intro j
 by_cases hj:j<n
 ·rw [List.getElem?_set,yR hj,bF,yR hj]
  by_cases he:i=j
  ·subst he;rw [if_pos rfl,if_pos hj,aW]
  ·rw [if_neg he,bY (by omega)]
 ·rw [List.getElem?_eq_none (by simp [mp];omega),List.getElem?_eq_none (by simp [mp];omega)]
theorem dV {α:Type} {f:Nat→α} {n i:Nat} (h:i<n):bM (mp f n) (i:Int)=some (f i):=rdG (yR h)
theorem rX {α:Type} {f:Nat→α} {n i:Nat} {v:α} (h:i<n):nU (mp f n) (i:Int) v=some (mp (gI f i v) n):=by
 rw [stG (by rw [bF];exact h),aNj]
theorem aLT {α:Type} (z:α):∀n,List.replicate n z=mp (fun _=>z) n
 |0=>rfl
 |n+1=>by rw [aDx,←aLT z n,List.replicate_succ']
theorem aBx {α:Type} {n:Nat} {z:α} (h:n≤68719476736):wG (n:Int) z=some (mp (fun _=>z) n):=by rw [aAn h,aLT]
theorem aMd (l:List Rat):l=mp (oA l) l.length:=by
 apply List.ext_getElem?
 intro j
 by_cases hj:j<l.length
 ·rw [yR hj];simp [oA,hj]
 ·rw [List.getElem?_eq_none (by omega),List.getElem?_eq_none (by simp [mp];omega)]
theorem mS {i:Nat} (h:i≤1000000000):aP ((i:Int)+1)=some ((i+1:Nat):Int):=zT (m:=0) (n:=i+1) (by omega) (by omega)
theorem aDh {a:Rat}:a.num.sign=0↔a=0:=by rw [Int.sign_eq_zero_iff_zero,Rat.num_eq_zero]
def sm (f:Nat→Rat):Nat→Rat
 |0=>0
 |n+1=>sm f n+f n
end Go.Proofs.YtcjdedkdoagifaaGreat
set_option linter.unusedVariables false
namespace Go.Proofs.YtcjdedkdoagifaaGreat
/-- A matrix of h rows and w columns. -/
def mx (g:Nat→Nat→Rat) (h w:Nat):List (List Rat):=mp (fun i=>mp (g i) w) h
theorem aM2 {g g':Nat→Nat→Rat} {h w:Nat} (e:∀i c,i<h→c<w→g i c=g' i c):mx g h w=mx g' h w:=
 bZ fun i hi=>bZ fun c hc=>e i c hi hc
theorem aQX {g:Nat→Nat→Rat} {h w i:Nat} {f:Nat→Rat}:mp (gI (fun i=>mp (g i) w) i (mp f w)) h=mx (gI g i f) h w:=by
 refine bZ fun j _=>?_
 unfold gI
 split<;>rfl
theorem aBL {g:Nat→Nat→Rat} {h w i:Nat} (hi:i<h):bM (mx g h w) (i:Int)=some (mp (g i) w):=dV hi
theorem uJ {g:Nat→Nat→Rat} {h w:Nat}:(mx g h w).length=h:=bF _ _
def Bdx (h w b:Nat) (g:Nat→Nat→Rat):Prop:=∀i c,i<h→c<w→Bd b (g i c)
theorem Bdx.mono {h w b b':Nat} {g:Nat→Nat→Rat} (hg:Bdx h w b g) (hb:b≤b'):Bdx h w b' g:=fun i c hi hc=>(hg i c hi hc).mono hb
def piv (g:Nat→Nat→Rat) (k:Nat):Nat→Nat→Nat
 |0,i=>i
 |t+1,i=>if g i k=0 then piv g k t (i+1) else i
theorem aIj {g:Nat→Nat→Rat} {k:Nat}:∀(t i:Nat),i≤piv g k t i∧piv g k t i≤i+t
 |0,i=>⟨Nat.le_refl _,Nat.le_refl _⟩
 |t+1,i=>by
  have h:=aIj (g:=g) (k:=k) t (i+1)
  unfold piv
  split<;>omega
theorem aO0 {g:Nat→Nat→Rat} {k:Nat}:∀(t i j:Nat),i≤j→j<piv g k t i→g j k=0
 |0,i,j,h1,h2=>by simp only [piv] at h2;omega
 |t+1,i,j,h1,h2=>by
  unfold piv at h2
  split at h2
  ·rename_i hz
   by_cases he:j=i
   ·rw [he];exact hz
   ·exact aO0 t (i+1) j (by omega) h2
  ·omega
theorem aMM {g:Nat→Nat→Rat} {k:Nat}:∀(t i:Nat),piv g k t i<i+t→g (piv g k t i) k≠0
 |0,i,h=>by simp only [piv] at h;omega
 |t+1,i,h=>by
  unfold piv at h ⊢
  split at h
  ·rename_i hz
   rw [if_pos hz]
   exact aMM t (i+1) (by omega)
  ·rename_i hz
   rw [if_neg hz];exact hz
def zD (g:Nat→Nat→Rat) (n at0 i:Nat):Nat→Rat:=g (if i=n then at0 else if i=at0 then n else i)
def pr (g:Nat→Nat→Rat) (at0 k c:Nat):Rat:=g at0 c/g at0 k
def stp (g:Nat→Nat→Rat) (n at0 k i c:Nat):Rat:=if i=n then pr g at0 k c else zD g n at0 i c-zD g n at0 i k*pr g at0 k c
structure RS where
 ps:List Nat
 g:Nat→Nat→Rat
 d:Rat
def aGu (h k:Nat) (s:RS):RS:=
 if piv s.g k (h-s.ps.length) s.ps.length=h then s
 else⟨s.ps++[k],stp s.g s.ps.length (piv s.g k (h-s.ps.length) s.ps.length) k,(if piv s.g k (h-s.ps.length) s.ps.length=s.ps.length then s.d else -s.d)*s.g (piv s.g k (h-s.ps.length) s.ps.length) k⟩
def red (g:Nat→Nat→Rat) (h:Nat):Nat→RS
 |0=>⟨[],g,1⟩
 |k+1=>aGu h k (red g h k)
theorem aF6 {h n at0 i:Nat} (hn:n<h) (ha:at0<h) (hi:i<h):(if i=n then at0 else if i=at0 then n else i)<h:=by split;exact ha;split;exact hn;exact hi
end Go.Proofs.YtcjdedkdoagifaaGreat
set_option linter.unusedVariables false
namespace Go.Proofs.YtcjdedkdoagifaaGreat
/-- The rows that the list of indices names, in a pool of rows. -/
structure Rep (ι:Nat→Nat) (pool:List (List Rat)) (g:Nat→Nat→Rat) (h w:Nat):Prop where
 inj:∀i j,i<h→j<h→ι i=ι j→i=j
 lt:∀i,i<h→ι i<pool.length
 el:∀i,i<h→pool.getD (ι i) []=mp (g i) w
theorem Rep.set {ι:Nat→Nat} {pool:List (List Rat)} {g:Nat→Nat→Rat} {h w i:Nat} (r:Rep ι pool g h w) (hi:i<h) (f:Nat→Rat):Rep ι (pool.set (ι i) (mp f w)) (gI g i f) h w:=by
 refine⟨r.inj,fun j hj=>by rw [List.length_set];exact r.lt j hj,fun j hj=>?_⟩
 rw [List.getD_eq_getElem?_getD,List.getElem?_set]
 by_cases he:j=i
 ·subst he
  rw [if_pos rfl,if_pos (r.lt j hj),aW];rfl
 ·rw [if_neg (fun h=>he (r.inj j i hj hi h.symm)),←List.getD_eq_getElem?_getD,r.el j hj,bY he]
theorem Rep.congr {ι:Nat→Nat} {pool:List (List Rat)} {g g':Nat→Nat→Rat} {h w:Nat} (r:Rep ι pool g h w) (e:∀i c,i<h→c<w→g i c=g' i c):Rep ι pool g' h w:=
 ⟨r.inj,r.lt,fun i hi=>by rw [r.el i hi];exact bZ fun c hc=>e i c hi hc⟩
theorem Rep.sel {ι:Nat→Nat} {pool:List (List Rat)} {g:Nat→Nat→Rat} {h w:Nat} (r:Rep ι pool g h w):aEK pool (mp ι h)=mx g h w:=by
 unfold aEK mx
 apply List.ext_getElem?
 intro j
 by_cases hj:j<h
 ·rw [List.getElem?_map,yR hj,yR hj,←r.el j hj];rfl
 ·rw [List.getElem?_map,List.getElem?_eq_none (by simp [mp];omega),List.getElem?_eq_none (by simp [mp];omega)];rfl
theorem Rep.swap {ι:Nat→Nat} {pool:List (List Rat)} {g:Nat→Nat→Rat} {h w n a:Nat} (r:Rep ι pool g h w) (hn:n<h) (ha:a<h) (hne:n≠a):Rep (gI (gI ι n (ι a)) a (ι n)) pool (zD g n a) h w:=by
 have key:∀i,gI (gI ι n (ι a)) a (ι n) i=ι (if i=n then a else if i=a then n else i):=fun i=>by
  unfold gI
  by_cases h1:i=n
  ·rw [if_pos h1,if_neg (by omega),if_pos h1]
  ·rw [if_neg h1]
   by_cases h2:i=a
   ·rw [if_pos h2,if_pos h2,if_neg h1]
   ·rw [if_neg h2,if_neg h1,if_neg h2]
 refine⟨fun i j hi hj e=>?_,fun i hi=>?_,fun i hi=>?_⟩
 ·rw [key,key] at e
  have:=r.inj _ _ (aF6 hn ha hi) (aF6 hn ha hj) e
  split at this<;>split at this<;>(try split at this)<;>(try split at this)<;>omega
 ·rw [key];exact r.lt _ (aF6 hn ha hi)
 ·rw [key];exact r.el _ (aF6 hn ha hi)
def mid (f e:Nat→Rat) (c j:Nat):Rat:=if j<c then f j else e j
theorem aOa {α:Type} {g:Nat→α} {i:Nat} {x y:α}:gI (gI g i x) i y=gI g i y:=by
 funext j
 unfold gI
 split<;>rfl
end Go.Proofs.YtcjdedkdoagifaaGreat
set_option linter.unusedVariables false
namespace Go.Proofs.YtcjdedkdoagifaaGreat
/-- A list of numbers read by index. -/
def pat (ps:List Nat) (i:Nat):Nat:=ps.getD i 0
def Cok (h w:Nat):Prop:=h=0→w=0
theorem aHG {g:Nat→Nat→Rat} {h w:Nat} (hc:Cok h w):uI (mx g h w)=some (w:Int):=by
 by_cases h0:h=0
 ·subst h0
  rw [hc rfl];rfl
 ·have r0:=aBL (g:=g) (w:=w) (show 0<h by omega)
  simp only [Int.natCast_zero] at r0
  simp only [uI,uJ,qF (show¬(h:Int)=0 by omega),bO,r0,oB,bF]
theorem aEo {l:List Rat} {b:Nat} (hl:vQ b l) (hb:b≤1073741824) (hn:l.length≤1000) (K:Nat):∀(t i k:Nat),i+t=l.length→t<k→fT K l l k (i:Int)=some (.go ())
 |0,i,k,hi,hk=>by
  obtain⟨k',rfl,_⟩:=a8 hk
  simp only [fT,dF (show¬(i:Int)<(l.length:Int) by omega),bO]
 |t+1,i,k,hi,hk=>by
  obtain⟨k',rfl,_⟩:=a8 hk
  have hx:=hl _ (wI (l:=l) (i:=i) (by omega))
  simp only [fT,dT (show(i:Int)<(l.length:Int) by omega),bT,aHy (l:=l) (i:=i) (by omega),oB,aL9 hx hx hb hb,decide_true,Bool.not_true,bO,mS (i:=i) (by omega)]
  exact aEo hl hb hn K t (i+1) k' (by omega) (by omega)
theorem aIJ {l:List Rat} {b:Nat} (hl:vQ b l) (hb:b≤1073741824) (hn:l.length≤1000) {K:Nat} (hK:l.length<K):jV K l l=some true:=by
 have:=aEo hl hb hn K l.length 0 K (by omega) hK
 simp only [Int.natCast_zero] at this
 simp only [jV,nF (rfl:(l.length:Int)=l.length),bO,this,oB,mO]
end Go.Proofs.YtcjdedkdoagifaaGreat
set_option linter.unusedVariables false
namespace Go.Proofs.YtcjdedkdoagifaaGreat
theorem aA1 (f g:Nat→Rat) (a:Rat):∀n,sm (fun c=>f c-a*g c) n=sm f n-a*sm g n
 |0=>by simp only [sm];grind
 |n+1=>by
  have ih:=aA1 f g a n
  simp only [sm]
  rw [ih];grind
theorem aHb (f:Nat→Rat) (a:Rat):∀n,sm (fun c=>f c*a) n=sm f n*a
 |0=>by simp only [sm];grind
 |n+1=>by
  have ih:=aHb f a n
  simp only [sm]
  rw [ih];grind
theorem bJ {f g:Nat→Rat}:∀{n:Nat},(∀i,i<n→f i=g i)→sm f n=sm g n
 |0,_=>rfl
 |n+1,h=>by
  simp only [sm]
  rw [bJ fun i hi=>h i (by omega),h n (by omega)]
theorem nZ {f:Nat→Rat} {n:Nat} (h:∀i,i<n→f i=0):sm f n=0:=by
 rw [bJ (g:=fun _=>0) h]
 induction n with
 |zero=>rfl
 |succ n ih=>simp only [sm];rw [ih fun i hi=>h i (by omega)];grind
theorem rW {f:Nat→Rat} {n p:Nat} (hp:p<n) (h:∀i,i<n→i≠p→f i=0):sm f n=f p:=by
 induction n with
 |zero=>omega
 |succ n ih=>
  simp only [sm]
  by_cases he:p=n
  ·rw [nZ fun i hi=>h i (by omega) (by omega),he];grind
  ·rw [ih (by omega) fun i hi hne=>h i (by omega) hne,h n (by omega) (by omega)];grind
theorem yO (f g:Nat→Rat):∀n,sm (fun c=>f c+g c) n=sm f n+sm g n
 |0=>by simp only [sm];grind
 |n+1=>by
  have ih:=yO f g n
  simp only [sm]
  rw [ih];grind
structure RJ (h k:Nat) (s:RS):Prop where
 ph:s.ps.length≤h
 pk:∀i,i<s.ps.length→pat s.ps i<k
 z:∀i c,s.ps.length≤i→i<h→c<k→s.g i c=0
 one:∀i i',i<s.ps.length→i'<h→s.g i' (pat s.ps i)=if i'=i then 1 else 0
 lead:∀i c,i<s.ps.length→c<pat s.ps i→s.g i c=0
 inc:∀i j,i<j→j<s.ps.length→pat s.ps i<pat s.ps j
 gap:∀c,c<k→c∉s.ps→∀i,i<s.ps.length→c<pat s.ps i→s.g i c=0
theorem aA9 {ps:List Nat} {k i:Nat} (h:i<ps.length):pat (ps++[k]) i=pat ps i:=by
 unfold pat
 rw [List.getD_eq_getElem?_getD,List.getD_eq_getElem?_getD,List.getElem?_append_left h]
theorem aDC {ps:List Nat} {k:Nat}:pat (ps++[k]) ps.length=k:=by
 unfold pat
 rw [List.getD_eq_getElem?_getD,List.getElem?_append_right (Nat.le_refl _),Nat.sub_self];rfl
theorem aMf {h k:Nat} {s:RS} (hs:RJ h k s):RJ h (k+1) (aGu h k s):=by
 have hp:=aIj (g:=s.g) (k:=k) (h-s.ps.length) s.ps.length
 have hph:=hs.ph
 unfold aGu
 split
 ·rename_i hat
  refine⟨hs.ph,fun i hi=>Nat.lt_succ_of_lt (hs.pk i hi),fun i c hi hh hc=>?_,hs.one,hs.lead,hs.inc,fun c _ _ i hi hlt=>hs.lead i c hi hlt⟩
  by_cases he:c=k
  ·subst he;exact aO0 (h-s.ps.length) s.ps.length i hi (by omega)
  ·exact hs.z i c hi hh (by omega)
 ·rename_i hat
  have hlt:piv s.g k (h-s.ps.length) s.ps.length<h:=by omega
  have hne:=aMM (g:=s.g) (k:=k) (h-s.ps.length) s.ps.length (by omega)
  generalize ha:piv s.g k (h-s.ps.length) s.ps.length=at0 at *
  have hz:∀c,c<k→s.g at0 c=0:=fun c hc=>hs.z at0 c hp.1 hlt hc
  have hpr:∀c,c<k→pr s.g at0 k c=0:=fun c hc=>by unfold pr;rw [hz c hc,Rat.div_def,Rat.zero_mul]
  have hprk:pr s.g at0 k k=1:=by unfold pr;rw [Rat.div_def,Rat.mul_inv_cancel _ hne]
  have hswz:∀i c,s.ps.length<i→i<h→c<k→zD s.g s.ps.length at0 i c=0:=fun i c hi hih hc=>by
   unfold zD
   rw [if_neg (by omega)]
   split
   ·exact hs.z _ c (Nat.le_refl _) (by omega) hc
   ·exact hs.z _ c (by omega) hih hc
  have hsw:∀i c,i<s.ps.length→zD s.g s.ps.length at0 i c=s.g i c:=fun i c hi=>by
   unfold zD
   rw [if_neg (by omega),if_neg (by omega)]
  have hlead:∀i c,i<s.ps.length+1→c<pat (s.ps++[k]) i→stp s.g s.ps.length at0 k i c=0:=fun i c hi hc=>by
   by_cases he:i=s.ps.length
   ·subst he
    rw [aDC] at hc
    unfold stp
    rw [if_pos rfl];exact hpr c hc
   ·have hi':i<s.ps.length:=by omega
    rw [aA9 hi'] at hc
    unfold stp
    rw [if_neg he,hsw i c hi',hsw i k hi',hs.lead i c hi' hc,hpr c (by have:=hs.pk i hi';omega)]
    grind
  refine⟨by simp only [List.length_append,List.length_singleton];omega,fun i hi=>?_,fun i c hi hh hc=>?_,fun i i' hi hi'=>?_,fun i c hi hc=>hlead i c (by simpa using hi) hc,fun i j hij hj=>?_,fun c _ _ i hi hlt=>hlead i c (by simpa using hi) hlt⟩
  ·simp only [List.length_append,List.length_singleton] at hi
   by_cases he:i=s.ps.length
   ·subst he;simp only [aDC];omega
   ·simp only [aA9 (show i<s.ps.length by omega)]
    have:=hs.pk i (by omega);omega
  ·simp only [List.length_append,List.length_singleton] at hi
   show stp s.g s.ps.length at0 k i c=0
   unfold stp
   rw [if_neg (by omega)]
   by_cases he:c=k
   ·subst he
    rw [hprk,Rat.mul_one,Rat.sub_self]
   ·rw [hswz i c (by omega) hh (by omega),hpr c (by omega)]
    grind
  ·simp only [List.length_append,List.length_singleton] at hi
   show stp s.g s.ps.length at0 k i' (pat (s.ps++[k]) i)=_
   unfold stp
   by_cases he:i=s.ps.length
   ·subst he
    rw [aDC]
    by_cases e2:i'=s.ps.length
    ·rw [if_pos e2,if_pos e2,hprk]
    ·rw [if_neg e2,if_neg e2,hprk,Rat.mul_one,Rat.sub_self]
   ·have hi2:i<s.ps.length:=by omega
    rw [aA9 hi2,hpr _ (hs.pk i hi2)]
    by_cases e2:i'=s.ps.length
    ·rw [if_pos e2,if_neg (by omega)]
    ·rw [if_neg e2]
     by_cases e3:i'<s.ps.length
     ·rw [hsw i' _ e3,hs.one i i' hi2 (by omega)]
      grind
     ·rw [hswz i' _ (by omega) hi' (hs.pk i hi2),if_neg (by omega)]
      grind
  ·simp only [List.length_append,List.length_singleton] at hj
   by_cases he:j=s.ps.length
   ·subst he
    simp only [aDC,aA9 (show i<s.ps.length by omega)]
    exact hs.pk i (by omega)
   ·simp only [aA9 (show i<s.ps.length by omega),aA9 (show j<s.ps.length by omega)]
    exact hs.inc i j hij (by omega)
theorem aJM {g:Nat→Nat→Rat} {h:Nat}:∀k,RJ h k (red g h k)
 |0=>⟨Nat.zero_le _,fun i hi=>absurd hi (by simp [red]),fun i c _ _ hc=>absurd hc (by omega),fun i i' hi _=>absurd hi (by simp [red]),fun i c hi _=>absurd hi (by simp [red]),fun i j _ hj=>absurd hj (by simp [red]),fun c hc=>absurd hc (by omega)⟩
 |k+1=>aMf (aJM k)
end Go.Proofs.YtcjdedkdoagifaaGreat
set_option linter.unusedVariables false
namespace Go.Proofs.YtcjdedkdoagifaaGreat
theorem aA3 (F:Nat→Nat→Rat) (m:Nat):∀n,sm (fun i=>sm (F i) m) n=sm (fun j=>sm (fun i=>F i j) n) m
 |0=>by
  simp only [sm]
  exact(nZ fun i _=>rfl).symm
 |n+1=>by
  simp only [sm]
  rw [aA3 F m n,yO]
theorem sF (f:Nat→Rat) (a:Rat) (n:Nat):sm (fun c=>a*f c) n=a*sm f n:=by
 rw [Rat.mul_comm,←aHb]
 exact bJ fun i _=>Rat.mul_comm _ _
theorem aBN (f:Nat→Rat) (n:Nat):sm (fun c=>-(f c)) n=-(sm f n):=by
 have:=sF f (-1) n
 rw [bJ (g:=fun c=>-1*f c) fun i _=>by grind,this];grind
def skp (k c:Nat):Nat:=if c<k then c else c+1
theorem aMY (F:Nat→Rat) {k:Nat}:∀{n:Nat},k≤n→sm (fun l=>F (skp k l)) n=sm (fun m=>if m=k then 0 else F m) (n+1)
 |0,h=>by
  have:k=0:=by omega
  subst this
  simp only [sm];grind
 |n+1,h=>by
  by_cases hk:k≤n
  ·have ih:=aMY F hk
   rw [sm,ih,sm,sm,sm]
   have e1:skp k n=n+1:=by unfold skp;rw [if_neg (by omega)]
   rw [e1,if_neg (show¬n+1=k by omega)]
  ·have:k=n+1:=by omega
   subst this
   rw [sm.eq_2 _ (n+1),if_pos rfl]
   rw [bJ (g:=F) fun i hi=>by unfold skp;rw [if_pos hi],bJ (g:=F) fun i hi=>if_neg (by omega)]
   grind
def sgn (k:Nat):Rat:=if k%2=0 then 1 else -1
def mnr (g:Nat→Nat→Rat) (k i c:Nat):Rat:=g (i+1) (skp k c)
def dt:Nat→(Nat→Nat→Rat)→Rat
 |0,_=>1
 |n+1,g=>sm (fun k=>sgn k*(g 0 k*dt n (mnr g k))) (n+1)
theorem aM7 {k c n:Nat} (hc:c<n):skp k c<n+1:=by unfold skp;split<;>omega
theorem tW:∀{n:Nat} {g g':Nat→Nat→Rat},(∀i c,i<n→c<n→g i c=g' i c)→dt n g=dt n g'
 |0,_,_,_=>rfl
 |n+1,g,g',h=>by
  simp only [dt]
  refine bJ fun k hk=>?_
  rw [h 0 k (by omega) hk,tW (g:=mnr g k) (g':=mnr g' k) fun i c hi hc=>h (i+1) _ (by omega) (aM7 hc)]
theorem aLD {g:Nat→Nat→Rat} {f:Nat→Rat} {k:Nat}:mnr (gI g 0 f) k=mnr g k:=by
 funext i c
 unfold mnr
 rw [bY (by omega)]
theorem aNG {g:Nat→Nat→Rat} {f:Nat→Rat} {k j:Nat}:mnr (gI g (j+1) f) k=gI (mnr g k) j (fun c=>f (skp k c)):=by
 funext i c
 unfold mnr
 by_cases h:i=j
 ·subst h;rw [aW,aW]
 ·rw [bY (by omega),bY h]
theorem aIE {u v:Nat→Rat} {a:Rat}:∀{n:Nat} {g:Nat→Nat→Rat} {i:Nat},i<n→dt n (gI g i (fun c=>u c-a*v c))=dt n (gI g i u)-a*dt n (gI g i v)
 |0,_,_,h=>by omega
 |n+1,g,0,_=>by
  simp only [dt,aLD,aW]
  rw [←aA1]
  exact bJ fun k _=>by grind
 |n+1,g,j+1,h=>by
  simp only [dt,aNG,bY (show 0≠j+1 by omega)]
  rw [←aA1]
  refine bJ fun k _=>?_
  rw [aIE (u:=fun c=>u (skp k c)) (v:=fun c=>v (skp k c)) (a:=a) (show j<n by omega)]
  grind
theorem aB6 (k:Nat):sgn (k+1)=-(sgn k):=by
 unfold sgn
 by_cases h:k%2=0
 ·rw [if_pos h,if_neg (by omega)]
 ·rw [if_neg h,if_pos (by omega)];grind
theorem aGy (k:Nat):∀l,sgn (k+l)=sgn k*sgn l
 |0=>by
  have:sgn 0=1:=rfl
  rw [this,Nat.add_zero];grind
 |l+1=>by
  rw [←Nat.add_assoc,aB6,aGy k l,aB6];grind
def aKv (k m c:Nat):Nat:=if c<min k m then c else if c+1<max k m then c+1 else c+2
theorem aOm (k l c:Nat):skp k (skp l c)=aKv k (skp k l) c:=by
 unfold aKv skp
 by_cases h1:l<k
 ·rw [if_pos h1]
  repeat' split
  all_goals omega
 ·rw [if_neg h1]
  repeat' split
  all_goals omega
theorem aK7 (k m c:Nat):aKv k m c=aKv m k c:=by
 unfold aKv;rw [Nat.min_comm,Nat.max_comm]
def eps (k m:Nat):Rat:=if k<m then sgn (k+m+1) else sgn (k+m)
theorem aLO {k m:Nat} (h:m≠k):eps k m=-(eps m k):=by
 unfold eps
 by_cases h1:k<m
 ·rw [if_pos h1,if_neg (by omega),aB6,Nat.add_comm]
 ·rw [if_neg h1,if_pos (by omega),aB6,Nat.add_comm];grind
theorem aOo (k l:Nat):sgn k*sgn l=eps k (skp k l):=by
 unfold eps skp
 by_cases h:l<k
 ·rw [if_pos h,if_neg (by omega),aGy]
 ·rw [if_neg h,if_pos (by omega)]
  rw [show k+(l+1)+1=k+l+2 by omega,show sgn (k+l+2)=sgn (k+l) by unfold sgn;rw [show(k+l+2)%2=(k+l)%2 by omega],aGy]
def aIZ (g:Nat→Nat→Rat) (k m i c:Nat):Rat:=g (i+2) (aKv k m c)
theorem aMg {n:Nat} {g:Nat→Nat→Rat}:dt (n+2) g=sm (fun k=>sm (fun m=>if m=k then 0 else eps k m*(g 0 k*(g 1 m*dt n (aIZ g k m)))) (n+2)) (n+2):=by
 rw [dt]
 refine bJ fun k hk=>?_
 rw [←aMY (fun m=>eps k m*(g 0 k*(g 1 m*dt n (aIZ g k m)))) (show k≤n+1 by omega),dt,←sF,←sF]
 refine bJ fun l _=>?_
 rw [←aOo,show dt n (mnr (mnr g k) l)=dt n (aIZ g k (skp k l)) from congrArg (dt n) (by
  funext i c
  unfold mnr aIZ
  rw [aOm])]
 unfold mnr
 grind
theorem aKW {n:Nat} {g:Nat→Nat→Rat}:dt (n+2) (zD g 0 1)=-(dt (n+2) g):=by
 rw [aMg,aMg,aA3,←aBN]
 refine bJ fun k _=>?_
 rw [←aBN]
 refine bJ fun m _=>?_
 by_cases h:k=m
 ·rw [if_pos h,if_pos h.symm];grind
 ·rw [if_neg h,if_neg (fun e=>h e.symm),aLO (by exact fun e=>h e)]
  have e:aIZ (zD g 0 1) m k=aIZ g k m:=by
   funext i c
   unfold aIZ zD
   rw [if_neg (by omega),if_neg (by omega),aK7]
  rw [e]
  have e1:zD g 0 1 0=g 1:=by unfold zD;rw [if_pos rfl]
  have e2:zD g 0 1 1=g 0:=by unfold zD;rw [if_neg (by omega),if_pos rfl]
  rw [e1,e2]
  grind
theorem aN0 {g:Nat→Nat→Rat} {a b k:Nat}:mnr (zD g (a+1) (b+1)) k=zD (mnr g k) a b:=by
 funext i c
 unfold mnr zD
 congr 1
 by_cases h1:i=a
 ·rw [if_pos (by omega),if_pos h1]
 ·rw [if_neg (by omega),if_neg h1]
  by_cases h2:i=b
  ·rw [if_pos (by omega),if_pos h2]
  ·rw [if_neg (by omega),if_neg h2]
theorem aGA:∀{n:Nat} {g:Nat→Nat→Rat} {i:Nat},i+1<n→dt n (zD g i (i+1))=-(dt n g)
 |0,_,_,h=>by omega
 |1,_,_,h=>by omega
 |n+2,g,0,_=>aKW
 |n+2,g,i+1,h=>by
  rw [dt,dt,←aBN]
  refine bJ fun k _=>?_
  rw [aN0,aGA (show i+1<n+1 by omega)]
  have e1:zD g (i+1) (i+1+1) 0=g 0:=by unfold zD;rw [if_neg (by omega),if_neg (by omega)]
  rw [e1];grind
theorem aIs {n:Nat}:∀(t:Nat) {g:Nat→Nat→Rat} {i:Nat},i+t+1<n→dt n (zD g i (i+t+1))=-(dt n g)
 |0,g,i,h=>aGA h
 |t+1,g,i,h=>by
  have e:zD g i (i+(t+1)+1)=zD (zD (zD g (i+t+1) (i+t+1+1)) i (i+t+1)) (i+t+1) (i+t+1+1):=by
   funext j
   unfold zD
   congr 1
   repeat' split
   all_goals omega
  rw [e,aGA (by omega),aIs t (by omega),aGA (by omega)];grind
theorem aLt {g:Nat→Nat→Rat} {a b:Nat}:zD g a b=zD g b a:=by
 funext j
 unfold zD
 congr 1
 repeat' split
 all_goals omega
structure Alt (h:Nat) (D:(Nat→Nat→Rat)→Rat):Prop where
 cong:∀g g':Nat→Nat→Rat,(∀i,i<h→g i=g' i)→D g=D g'
 lin:∀(g:Nat→Nat→Rat) (u v:Nat→Rat) (a:Rat) (i:Nat),i<h→D (gI g i (fun c=>u c-a*v c))=D (gI g i u)-a*D (gI g i v)
 swap:∀(g:Nat→Nat→Rat) (i j:Nat),i<h→j<h→i≠j→D (zD g i j)=-(D g)
theorem aEw (n:Nat):Alt n (dt n):=⟨fun g g' h=>tW fun i c hi _=>by rw [h i hi],fun g u v a i hi=>aIE hi,fun g i j hi hj hne=>by
 by_cases h:i<j
 ·obtain⟨t,rfl⟩:∃t,j=i+t+1:=⟨j-i-1,by omega⟩
  exact aIs t hj
 ·obtain⟨t,rfl⟩:∃t,i=j+t+1:=⟨i-j-1,by omega⟩
  rw [aLt]
  exact aIs t hi⟩
theorem Alt.zero {h:Nat} {D:(Nat→Nat→Rat)→Rat} (a:Alt h D) {g:Nat→Nat→Rat} {i:Nat} (hi:i<h) (hz:g i=fun _=>0):D g=0:=by
 have:=a.lin g (g i) (g i) 1 i hi
 have e:(fun c=>g i c-1*g i c)=g i:=by funext c;rw [hz];grind
 have e2:gI g i (g i)=g:=by
  funext j
  unfold gI
  split
  ·rename_i h;rw [h]
  ·rfl
 rw [e,e2] at this
 grind
theorem aLq {α:Type} {g:Nat→α} {i:Nat}:gI g i (g i)=g:=by
 funext j
 unfold gI
 split
 ·rename_i h;rw [h]
 ·rfl
theorem Alt.scale {h:Nat} {D:(Nat→Nat→Rat)→Rat} (a:Alt h D) {g:Nat→Nat→Rat} {u:Nat→Rat} {b:Rat} {i:Nat} (hi:i<h):D (gI g i (fun c=>b*u c))=b*D (gI g i u):=by
 have h1:=a.lin g (fun _=>0) u (-b) i hi
 have h2:D (gI g i (fun _=>0))=0:=a.zero hi aW
 rw [h2] at h1
 have e:(fun c=>(0:Rat)- -b*u c)=fun c=>b*u c:=by funext c;grind
 rw [e] at h1
 rw [h1];grind
theorem Alt.same {h:Nat} {D:(Nat→Nat→Rat)→Rat} (a:Alt h D) {g:Nat→Nat→Rat} {i j:Nat} (hi:i<h) (hj:j<h) (hne:i≠j) (he:g i=g j):D g=0:=by
 have h1:=a.swap g i j hi hj hne
 have e:zD g i j=g:=by
  funext l
  unfold zD
  split
  ·rename_i h;rw [h,he]
  ·split
   ·rename_i h;rw [h,he]
   ·rfl
 rw [e] at h1
 grind
theorem Alt.add {h:Nat} {D:(Nat→Nat→Rat)→Rat} (a:Alt h D) {g:Nat→Nat→Rat} {b:Rat} {i j:Nat} (hi:i<h) (hj:j<h) (hne:i≠j):D (gI g i (fun c=>g i c-b*g j c))=D g:=by
 rw [a.lin g (g i) (g j) b i hi,aLq,a.same (g:=gI g i (g j)) hi hj hne (by rw [aW,bY (fun e=>hne e.symm)])]
 grind
def elm (g:Nat→Nat→Rat) (n k j i c:Nat):Rat:=if i<j∧i≠n then g i c-g i k*g n c else g i c
theorem Alt.elm0 {h:Nat} {D:(Nat→Nat→Rat)→Rat} (a:Alt h D) {g:Nat→Nat→Rat} {n k:Nat} (hn:n<h):∀j,j≤h→D (elm g n k j)=D g
 |0,_=>a.cong _ _ fun i _=>by
  funext c
  exact if_neg (by omega)
 |j+1,hj=>by
  refine Eq.trans ?_ (Alt.elm0 (k:=k) a hn j (by omega))
  by_cases he:j=n
  ·refine a.cong _ _ fun i _=>?_
   funext c
   unfold elm
   by_cases h1:i<j
   ·rw [if_pos ⟨by omega,by omega⟩,if_pos ⟨h1,by omega⟩]
   ·rw [if_neg (by omega),if_neg (by omega)]
  ·refine Eq.trans ?_ (a.add (g:=elm g n k j) (b:=g j k) (show j<h by omega) hn he)
   refine a.cong _ _ fun i _=>?_
   funext c
   by_cases h1:i=j
   ·subst h1
    rw [aW]
    unfold elm
    rw [if_pos ⟨by omega,he⟩,if_neg (by omega),if_neg (by omega)]
   ·rw [bY h1]
    unfold elm
    by_cases h2:i<j∧i≠n
    ·rw [if_pos ⟨by omega,h2.2⟩,if_pos h2]
    ·rw [if_neg (by omega),if_neg h2]
theorem Alt.stp0 {h:Nat} {D:(Nat→Nat→Rat)→Rat} (a:Alt h D) {g:Nat→Nat→Rat} {n at0 k:Nat} (hn:n<h) (ha:at0<h) (hne:g at0 k≠0):D g=(if at0=n then 1 else -1)*g at0 k*D (stp g n at0 k):=by
 have e1:D (zD g n at0)=(if at0=n then 1 else -1)*D g:=by
  by_cases h1:at0=n
  ·rw [if_pos h1]
   have:zD g n at0=g:=by
    funext i
    unfold zD
    split
    ·rw [h1];congr 1;omega
    ·split
     ·congr 1;omega
     ·rfl
   rw [this];grind
  ·rw [if_neg h1,a.swap g n at0 hn ha (fun e=>h1 e.symm)];grind
 have e2:D (zD g n at0)=g at0 k*D (gI (zD g n at0) n (pr g at0 k)):=by
  rw [←a.scale hn]
  congr 1
  funext i
  by_cases h1:i=n
  ·subst h1
   rw [aW]
   funext c
   unfold zD pr
   rw [if_pos rfl,Rat.div_def,Rat.mul_comm (g at0 c),←Rat.mul_assoc,Rat.mul_inv_cancel _ hne,Rat.one_mul]
  ·rw [bY h1]
 have e3:D (stp g n at0 k)=D (gI (zD g n at0) n (pr g at0 k)):=by
  rw [←a.elm0 (g:=gI (zD g n at0) n (pr g at0 k)) (n:=n) (k:=k) hn h (Nat.le_refl _)]
  refine a.cong _ _ fun i hi=>?_
  funext c
  unfold stp elm
  by_cases h1:i=n
  ·subst h1
   rw [if_pos rfl,if_neg (by omega),aW]
  ·rw [if_neg h1,if_pos ⟨hi,h1⟩,bY h1,aW]
 rw [e3]
 have e4:D g=(if at0=n then 1 else -1)*D (zD g n at0):=by
  rw [e1]
  split<;>grind
 rw [e4,e2];grind
theorem Alt.red0 {h:Nat} {D:(Nat→Nat→Rat)→Rat} (a:Alt h D) {g:Nat→Nat→Rat}:∀k,D g=(red g h k).d*D (red g h k).g
 |0=>by simp only [red];grind
 |k+1=>by
  refine(Alt.red0 a k).trans ?_
  have hl:=(aJM (g:=g) (h:=h) k).ph
  simp only [red]
  generalize red g h k=s at *
  unfold aGu
  split
  ·rfl
  ·rename_i hat
   have hp:=aIj (g:=s.g) (k:=k) (h-s.ps.length) s.ps.length
   have hlt:piv s.g k (h-s.ps.length) s.ps.length<h:=by omega
   have hne:=aMM (g:=s.g) (k:=k) (h-s.ps.length) s.ps.length (by omega)
   rw [a.stp0 (g:=s.g) (n:=s.ps.length) (at0:=piv s.g k (h-s.ps.length) s.ps.length) (k:=k) (by omega) hlt hne]
   simp only
   split<;>grind
end Go.Proofs.YtcjdedkdoagifaaGreat
set_option linter.unusedVariables false
namespace Go.Proofs.YtcjdedkdoagifaaGreat
end Go.Proofs.YtcjdedkdoagifaaGreat
set_option linter.unusedVariables false
namespace Go.Proofs.YtcjdedkdoagifaaGreat
end Go.Proofs.YtcjdedkdoagifaaGreat
set_option linter.unusedVariables false
namespace Go.Proofs.YtcjdedkdoagifaaGreat
/-- A matrix times a vector. -/
def aHx (g:Nat→Nat→Rat) (v:Nat→Rat) (w i:Nat):Rat:=sm (fun c=>g i c*v c) w
end Go.Proofs.YtcjdedkdoagifaaGreat
set_option linter.unusedVariables false
namespace Go.Proofs.YtcjdedkdoagifaaGreat
/-- A vector and the right side. -/
def ext (x:Nat→Rat) (w c:Nat):Rat:=if c<w then x c else -1
end Go.Proofs.YtcjdedkdoagifaaGreat
set_option linter.unusedVariables false
namespace Go.Proofs.YtcjdedkdoagifaaGreat
/-- A turned matrix. -/
def tr (g:Nat→Nat→Rat) (i k:Nat):Rat:=g k i
theorem aFx {g:Nat→Nat→Rat} {h w c:Nat} (hh:h≤100) (hc:c<w) (K:Nat):∀(t i k:Nat),i+t=h→t<k→lK K (mx g h w) (c:Int) k (mp (tr g c) i) (i:Int)=some (mp (tr g c) h)
 |0,i,k,hi,hk=>by
  obtain⟨k',rfl,_⟩:=a8 hk
  have:i=h:=by omega
  subst this
  simp only [lK,uJ,dF (show¬(i:Int)<(i:Int) by omega),bO]
 |t+1,i,k,hi,hk=>by
  obtain⟨k',rfl,_⟩:=a8 hk
  have hl:i<h:=by omega
  have e4:qD (mp (tr g c) i) [g i c]=some (mp (tr g c) (i+1)):=apM (g:=tr g c) (by omega)
  simp only [lK,uJ,dT (show(i:Int)<(h:Int) by omega),bT,aBL (g:=g) (w:=w) hl,oB,dV (f:=g i) hc,e4,mS (i:=i) (by omega)]
  exact aFx hh hc K t (i+1) k' (by omega) (by omega)
theorem aFc {g:Nat→Nat→Rat} {h w:Nat} (hc:Cok h w) (hh:h≤100) (hw:w≤100) {K:Nat} (hK:h<K):∀(t i k:Nat),i+t=w→t<k→k9 K (mx g h w) k (mx (tr g) i h) (i:Int)=some (mx (tr g) w h)
 |0,i,k,hi,hk=>by
  obtain⟨k',rfl,_⟩:=a8 hk
  have:i=w:=by omega
  subst this
  simp only [k9,aHG hc,oB,dF (show¬(i:Int)<(i:Int) by omega),bO]
 |t+1,i,k,hi,hk=>by
  obtain⟨k',rfl,_⟩:=a8 hk
  have h50:=aFx (g:=g) hh (show i<w by omega) K h 0 K (by omega) hK
  simp only [Int.natCast_zero,aAl] at h50
  have e4:qD (mx (tr g) i h) [mp (tr g i) h]=some (mx (tr g) (i+1) h):=apM (g:=fun i=>mp (tr g i) h) (by omega)
  simp only [k9,aHG hc,dT (show(i:Int)<(w:Int) by omega),bT,oB,h50,vE,e4,mS (i:=i) (by omega)]
  exact aFc hc hh hw hK t (i+1) k' (by omega) (by omega)
theorem aMk {g:Nat→Nat→Rat} {h w:Nat} (hc:Cok h w) (hh:h≤100) (hw:w≤100) {K:Nat} (hK:w+h<K):uL K (mx g h w)=some (mx (tr g) w h):=by
 have:=aFc (g:=g) hc hh hw (K:=K) (by omega) w 0 K (by omega) (by omega)
 have e:mx (tr g) 0 h=[]:=rfl
 rw [e] at this
 simp only [Int.natCast_zero] at this
 simp only [uL,this,oB,vK]
def yV (g q:Nat→Nat→Rat) (w i j:Nat):Rat:=aHx (tr q) (g i) w j
end Go.Proofs.YtcjdedkdoagifaaGreat
set_option linter.unusedVariables false
namespace Go.Proofs.YtcjdedkdoagifaaGreat
theorem aRm:sgn 0=1:=rfl
def xH (i c:Nat):Rat:=if i=c then 1 else 0
theorem aDB:∀n,dt n xH=1
 |0=>rfl
 |n+1=>by
  rw [dt,rW (p:=0) (by omega) fun k _ hk=>by unfold xH;rw [if_neg (fun e=>hk e.symm)];grind]
  have e:dt n (mnr xH 0)=dt n xH:=tW fun i c _ _=>by
   unfold mnr xH skp
   rw [if_neg (Nat.not_lt_zero c)]
   by_cases h:i=c
   ·rw [if_pos h,if_pos (by omega)]
   ·rw [if_neg h,if_neg (by omega)]
  rw [e,aDB n,aRm]
  unfold xH
  rw [if_pos rfl];grind
theorem aMs {h k:Nat} {s:RS} (hs:RJ h k s):∀i,i<s.ps.length→i≤pat s.ps i
 |0,_=>Nat.zero_le _
 |i+1,hi=>by
  have:=aMs hs i (by omega)
  have:=hs.inc i (i+1) (by omega) hi
  omega
theorem aGX {h k:Nat} {s:RS} (hs:RJ h k s):∀t i,i+t+1=s.ps.length→pat s.ps i+t<k
 |0,i,hi=>hs.pk i (by omega)
 |t+1,i,hi=>by
  have:=aGX hs t (i+1) (by omega)
  have:=hs.inc i (i+1) (by omega) (by omega)
  omega
theorem aNs {h k:Nat} {s:RS} (hs:RJ h k s) (hf:s.ps.length=k) {i:Nat} (hi:i<k):pat s.ps i=i:=by
 have h1:=aMs hs i (by omega)
 have h2:=aGX hs (k-1-i) i (by omega)
 omega
theorem aCS {h k:Nat} {s:RS} (hs:RJ h k s) (hf:s.ps.length=k) {i c:Nat} (hi:i<h) (hc:c<k):s.g i c=if i=c then 1 else 0:=by
 have:=hs.one c i (by omega) hi
 rw [aNs hs hf hc] at this
 exact this
def aQB (g:Nat→Nat→Rat) (n:Nat):Rat:=if(red g n n).ps.length=n then(red g n n).d else 0
theorem aQZ {g:Nat→Nat→Rat} {n:Nat}:dt n g=aQB g n:=by
 have hJ:=aJM (g:=g) (h:=n) n
 unfold aQB
 rw [(aEw n).red0 (g:=g) n]
 split
 ·rename_i hf
  rw [tW (g':=xH) fun i c hi hc=>aCS hJ hf hi hc,aDB];grind
 ·rename_i hf
  have hlt:(red g n n).ps.length<n:=by have:=hJ.ph;omega
  rw [tW (g':=fun i c=>if c<n then(red g n n).g i c else 0) fun i c hi hc=>by rw [if_pos hc],(aEw n).zero (i:=n-1) (by omega) ?_]
  ·grind
  ·funext c
   split
   ·rename_i hc
    exact hJ.z (n-1) c (by omega) (by omega) hc
   ·rfl
theorem aLn (q:Nat→Nat→Rat) (n w:Nat):Alt n fun g=>dt n (yV g q w):=by
 have eu:∀(g:Nat→Nat→Rat) (f:Nat→Rat) (i:Nat),yV (gI g i f) q w=gI (yV g q w) i (fun j=>aHx (tr q) f w j):=by
  intro g f i
  funext j c
  unfold yV
  by_cases h:j=i
  ·subst h;rw [aW,aW]
  ·rw [bY h,bY h]
 refine⟨fun g g' h=>tW fun i c hi _=>?_,fun g u v a i hi=>?_,fun g i j hi hj hne=>?_⟩
 ·unfold yV;rw [h i hi]
 ·show dt n _=dt n _-a*dt n _
  rw [eu,eu,eu,←aIE hi]
  congr 2
  funext j
  unfold aHx
  rw [←aA1]
  exact bJ fun c _=>by grind
 ·exact(aEw n).swap (yV g q w) i j hi hj hne
theorem aM3 {g q:Nat→Nat→Rat} {n:Nat}:dt n (yV g q n)=dt n g*dt n q:=by
 have hJ:=aJM (g:=g) (h:=n) n
 have hm:dt n (yV g q n)=(red g n n).d*dt n (yV (red g n n).g q n):=(aLn q n n).red0 (g:=g) n
 rw [hm,aQZ (g:=g)]
 unfold aQB
 split
 ·rename_i hf
  rw [tW (g:=yV (red g n n).g q n) (g':=q) fun i c hi hc=>?_]
  unfold yV aHx tr
  rw [rW (p:=i) hi fun j hj hne=>by rw [aCS hJ hf hi hj,if_neg (fun e=>hne e.symm)];grind]
  rw [aCS hJ hf hi hi,if_pos rfl];grind
 ·rename_i hf
  have hlt:(red g n n).ps.length<n:=by have:=hJ.ph;omega
  rw [(aEw n).zero (g:=yV (red g n n).g q n) (i:=n-1) (by omega) (by
   funext c
   unfold yV aHx
   exact nZ fun j hj=>by rw [hJ.z (n-1) j (by omega) (by omega) hj];grind)]
  grind
theorem wC {f:Nat→Rat}:∀{n:Nat},(∀i,i<n→0≤f i)→0≤sm f n
 |0,_=>Rat.le_refl
 |n+1,h=>by
  have h1:=wC (f:=f) (n:=n) fun i hi=>h i (by omega)
  have h2:=h n (by omega)
  simp only [sm];grind
end Go.Proofs.YtcjdedkdoagifaaGreat
set_option linter.unusedVariables false
namespace Go.Proofs.YtcjdedkdoagifaaGreat
/-- The unit matrix with one column replaced. -/
def aGU (i:Nat) (x:Nat→Rat) (r c:Nat):Rat:=if c=i then x r else if r=c then 1 else 0
theorem aOp {n i:Nat} (hi:i<n) (x:Nat→Rat):dt n (aGU i x)=x i:=by
 have a:=aEw n
 have e1:aGU i x=gI (aGU i x) i (fun c=>x i*xH i c):=by
  funext r c
  by_cases h:r=i
  ·subst h
   rw [aW]
   unfold aGU xH
   by_cases h2:c=r
   ·rw [if_pos h2,if_pos h2.symm,Rat.mul_one]
   ·rw [if_neg h2,if_neg (show¬r=c from fun e=>h2 e.symm),Rat.mul_zero]
  ·rw [bY h]
 have e2:dt n (gI (aGU i x) i (xH i))=1:=by
  rw [←a.elm0 (g:=gI (aGU i x) i (xH i)) (n:=i) (k:=i) hi n (Nat.le_refl n),←aDB n]
  refine tW fun r c hr hc=>?_
  unfold elm
  by_cases h:r=i
  ·subst h
   rw [if_neg (fun h2=>h2.2 rfl),aW]
  ·rw [if_pos ⟨hr,h⟩,bY h,aW]
   unfold aGU xH
   rw [if_pos rfl]
   by_cases h2:c=i
   ·rw [if_pos h2,if_pos h2.symm,Rat.mul_one,Rat.sub_self,if_neg (by omega)]
   ·rw [if_neg h2,if_neg (show¬i=c from fun e=>h2 e.symm),Rat.mul_zero,Rat.sub_eq_add_neg,Rat.neg_zero,Rat.add_zero]
 rw [e1,a.scale hi,e2,Rat.mul_one]
def aIR (Z:Nat→Nat→Rat) (b:Nat→Nat) (r j:Nat):Rat:=Z r (b j)
def aFJ (Z:Nat→Nat→Rat) (b:Nat→Nat) (i k:Nat) (r j:Nat):Rat:=if j=i then Z r k else Z r (b j)
theorem aQa {n w:Nat} {E Z T:Nat→Nat→Rat} {b:Nat→Nat} (hT:∀i c,i<n→c<w→T i c=yV E Z n i c) (hb:∀j,j<n→b j<w) (hu:∀i j,i<n→j<n→T i (b j)=if i=j then 1 else 0) {i k:Nat} (hi:i<n) (hk:k<w):dt n (aIR Z b)≠0∧T i k=dt n (aFJ Z b i k)/dt n (aIR Z b):=by
 have h1:dt n E*dt n (aIR Z b)=1:=by
  rw [←aM3,←aDB n]
  refine tW fun r c hr hc=>?_
  show yV E Z n r (b c)=_
  rw [←hT r (b c) hr (hb c hc),hu r c hr hc];rfl
 have h2:dt n E*dt n (aFJ Z b i k)=T i k:=by
  rw [←aM3,←aOp hi (fun r=>T r k)]
  refine tW fun r c hr hc=>?_
  unfold aGU
  by_cases h:c=i
  ·rw [if_pos h]
   show _=T r k
   rw [hT r k hr hk]
   unfold yV aHx tr aFJ
   simp [h]
  ·rw [if_neg h,←hu r c hr hc,hT r (b c) hr (hb c hc)]
   unfold yV aHx tr aFJ
   simp [h]
 have hne:dt n (aIR Z b)≠0:=fun e=>by rw [e,Rat.mul_zero] at h1;exact absurd h1 (by decide)
 refine⟨hne,?_⟩
 rw [←h2,Rat.div_def]
 have:dt n E=(dt n (aIR Z b))⁻¹:=by
  have h3:=congrArg (·*(dt n (aIR Z b))⁻¹) h1
  simp only [Rat.mul_assoc,Rat.mul_inv_cancel _ hne,Rat.mul_one,Rat.one_mul] at h3
  exact h3
 rw [this,Rat.mul_comm]
def isZ (M:Nat) (x:Rat):Prop:=∃q:Int,x=(q:Rat)∧q.natAbs≤M
def fM (M:Nat):Nat→Nat
 |0=>1
 |n+1=>(n+1)*(M*fM M n)
theorem isZ.mono {M N:Nat} {x:Rat} (h:isZ M x) (hn:M≤N):isZ N x:=by
 obtain⟨q,h1,h2⟩:=h
 exact⟨q,h1,by omega⟩
theorem isZ.add {M N:Nat} {x y:Rat} (h:isZ M x) (k:isZ N y):isZ (M+N) (x+y):=by
 obtain⟨q,h1,h2⟩:=h
 obtain⟨p,k1,k2⟩:=k
 exact⟨q+p,by rw [h1,k1,Rat.intCast_add],by omega⟩
theorem isZ.mul {M N:Nat} {x y:Rat} (h:isZ M x) (k:isZ N y):isZ (M*N) (x*y):=by
 obtain⟨q,h1,h2⟩:=h
 obtain⟨p,k1,k2⟩:=k
 exact⟨q*p,by rw [h1,k1,Rat.intCast_mul],by rw [Int.natAbs_mul];exact Nat.mul_le_mul h2 k2⟩
theorem isZ.zero:isZ 0 0:=⟨0,rfl,Nat.le_refl _⟩
theorem aRV (k:Nat):isZ 1 (sgn k):=by
 unfold sgn
 split
 ·exact⟨1,rfl,by decide⟩
 ·exact⟨-1,rfl,by decide⟩
theorem aRM {f:Nat→Rat} {M:Nat}:∀n,(∀i,i<n→isZ M (f i))→isZ (n*M) (sm f n)
 |0,_=>by rw [Nat.zero_mul];exact isZ.zero
 |n+1,h=>by
  have:=(aRM n fun i hi=>h i (by omega)).add (h n (by omega))
  rw [Nat.succ_mul];exact this
theorem aQG {M:Nat}:∀(n:Nat) (g:Nat→Nat→Rat),(∀i c,i<n→c<n→isZ M (g i c))→isZ (fM M n) (dt n g)
 |0,g,h=>⟨1,rfl,Nat.le_refl _⟩
 |n+1,g,h=>aRM (n+1) fun k hk=>by
  have h1:=aQG n (mnr g k) fun i c hi hc=>h (i+1) (skp k c) (by omega) (aM7 hc)
  have h2:=(aRV k).mul ((h 0 k (by omega) hk).mul h1)
  rw [Nat.one_mul] at h2
  first|exact h2|(rw [Rat.mul_assoc];exact h2)
theorem aKN {n w M k:Nat} {E Z T:Nat→Nat→Rat} {b:Nat→Nat} (hT:∀i c,i<n→c<w→T i c=yV E Z n i c) (hb:∀j,j<n→b j<w) (hu:∀i j,i<n→j<n→T i (b j)=if i=j then 1 else 0) (hZ:∀i c,i<n→c<w→isZ M (Z i c)) (hM:fM M n<2^k):Bdx n w k T:=fun i c hi hc=>by
 obtain⟨h1,h2⟩:=aQa hT hb hu hi hc
 obtain⟨p,p1,p2⟩:=aQG n (aFJ Z b i c) fun r j hr hj=>by
  unfold aFJ
  split
  ·exact hZ r c hr hc
  ·exact hZ r (b j) hr (hb j hj)
 obtain⟨q,q1,q2⟩:=aQG n (aIR Z b) fun r j hr hj=>hZ r (b j) hr (hb j hj)
 rw [h2,p1,q1]
 refine Bd.of (fun e=>h1 (by rw [q1,e];rfl)) (Nat.lt_of_le_of_lt p2 hM) (Nat.lt_of_le_of_lt q2 hM)
end Go.Proofs.YtcjdedkdoagifaaGreat
set_option linter.unusedVariables false
namespace Go.Proofs.YtcjdedkdoagifaaGreat
/-- A tableau: its rows are combinations of those of Z, and the columns of the basic variables are those of the unit matrix. -/
structure TI (n w:Nat) (Z T:Nat→Nat→Rat) (b:Nat→Nat):Prop where
 ex:∃E:Nat→Nat→Rat,∀i c,i<n→c<w→T i c=yV E Z n i c
 lt:∀j,j<n→b j<w
 un:∀i j,i<n→j<n→T i (b j)=if i=j then 1 else 0
def nL (T:Nat→Nat→Rat) (r c i k:Nat):Rat:=if i=r then T r k/T r c else T i k-T i c*(T r k/T r c)
theorem xE {E Z:Nat→Nat→Rat} {n i k:Nat}:yV E Z n i k=sm (fun j=>Z j k*E i j) n:=by
 unfold yV aHx tr
 first|rfl|(refine bJ fun j _=>?_;first|rfl|exact Rat.mul_comm _ _)
theorem TI.pivot {n w:Nat} {Z T:Nat→Nat→Rat} {b:Nat→Nat} (h:TI n w Z T b) {r c:Nat} (hr:r<n) (hc:c<w) (hp:T r c≠0):TI n w Z (nL T r c) (gI b r c):=by
 obtain⟨⟨E,hE⟩,hb,hu⟩:=h
 refine⟨⟨fun i j=>if i=r then E r j/T r c else E i j-T i c*(E r j/T r c),fun i k hi hk=>?_⟩,fun j hj=>?_,fun i j hi hj=>?_⟩
 ·rw [xE]
  have e1:T r k/T r c=sm (fun j=>Z j k*(E r j/T r c)) n:=by
   rw [hE r k hr hk,xE,Rat.div_def,Rat.mul_comm,←sF]
   refine bJ fun j _=>?_
   rw [Rat.div_def,Rat.mul_comm,Rat.mul_assoc]
  unfold nL
  by_cases e:i=r
  ·rw [if_pos e,e1]
   exact bJ fun j _=>by rw [if_pos e]
  ·rw [if_neg e,hE i k hi hk,xE,e1,←sF,Rat.sub_eq_add_neg,←aBN,←yO]
   refine bJ fun j _=>?_
   rw [if_neg e,Rat.sub_eq_add_neg,Rat.mul_add,Rat.mul_neg,←Rat.mul_assoc,←Rat.mul_assoc,Rat.mul_comm (T i c)]
 ·by_cases e:j=r
  ·rw [e,aW];exact hc
  ·rw [bY e];exact hb j hj
 ·unfold nL
  by_cases e:j=r
  ·rw [e,aW,Rat.div_def,Rat.mul_inv_cancel _ hp]
   by_cases e2:i=r
   ·rw [if_pos e2,if_pos e2]
   ·rw [if_neg e2,if_neg e2,Rat.mul_one,Rat.sub_self]
  ·have h0:T r (b j)=0:=by rw [hu r j hr hj,if_neg fun h=>e h.symm]
   rw [bY e,h0,Rat.div_def,Rat.zero_mul]
   by_cases e2:i=r
   ·rw [if_pos e2,if_neg (by omega)]
   ·rw [if_neg e2,Rat.mul_zero,Rat.sub_eq_add_neg,Rat.neg_zero,Rat.add_zero]
    exact hu i j hi hj
theorem TI.start {n w:Nat} {Z:Nat→Nat→Rat} (hw:n≤w) (hz:∀i j,i<n→j<n→Z i j=if i=j then 1 else 0):TI n w Z Z (fun j=>j):=
 ⟨⟨xH,fun i c hi hc=>by
  rw [xE]
  have:sm (fun j=>Z j c*xH i j) n=sm (fun j=>if j=i then Z i c else 0) n:=bJ fun j _=>by
   unfold xH
   by_cases e:j=i
   ·rw [if_pos e,e,if_pos rfl,Rat.mul_one]
   ·rw [if_neg e,if_neg (fun h=>e h.symm),Rat.mul_zero]
  rw [this]
  have key:∀m,m≤n→sm (fun j=>if j=i then Z i c else 0) m=if i<m then Z i c else 0:=by
   intro m
   induction m with
   |zero=>intro _;rw [if_neg (by omega)];rfl
   |succ m ih=>
    intro hm
    show sm _ m+(if m=i then Z i c else 0)=_
    rw [ih (by omega)]
    by_cases e:m=i
    ·rw [if_pos e,if_neg (by omega),if_pos (by omega),Rat.zero_add]
    ·rw [if_neg e,Rat.add_zero]
     by_cases e2:i<m
     ·rw [if_pos e2,if_pos (by omega)]
     ·rw [if_neg e2,if_neg (by omega)]
  rw [key n (Nat.le_refl n),if_pos hi]⟩,fun j hj=>by omega,fun i j hi hj=>hz i j hi hj⟩
theorem aPb {M:Nat}:∀n,n≤64→fM M n≤(64*M)^n
 |0,_=>Nat.le_refl _
 |n+1,h=>by
  show(n+1)*(M*fM M n)≤_
  rw [Nat.pow_succ,Nat.mul_comm ((64*M)^n),←Nat.mul_assoc]
  exact Nat.mul_le_mul (Nat.mul_le_mul_right M h) (aPb n (by omega))
theorem TI.scale {n w:Nat} {Z T:Nat→Nat→Rat} {b:Nat→Nat} (h:TI n w Z T b) {D:Rat} (hD:D≠0):TI n w (fun i c=>Z i c*D) T b:=by
 obtain⟨⟨E,hE⟩,hb,hu⟩:=h
 refine⟨⟨fun i j=>E i j/D,fun i c hi hc=>?_⟩,hb,hu⟩
 rw [hE i c hi hc,xE,xE]
 refine bJ fun j _=>?_
 rw [Rat.div_def,Rat.mul_comm (E i j),Rat.mul_assoc,←Rat.mul_assoc D,Rat.mul_inv_cancel _ hD,Rat.one_mul]
theorem TI.bd {n w M k:Nat} {Z T:Nat→Nat→Rat} {b:Nat→Nat} {D:Rat} (h:TI n w Z T b) (hD:D≠0) (hZ:∀i c,i<n→c<w→isZ M (Z i c*D)) (hn:n≤64) (hM:(64*M)^n<2^k):Bdx n w k T:=by
 obtain⟨⟨E,hE⟩,hb,hu⟩:=h.scale hD
 exact aKN hE hb hu hZ (Nat.lt_of_le_of_lt (aPb n hn) hM)
end Go.Proofs.YtcjdedkdoagifaaGreat
set_option linter.unusedVariables false
namespace Go.Proofs.YtcjdedkdoagifaaGreat
/-- A degree of freedom with small numbers. -/
def aPt (d:aG):Prop:=Bd 8 d.inv∧d.inv≠0∧Bd 8 d.load
def tot:Rat→List (Nat×(Nat→Rat))→Rat
 |a,[]=>a
 |a,f::r=>tot (a+sm f.2 f.1) r
def dof (d:List aG) (i:Nat):aG:=d.getD i ⟨0,0,false,0,0⟩
def aP8 (d:List aG):Prop:=∀x∈d,aPt x
end Go.Proofs.YtcjdedkdoagifaaGreat
set_option linter.unusedVariables false
namespace Go.Proofs.YtcjdedkdoagifaaGreat
/-- Terms that are few and small. -/
def TB (l:List aE):Prop:=l.length≤12∧∀t∈l,Bd 8 t.k
def RB (r:aA):Prop:=TB r.j∧TB r.t
def RsB (l:List aA):Prop:=∀r∈l,RB r
theorem TB.nil:TB []:=⟨by simp,fun t h=>absurd h List.not_mem_nil⟩
theorem RsB.nil:RsB []:=fun t h=>absurd h List.not_mem_nil
theorem RsB.snoc {l:List aA} {r:aA} (h:RsB l) (hr:RB r):RsB (l++[r]):=fun x hx=>by
 rcases List.mem_append.1 hx with h1|h1
 ·exact h x h1
 ·rw [List.mem_singleton.1 h1];exact hr
def RC (r:aA):Prop:=RB r∧Bd 8 r.mu
def RsC (l:List aA):Prop:=∀r∈l,RC r
theorem RsC.snoc {l:List aA} {r:aA} (h:RsC l) (hr:RC r):RsC (l++[r]):=fun x hx=>by
 rcases List.mem_append.1 hx with h1|h1
 ·exact h x h1
 ·rw [List.mem_singleton.1 h1];exact hr
structure aP0 (s:aK):Prop where
 n1:1≤s.dofs.length
 n4:s.dofs.length≤4
 dofs:aP8 s.dofs
 ll:s.load.length=s.dofs.length
 vl:s.v.length=s.dofs.length
 load:vQ 8 s.load
 v:vQ 8 s.v
 rows:RsB s.rows
 rl:s.rows.length≤4
 mus:RsC s.rows
theorem tab7 {m:Int} (h0:0≤m) (h1:m<7):∃x,bM [0,1,(-1),0,2,(-1),1] m=some x∧-2≤x∧x≤2:=by
 have:m=0∨m=1∨m=2∨m=3∨m=4∨m=5∨m=6:=by omega
 rcases this with rfl|rfl|rfl|rfl|rfl|rfl|rfl<;>exact⟨_,rfl,by omega,by omega⟩
end Go.Proofs.YtcjdedkdoagifaaGreat
set_option linter.unusedVariables false
namespace Go.Proofs.YtcjdedkdoagifaaGreat
/-- What a term adds to a rate. -/
def trm (a:List Rat) (t:aE):Rat:=bif decide (0≤t.dof∧t.dof<(a.length:Int)) then t.k*oA a t.dof.toNat else 0
def rtf (a:List Rat):List aE→Rat→Rat
 |[],x=>x
 |t::l,x=>rtf a l (x+trm a t)
def rt (l:List aE) (a:List Rat):Rat:=rtf a l 0
theorem aIT {a:List Rat} {B:Nat} {t:aE} (ha:vQ B a) (ht:Bd 8 t.k):Bd (8+B) (trm a t):=by
 unfold trm
 by_cases h:0≤t.dof∧t.dof<(a.length:Int)
 ·rw [decide_eq_true h]
  exact(ht.mul (ha _ (wI (by omega)))).mono (by omega)
 ·rw [decide_eq_false h]
  exact Bd.zero.mono (by omega)
theorem aMI {a:List Rat} {B:Nat} (ha:vQ B a):∀(l:List aE) (x:Rat) (n:Nat),(∀t∈l,Bd 8 t.k)→Bd n x→Bd (n+(B+9)*l.length) (rtf a l x)
 |[],x,n,_,hx=>hx.mono (by simp)
 |t::l,x,n,hl,hx=>(aMI ha l (x+trm a t) (n+(8+B)+1) (fun t h=>hl t (List.mem_cons_of_mem _ h)) (hx.add (aIT ha (hl t List.mem_cons_self)))).mono (by simp only [List.length_cons,Nat.mul_succ];omega)
theorem aAX {a:List Rat} {B:Nat} {l:List aE} (ha:vQ B a) (hl:TB l):Bd (1+(B+9)*12) (rt l a):=(aMI ha l 0 1 hl.2 Bd.zero).mono (by have:=Nat.mul_le_mul_left (B+9) hl.1;omega)
theorem aKa {a:List Rat} {l:List aE} (ha:vQ 64 a) (hl:TB l):Bd 1000 (rt l a):=(aAX ha hl).mono (by omega)
theorem aFH {l:List aE} {i:Nat} (h:i<l.length):∃x,x∈l∧l.drop i=x::l.drop (i+1)∧bM l (i:Int)=some x:=
 ⟨l[i],List.getElem_mem h,List.drop_eq_getElem_cons h,rdG (List.getElem?_eq_getElem h)⟩
theorem aDt {a:List Rat} {t:aE} (x:Rat) (h:¬(0≤t.dof∧t.dof<(a.length:Int))):x+trm a t=x:=by
 unfold trm;rw [decide_eq_false h];exact Rat.add_zero x
theorem aJd {a:List Rat} {B:Nat} {l:List aE} (ha:vQ B a) (hl:TB l) (K:Nat):∀(t i k n:Nat) (x:Rat),i+t=l.length→t<k→Bd n x→n+(B+9)*t≤1073741824→lE K l a k x (i:Int)=some (rtf a (l.drop i) x)
 |0,i,k,n,x,hi,hk,hx,hn=>by
  obtain⟨k',rfl,_⟩:=a8 hk
  rw [List.drop_eq_nil_of_le (by omega)]
  simp only [lE,dF (show¬(i:Int)<(l.length:Int) by omega),bO];rfl
 |t+1,i,k,n,x,hi,hk,hx,hn=>by
  have h12:=hl.1
  obtain⟨k',rfl,_⟩:=a8 hk
  obtain⟨y,h1,h2,h3⟩:=aFH (l:=l) (i:=i) (by omega)
  have hB:(B+9)*(t+1)=(B+9)*t+(B+9):=Nat.mul_succ _ _
  have ih:=aJd ha hl K t (i+1) k' (n+(8+B)+1) (x+trm a y) (by omega) (by omega) (hx.add (aIT ha (hl.2 y h1))) (by omega)
  rw [h2]
  show _=some (rtf a (l.drop (i+1)) (x+trm a y))
  simp only [lE,dT (show(i:Int)<(l.length:Int) by omega),bT,h3,oB]
  by_cases h0:0≤y.dof
  ·simp only [dT h0,bT]
   by_cases h4:y.dof<(a.length:Int)
   ·have e:y.dof=((y.dof.toNat:Nat):Int):=by omega
    have hr:bM a y.dof=some (oA a y.dof.toNat):=by
     have:=aHy (l:=a) (i:=y.dof.toNat) (by omega)
     rwa [←e] at this
    have hv:=ha _ (wI (l:=a) (i:=y.dof.toNat) (by omega))
    have ht:trm a y=y.k*oA a y.dof.toNat:=by unfold trm;rw [decide_eq_true ⟨h0,h4⟩];rfl
    rw [ht] at ih ⊢
    simp only [dT h4,bT,hr,oB,sD (hl.2 y h1) hv (by omega) (by omega),wK hx ((hl.2 y h1).mul hv) (by omega) (by omega),mS (i:=i) (by omega)]
    exact ih
   ·rw [aDt x (fun h=>h4 h.2)] at ih ⊢
    simp only [dF h4,bO,mS (i:=i) (by omega),oB]
    exact ih
  ·rw [aDt x (fun h=>h0 h.1)] at ih ⊢
   simp only [dF h0,bO,mS (i:=i) (by omega),oB]
   exact ih
theorem xI {a:List Rat} {B:Nat} {l:List aE} (ha:vQ B a) (hB:B≤80000000) (hl:TB l) {K:Nat} (hK:13≤K):gK K l a=some (rt l a):=by
 have h:=hl.1
 have h2:=Nat.mul_le_mul_left (B+9) h
 have:=aJd ha hl K l.length 0 K 1 0 (by omega) (by omega) Bd.zero (by omega)
 simp only [Int.natCast_zero,List.drop_zero] at this
 simp only [gK,this,oB,uZ];rfl
theorem aJk {a:List Rat} {l:List aE} (ha:vQ 64 a) (hl:TB l) {K:Nat} (hK:13≤K):gK K l a=some (rt l a):=xI ha (by omega) hl hK
theorem aGT {a:List Rat} {B:Nat} {l:List aE} (ha:vQ B a) (hl:TB l) (K:Nat):∀(t i k n:Nat) (x:Rat),i+t=l.length→t<k→Bd n x→n+(B+9)*t≤1073741824→gZ K l a k x (i:Int)=some (rtf a (l.drop i) x)
 |0,i,k,n,x,hi,hk,hx,hn=>by
  obtain⟨k',rfl,_⟩:=a8 hk
  rw [List.drop_eq_nil_of_le (by omega)]
  simp only [gZ,dF (show¬(i:Int)<(l.length:Int) by omega),bO];rfl
 |t+1,i,k,n,x,hi,hk,hx,hn=>by
  have h12:=hl.1
  obtain⟨k',rfl,_⟩:=a8 hk
  obtain⟨y,h1,h2,h3⟩:=aFH (l:=l) (i:=i) (by omega)
  have hB:(B+9)*(t+1)=(B+9)*t+(B+9):=Nat.mul_succ _ _
  have ih:=aGT ha hl K t (i+1) k' (n+(8+B)+1) (x+trm a y) (by omega) (by omega) (hx.add (aIT ha (hl.2 y h1))) (by omega)
  rw [h2]
  show _=some (rtf a (l.drop (i+1)) (x+trm a y))
  simp only [gZ,dT (show(i:Int)<(l.length:Int) by omega),bT,h3,oB]
  by_cases h0:0≤y.dof
  ·simp only [dT h0,bT]
   by_cases h4:y.dof<(a.length:Int)
   ·have e:max y.dof 0=((y.dof.toNat:Nat):Int):=by omega
    have hr:bM a (max y.dof 0)=some (oA a y.dof.toNat):=by
     rw [e];exact aHy (l:=a) (i:=y.dof.toNat) (by omega)
    have hv:=ha _ (wI (l:=a) (i:=y.dof.toNat) (by omega))
    have ht:trm a y=y.k*oA a y.dof.toNat:=by unfold trm;rw [decide_eq_true ⟨h0,h4⟩];rfl
    rw [ht] at ih ⊢
    simp only [dT h4,bT,hr,oB,sD (hl.2 y h1) hv (by omega) (by omega),wK hx ((hl.2 y h1).mul hv) (by omega) (by omega),mS (i:=i) (by omega)]
    exact ih
   ·rw [aDt x (fun h=>h4 h.2)] at ih ⊢
    simp only [dF h4,bO,mS (i:=i) (by omega),oB]
    exact ih
  ·rw [aDt x (fun h=>h0 h.1)] at ih ⊢
   simp only [dF h0,bO,mS (i:=i) (by omega),oB]
   exact ih
theorem aA5 {a:List Rat} {B:Nat} {l:List aE} (ha:vQ B a) (hB:B≤80000000) (hl:TB l) {K:Nat} (hK:13≤K):iQ K l a=some (rt l a):=by
 have h:=hl.1
 have h2:=Nat.mul_le_mul_left (B+9) h
 have:=aGT ha hl K l.length 0 K 1 0 (by omega) (by omega) Bd.zero (by omega)
 simp only [Int.natCast_zero,List.drop_zero] at this
 simp only [iQ,this,oB,vR];rfl
theorem aGV {a:List Rat} {l:List aE} (ha:vQ 64 a) (hl:TB l) {K:Nat} (hK:13≤K):iQ K l a=some (rt l a):=aA5 ha (by omega) hl hK
theorem aCG {l:List aA} {i:Nat} (h:i<l.length):∃x,x∈l∧l.drop i=x::l.drop (i+1)∧bM l (i:Int)=some x:=
 ⟨l[i],List.getElem_mem h,List.drop_eq_getElem_cons h,rdG (List.getElem?_eq_getElem h)⟩
theorem aSH {l:List aA} {f:aA→Option Bool} {b:aA→Bool} (hf:∀r∈l,f r=some (b r)) (hl:l.length≤1000) (K:Nat):∀(t i k:Nat),i+t=l.length→t<k→
  (l.drop i).any b=false∧d9 K l f k (i:Int)=some (.go ())∨(l.drop i).any b=true∧∃j:Nat,d9 K l f k (i:Int)=some (.ret (j:Int))
 |0,i,k,hi,hk=>by
  obtain⟨k',rfl,_⟩:=a8 hk
  refine .inl ⟨by rw [List.drop_eq_nil_of_le (by omega)];rfl,?_⟩
  simp only [d9,dF (show¬(i:Int)<(l.length:Int) by omega),bO]
 |t+1,i,k,hi,hk=>by
  obtain⟨k',rfl,_⟩:=a8 hk
  obtain⟨x,h1,h2,h3⟩:=aCG (l:=l) (i:=i) (by omega)
  rw [h2]
  simp only [d9,dT (show(i:Int)<(l.length:Int) by omega),bT,h3,oB,hf x h1,List.any_cons]
  cases b x
  ·simp only [bO,Bool.false_or,mS (i:=i) (by omega),oB]
   exact aSH hf hl K t (i+1) k' (by omega) (by omega)
  ·exact .inr ⟨rfl,i,by simp only [bT]⟩
theorem aKS {l:List aA} {f:aA→Option Bool} {b:aA→Bool} (hf:∀r∈l,f r=some (b r)) (hl:l.length≤1000) {K:Nat} (hK:l.length<K):fG K l f=some (l.any b):=by
 have:=aSH hf hl K l.length 0 K (by omega) hK
 simp only [Int.natCast_zero,List.drop_zero] at this
 rcases this with⟨h1,h2⟩|⟨h1,y,h2⟩
 ·simp only [fG,k6,h2,oB,lV,h1];rfl
 ·simp only [fG,k6,h2,oB,h1,dT (show(0:Int)≤(y:Int) by omega)]
theorem aOe (K:Nat):qA (K+40)=some true:=by kernel_rfl
end Go.Proofs.YtcjdedkdoagifaaGreat
set_option linter.unusedVariables false
namespace Go.Proofs.YtcjdedkdoagifaaGreat
def u6 (l:List aE) (i:Nat):aE:=l.getD i ⟨0,0⟩
theorem aEz {l:List aE} {i:Nat} (h:i<l.length):bM l (i:Int)=some (u6 l i):=rdD _ h
theorem x0 {l:List aE} {i:Nat} (h:i<l.length):u6 l i∈l:=by
 unfold u6
 simp only [List.getD_eq_getElem?_getD,List.getElem?_eq_getElem h,Option.getD_some]
 exact List.getElem_mem h
def tk (n:Nat) (l:List aE) (i:Nat):Bool:=decide (0≤(u6 l i).dof∧(u6 l i).dof<(n:Int)∧(0<i→(u6 l (i-1)).dof<(u6 l i).dof))
def tks (n:Nat) (l:List aE):Nat→Nat→Bool
 |0,_=>true
 |t+1,i=>tk n l i&&tks n l t (i+1)
def tOk (n:Nat) (l:List aE):Bool:=tks n l l.length 0
theorem wL {m:Nat} {a:Rat} (ha:Bd m a) (hm:m≤1073741824):aBw a=some true:=by unfold aBw;rw [ha.qs hm];rfl
theorem aHm {n:Nat} {l:List aE} (hl:TB l) (K:Nat):∀(t i k:Nat),i+t=l.length→t<k→kS K l (n:Int) k (i:Int)=some (bif tks n l t i then .go () else .ret false)
 |0,i,k,hi,hk=>by
  obtain⟨k',rfl,_⟩:=a8 hk
  simp only [kS,dF (show¬(i:Int)<(l.length:Int) by omega),bO,tks,bT]
 |t+1,i,k,hi,hk=>by
  have h12:=hl.1
  obtain⟨k',rfl,_⟩:=a8 hk
  have hb:=wL (hl.2 _ (x0 (l:=l) (i:=i) (by omega))) (by omega)
  have ih:=aHm (n:=n) hl K t (i+1) k' (by omega) (by omega)
  simp only [kS,dT (show(i:Int)<(l.length:Int) by omega),bT,aEz (l:=l) (i:=i) (by omega),oB,hb,Bool.not_true,bO,tks,mS (i:=i) (by omega)]
  by_cases h0:(u6 l i).dof<0
  ·have e:tk n l i=false:=decide_eq_false (by omega)
   simp only [dT h0,bT,e,Bool.false_and,bO]
  ·simp only [dF h0,bO]
   by_cases h1:(n:Int)≤(u6 l i).dof
   ·have e:tk n l i=false:=decide_eq_false (by omega)
    simp only [dT h1,bT,e,Bool.false_and,bO]
   ·simp only [dF h1,bO]
    by_cases h2:0<i
    ·have e1:aP ((i:Int)-1)=some ((i-1:Nat):Int):=by rw [kM (by omega)];congr 1;omega
     simp only [dT (show(0:Int)<(i:Int) by omega),bT,e1,oB,aEz (l:=l) (i:=i-1) (by omega)]
     by_cases h3:(u6 l i).dof≤(u6 l (i-1)).dof
     ·have e:tk n l i=false:=decide_eq_false (by omega)
      simp only [dT h3,bT,e,Bool.false_and,bO]
     ·have e:tk n l i=true:=decide_eq_true (by omega)
      simp only [dF h3,bO,e,Bool.true_and]
      exact ih
    ·have e:tk n l i=true:=decide_eq_true (by omega)
     simp only [dF (show¬(0:Int)<(i:Int) by omega),bO,e,Bool.true_and]
     exact ih
theorem aHr {n:Nat} {l:List aE} (hl:TB l) {K:Nat} (hK:13≤K):rN K l (n:Int)=some (tOk n l):=by
 have h:=hl.1
 have:=aHm (n:=n) hl K l.length 0 K (by omega) (by omega)
 simp only [Int.natCast_zero] at this
 simp only [rN,this,oB,tA,tOk]
 cases tks n l l.length 0<;>rfl
theorem aFn {n:Nat} {l:List aE} (hl:TB l) (K:Nat):∀(t i k:Nat),i+t=l.length→t<k→jC K l (n:Int) k (i:Int)=some (bif tks n l t i then .go () else .ret false)
 |0,i,k,hi,hk=>by
  obtain⟨k',rfl,_⟩:=a8 hk
  simp only [jC,dF (show¬(i:Int)<(l.length:Int) by omega),bO,tks,bT]
 |t+1,i,k,hi,hk=>by
  have h12:=hl.1
  obtain⟨k',rfl,_⟩:=a8 hk
  have hb:=wL (hl.2 _ (x0 (l:=l) (i:=i) (by omega))) (by omega)
  have ih:=aFn (n:=n) hl K t (i+1) k' (by omega) (by omega)
  simp only [jC,dT (show(i:Int)<(l.length:Int) by omega),bT,aEz (l:=l) (i:=i) (by omega),oB,hb,Bool.not_true,bO,tks,mS (i:=i) (by omega)]
  by_cases h0:(u6 l i).dof<0
  ·have e:tk n l i=false:=decide_eq_false (by omega)
   simp only [dT h0,bT,e,Bool.false_and,bO]
  ·simp only [dF h0,bO]
   by_cases h1:(n:Int)≤(u6 l i).dof
   ·have e:tk n l i=false:=decide_eq_false (by omega)
    simp only [dT h1,bT,e,Bool.false_and,bO]
   ·simp only [dF h1,bO]
    by_cases h2:0<i
    ·have e1:aP ((i:Int)-1)=some ((i-1:Nat):Int):=by rw [kM (by omega)];congr 1;omega
     have e2:max (((i-1:Nat):Int)) 0=((i-1:Nat):Int):=by omega
     simp only [dT (show(0:Int)<(i:Int) by omega),bT,e1,oB,e2,aEz (l:=l) (i:=i-1) (by omega)]
     by_cases h3:(u6 l i).dof≤(u6 l (i-1)).dof
     ·have e:tk n l i=false:=decide_eq_false (by omega)
      simp only [dT h3,bT,e,Bool.false_and,bO]
     ·have e:tk n l i=true:=decide_eq_true (by omega)
      simp only [dF h3,bO,e,Bool.true_and]
      exact ih
    ·have e:tk n l i=true:=decide_eq_true (by omega)
     simp only [dF (show¬(0:Int)<(i:Int) by omega),bO,e,Bool.true_and]
     exact ih
theorem aFa {n:Nat} {l:List aE} (hl:TB l) {K:Nat} (hK:13≤K):qC K l (n:Int)=some (tOk n l):=by
 have h:=hl.1
 have:=aFn (n:=n) hl K l.length 0 K (by omega) (by omega)
 simp only [Int.natCast_zero] at this
 simp only [qC,this,oB,vF,tOk]
 cases tks n l l.length 0<;>rfl
theorem aJJ {l:List Rat} (hl:vQ 64 l) (hn:l.length≤1000) (K:Nat):∀(t i k:Nat),i+t=l.length→t<k→fH K l qL k (i:Int)=some (.go ())
 |0,i,k,hi,hk=>by
  obtain⟨k',rfl,_⟩:=a8 hk
  simp only [fH,dF (show¬(i:Int)<(l.length:Int) by omega),bO]
 |t+1,i,k,hi,hk=>by
  obtain⟨k',rfl,_⟩:=a8 hk
  simp only [fH,dT (show(i:Int)<(l.length:Int) by omega),bT,aHy (l:=l) (i:=i) (by omega),oB,qL,wL (hl _ (wI (l:=l) (i:=i) (by omega))) (by omega),Bool.not_true,bO,mS (i:=i) (by omega)]
  exact aJJ hl hn K t (i+1) k' (by omega) (by omega)
theorem aJj {l:List Rat} (hl:vQ 64 l) (hn:l.length≤1000) {K:Nat} (hK:l.length<K):rH K l=some true:=by
 have:=aJJ hl hn K l.length 0 K (by omega) (by omega)
 simp only [Int.natCast_zero] at this
 simp only [rH,lX,nY,this,oB,lU];rfl
theorem aG5 {l:List Rat} (hl:vQ 64 l) (hn:l.length≤1000) (K:Nat):∀(t i k:Nat),i+t=l.length→t<k→l6 K l k (i:Int)=some (.go ())
 |0,i,k,hi,hk=>by
  obtain⟨k',rfl,_⟩:=a8 hk
  simp only [l6,dF (show¬(i:Int)<(l.length:Int) by omega),bO]
 |t+1,i,k,hi,hk=>by
  obtain⟨k',rfl,_⟩:=a8 hk
  simp only [l6,dT (show(i:Int)<(l.length:Int) by omega),bT,aHy (l:=l) (i:=i) (by omega),oB,wL (hl _ (wI (l:=l) (i:=i) (by omega))) (by omega),Bool.not_true,bO,mS (i:=i) (by omega)]
  exact aG5 hl hn K t (i+1) k' (by omega) (by omega)
theorem aHj {l:List Rat} (hl:vQ 64 l) (hn:l.length≤1000) {K:Nat} (hK:l.length<K):qZ K l=some true:=by
 have:=aG5 hl hn K l.length 0 K (by omega) (by omega)
 simp only [Int.natCast_zero] at this
 simp only [qZ,this,oB,vP]
structure SB (d:List aG) (f v:List Rat) (l:List aA):Prop where
 sd:∀x∈d,Bd 8 x.inv
 dl:d.length≤100
 sf:vQ 64 f
 fl:f.length≤100
 sv:vQ 64 v
 vl:v.length≤100
 sl:RsC l
 ll:l.length≤100
def aCH (x:aG):Bool:=decide (0<x.inv.num.sign)
def zN (n:Nat) (v:List Rat) (r:aA):Bool:=tOk n r.j&&tOk n r.t&&decide (0≤r.mu.num.sign)
def qJ (v:List Rat) (r:aA):Bool:=decide ((rt r.j v).num.sign=0)
def aAV (d:List aG) (f v:List Rat) (l:List aA):Bool:=decide (d.length≤12∧f.length=d.length∧v.length=d.length)&&d.all aCH&&l.all fun r=>zN d.length v r&&qJ v r
theorem aFe {l:List aG} {i:Nat} (h:i<l.length):∃x,x∈l∧l.drop i=x::l.drop (i+1)∧bM l (i:Int)=some x:=
 ⟨l[i],List.getElem_mem h,List.drop_eq_getElem_cons h,rdG (List.getElem?_eq_getElem h)⟩
theorem aG9 {a0:aD} (hd:∀x∈a0.dofs,Bd 8 x.inv) (hl:a0.dofs.length≤100) (K:Nat):∀(t i k:Nat),i+t=a0.dofs.length→t<k→gQ K a0 k (i:Int)=some (bif(a0.dofs.drop i).all aCH then .go () else .ret false)
 |0,i,k,hi,hk=>by
  obtain⟨k',rfl,_⟩:=a8 hk
  rw [List.drop_eq_nil_of_le (by omega)]
  simp only [gQ,dF (show¬(i:Int)<(a0.dofs.length:Int) by omega),bO];rfl
 |t+1,i,k,hi,hk=>by
  obtain⟨k',rfl,_⟩:=a8 hk
  obtain⟨x,h1,h2,h3⟩:=aFe (l:=a0.dofs) (i:=i) (by omega)
  have hb:=hd x h1
  rw [h2,List.all_cons]
  simp only [gQ,dT (show(i:Int)<(a0.dofs.length:Int) by omega),bT,h3,oB,wL hb (by omega),Bool.not_true,bO,mZ hb (by omega)]
  by_cases h:x.inv.num.sign≤0
  ·have e:aCH x=false:=decide_eq_false (by omega)
   simp only [dT h,bT,e,Bool.false_and,bO]
  ·have e:aCH x=true:=decide_eq_true (by omega)
   simp only [dF h,bO,e,Bool.true_and,mS (i:=i) (by omega),oB]
   exact aG9 hd hl K t (i+1) k' (by omega) (by omega)
theorem aFq {d:List aG} (hd:∀x∈d,Bd 8 x.inv) (hl:d.length≤100) (K:Nat):∀(t i k:Nat),i+t=d.length→t<k→kB K d k (i:Int)=some (bif(d.drop i).all aCH then .go () else .ret false)
 |0,i,k,hi,hk=>by
  obtain⟨k',rfl,_⟩:=a8 hk
  rw [List.drop_eq_nil_of_le (by omega)]
  simp only [kB,dF (show¬(i:Int)<(d.length:Int) by omega),bO];rfl
 |t+1,i,k,hi,hk=>by
  obtain⟨k',rfl,_⟩:=a8 hk
  obtain⟨x,h1,h2,h3⟩:=aFe (l:=d) (i:=i) (by omega)
  have hb:=hd x h1
  rw [h2,List.all_cons]
  simp only [kB,dT (show(i:Int)<(d.length:Int) by omega),bT,h3,oB,wL hb (by omega),Bool.not_true,bO,mZ hb (by omega)]
  by_cases h:x.inv.num.sign≤0
  ·have e:aCH x=false:=decide_eq_false (by omega)
   simp only [dT h,bT,e,Bool.false_and,bO]
  ·have e:aCH x=true:=decide_eq_true (by omega)
   simp only [dF h,bO,e,Bool.true_and,mS (i:=i) (by omega),oB]
   exact aFq hd hl K t (i+1) k' (by omega) (by omega)
theorem aMJ {a0:aD} {n:Nat} {r:aA} (hv:vQ 64 a0.v) (hr:RC r) {K:Nat} (hK:13≤K):kR K (n:Int) a0 r=some (!(zN n a0.v r&&qJ a0.v r)):=by
 simp only [kR,aHr hr.1.1 hK,aHr hr.1.2 hK,oB,wL hr.2 (by omega),Bool.not_true,bO,mZ hr.2 (by omega),aJk hv hr.1.1 hK,mZ (aKa hv hr.1.1) (by omega),zN,qJ]
 cases tOk n r.j
 ·rfl
 ·cases tOk n r.t
  ·rfl
  ·by_cases h:r.mu.num.sign<0
   ·simp only [Bool.not_true,bO,dT h,bT,dF (show¬0≤r.mu.num.sign by omega)];rfl
   ·simp only [Bool.not_true,bO,dF h,dT (show 0≤r.mu.num.sign by omega),Bool.true_and]
    by_cases h2:(rt r.j a0.v).num.sign=0
    ·rw [dT h2,nF h2];rfl
    ·rw [dF h2,nT h2];rfl
theorem aJG {d:List aG} {f v:List Rat} {l:List aA} (h:SB d f v l) {K:Nat} (hK:200≤K):mM K ⟨d,f,v,l⟩=some (aAV d f v l):=by
 have hdl:=h.dl
 have hfl:=h.fl
 have hvl:=h.vl
 have hll:=h.ll
 have e1:=aG9 (a0:=⟨d,f,v,l⟩) h.sd h.dl K d.length 0 K (by simp) (by omega)
 have e2:=aKS (l:=l) (b:=fun r=>!(zN d.length v r&&qJ v r)) (fun r hr=>aMJ (a0:=⟨d,f,v,l⟩) (n:=d.length) h.sv (h.sl r hr) (K:=K) (by omega)) (by omega) (show l.length<K by omega)
 simp only [Int.natCast_zero,List.drop_zero] at e1
 have e3:(!l.any fun r=>!(zN d.length v r&&qJ v r))=l.all fun r=>zN d.length v r&&qJ v r:=by
  rw [List.not_any_eq_all_not];congr;funext r;rw [Bool.not_not]
 simp only [mM,aJj h.sf (by omega) (show f.length<K by omega),aJj h.sv (by omega) (show v.length<K by omega),e1,nW,e2,oB,Bool.not_true,bO,e3,aAV]
 by_cases h1:d.length≤12
 ·by_cases h2:f.length=d.length
  ·by_cases h3:v.length=d.length
   ·simp only [dF (show¬(12:Int)<(d.length:Int) by omega),nF (show(f.length:Int)=(d.length:Int) by omega),nF (show(v.length:Int)=(d.length:Int) by omega),bO,decide_eq_true (show d.length≤12∧f.length=d.length∧v.length=d.length from⟨h1,h2,h3⟩),Bool.true_and]
    cases d.all aCH<;>rfl
   ·simp only [dF (show¬(12:Int)<(d.length:Int) by omega),nF (show(f.length:Int)=(d.length:Int) by omega),nT (show(v.length:Int)≠(d.length:Int) by omega),bO,bT,decide_eq_false (show¬(d.length≤12∧f.length=d.length∧v.length=d.length) from fun h=>h3 h.2.2),Bool.false_and]
  ·simp only [dF (show¬(12:Int)<(d.length:Int) by omega),nT (show(f.length:Int)≠(d.length:Int) by omega),bO,bT,decide_eq_false (show¬(d.length≤12∧f.length=d.length∧v.length=d.length) from fun h=>h2 h.2.1),Bool.false_and]
 ·simp only [dT (show(12:Int)<(d.length:Int) by omega),bT,decide_eq_false (show¬(d.length≤12∧f.length=d.length∧v.length=d.length) from fun h=>h1 h.1),Bool.false_and]
theorem aE7 {d:List aG} {v:List Rat} {l:List aA} (hl:RsC l) (hn:l.length≤100) {K:Nat} (hK:13≤K):∀(t i k:Nat),i+t=l.length→t<k→kA K d l k (i:Int)=some (bif(l.drop i).all (zN d.length v) then .go () else .ret false)
 |0,i,k,hi,hk=>by
  obtain⟨k',rfl,_⟩:=a8 hk
  rw [List.drop_eq_nil_of_le (by omega)]
  simp only [kA,dF (show¬(i:Int)<(l.length:Int) by omega),bO];rfl
 |t+1,i,k,hi,hk=>by
  obtain⟨k',rfl,_⟩:=a8 hk
  obtain⟨r,h1,h2,h3⟩:=aCG (l:=l) (i:=i) (by omega)
  have hr:=hl r h1
  have ih:=aE7 (d:=d) (v:=v) hl hn hK t (i+1) k' (by omega) (by omega)
  rw [h2,List.all_cons]
  simp only [kA,dT (show(i:Int)<(l.length:Int) by omega),bT,h3,oB,aFa hr.1.1 hK,aFa hr.1.2 hK,wL hr.2 (by omega),Bool.not_true,bO,mZ hr.2 (by omega)]
  unfold zN at ih ⊢
  cases tOk d.length r.j
  ·rfl
  ·cases tOk d.length r.t
   ·rfl
   ·by_cases h:r.mu.num.sign<0
    ·simp only [Bool.not_true,bO,dT h,bT,dF (show¬0≤r.mu.num.sign by omega)];rfl
    ·simp only [Bool.not_true,bO,dF h,dT (show 0≤r.mu.num.sign by omega),Bool.true_and,mS (i:=i) (by omega),oB]
     exact ih
theorem aER {v:List Rat} {l:List aA} (hv:vQ 64 v) (hl:RsC l) (hn:l.length≤100) {K:Nat} (hK:13≤K):∀(t i k:Nat),i+t=l.length→t<k→mX K v l k (i:Int)=some (bif(l.drop i).all (qJ v) then .go () else .ret false)
 |0,i,k,hi,hk=>by
  obtain⟨k',rfl,_⟩:=a8 hk
  rw [List.drop_eq_nil_of_le (by omega)]
  simp only [mX,dF (show¬(i:Int)<(l.length:Int) by omega),bO];rfl
 |t+1,i,k,hi,hk=>by
  obtain⟨k',rfl,_⟩:=a8 hk
  obtain⟨r,h1,h2,h3⟩:=aCG (l:=l) (i:=i) (by omega)
  have hr:=hl r h1
  rw [h2,List.all_cons]
  simp only [mX,dT (show(i:Int)<(l.length:Int) by omega),bT,h3,oB,aGV hv hr.1.1 hK,mZ (aKa hv hr.1.1) (by omega)]
  by_cases h:(rt r.j v).num.sign=0
  ·have e:qJ v r=true:=decide_eq_true h
   simp only [nF h,bO,e,Bool.true_and,mS (i:=i) (by omega),oB]
   exact aER hv hl hn hK t (i+1) k' (by omega) (by omega)
  ·have e:qJ v r=false:=decide_eq_false h
   simp only [nT h,bT,e,Bool.false_and,bO]
theorem aHi {α:Type} {p q:α→Bool}:∀l:List α,(l.all fun x=>p x&&q x)=(l.all p&&l.all q)
 |[]=>rfl
 |x::l=>by
  rw [List.all_cons,List.all_cons,List.all_cons,aHi l]
  cases p x<;>cases q x<;>cases l.all p<;>rfl
theorem aIk {d:List aG} {f v:List Rat} {l:List aA} (h:SB d f v l) {K:Nat} (hK:200≤K):sH K d f v l=some (aAV d f v l):=by
 have hdl:=h.dl
 have hfl:=h.fl
 have hvl:=h.vl
 have hll:=h.ll
 have e1:=aFq (d:=d) h.sd h.dl K d.length 0 K (by simp) (by omega)
 have e2:=aE7 (d:=d) (v:=v) h.sl h.ll (K:=K) (by omega) l.length 0 K (by omega) (by omega)
 have e3:=aER h.sv h.sl h.ll (K:=K) (by omega) l.length 0 K (by omega) (by omega)
 simp only [Int.natCast_zero,List.drop_zero] at e1 e2 e3
 simp only [sH,wQ,aHj h.sf (by omega) (show f.length<K by omega),aHj h.sv (by omega) (show v.length<K by omega),e1,tR,e2,tP,e3,wR,oB,Bool.not_true,bO,aAV,aHi (p:=zN d.length v) (q:=qJ v)]
 by_cases h1:d.length≤12
 ·by_cases h2:f.length=d.length
  ·by_cases h3:v.length=d.length
   ·simp only [dF (show¬(12:Int)<(d.length:Int) by omega),nF (show(f.length:Int)=(d.length:Int) by omega),nF (show(v.length:Int)=(d.length:Int) by omega),bO,decide_eq_true (show d.length≤12∧f.length=d.length∧v.length=d.length from⟨h1,h2,h3⟩),Bool.true_and]
    cases d.all aCH
    ·rfl
    ·cases l.all (zN d.length v)
     ·rfl
     ·cases l.all (qJ v)<;>rfl
   ·simp only [dF (show¬(12:Int)<(d.length:Int) by omega),nF (show(f.length:Int)=(d.length:Int) by omega),nT (show(v.length:Int)≠(d.length:Int) by omega),bO,bT,decide_eq_false (show¬(d.length≤12∧f.length=d.length∧v.length=d.length) from fun h=>h3 h.2.2),Bool.false_and,oB,Bool.not_false]
  ·simp only [dF (show¬(12:Int)<(d.length:Int) by omega),nT (show(f.length:Int)≠(d.length:Int) by omega),bO,bT,decide_eq_false (show¬(d.length≤12∧f.length=d.length∧v.length=d.length) from fun h=>h2 h.2.1),Bool.false_and,oB,Bool.not_false]
 ·simp only [dT (show(12:Int)<(d.length:Int) by omega),bT,decide_eq_false (show¬(d.length≤12∧f.length=d.length∧v.length=d.length) from fun h=>h1 h.1),Bool.false_and,oB,Bool.not_false]
end Go.Proofs.YtcjdedkdoagifaaGreat
set_option linter.unusedVariables false
namespace Go.Proofs.YtcjdedkdoagifaaGreat
/-- What the terms say of a degree of freedom. -/
def cf:List aE→Nat→Rat
 |[],_=>0
 |t::l,i=>(if t.dof=(i:Int) then t.k else 0)+cf l i
def InT (n:Nat) (l:List aE):Prop:=∀t∈l,0≤t.dof∧t.dof<(n:Int)
theorem aL5 {n:Nat} {l:List aE}:∀(t i:Nat),tks n l t i=true→∀j,i≤j→j<i+t→tk n l j=true
 |0,i,h,j,h1,h2=>by omega
 |t+1,i,h,j,h1,h2=>by
  have h3:(tk n l i&&tks n l t (i+1))=true:=h
  rw [Bool.and_eq_true] at h3
  by_cases e:j=i
  ·rw [e];exact h3.1
  ·exact aL5 t (i+1) h3.2 j (by omega) (by omega)
theorem aLi {n:Nat} {l:List aE} (h:tOk n l=true):InT n l:=fun t ht=>by
 obtain⟨i,hi,rfl⟩:=List.getElem_of_mem ht
 have:=of_decide_eq_true (aL5 l.length 0 h i (by omega) (by omega))
 have e:u6 l i=l[i]:=by unfold u6;simp [List.getD_eq_getElem?_getD,hi]
 rw [e] at this
 exact⟨this.1,this.2.1⟩
theorem aRK {A B t:Nat} (h:A+(B+9)*(t+1)≤1073741824):A+(8+B)+1+(B+9)*t≤1073741824∧A≤1073741824∧B≤1073741824:=by
 rw [Nat.mul_succ] at h;omega
theorem aQj {g:Nat→Rat} {n A B e:Nat} {v:Rat} (hg:∀j,j<n→Bd A (g j)) (hAB:A≤B) (hv:Bd B v):∀j,j<n→Bd B (gI g e v j):=fun j hj=>by
 by_cases h:j=e
 ·rw [h,aW];exact hv
 ·rw [bY h];exact(hg j hj).mono hAB
theorem aOd {g:Nat→Rat} {n e:Nat} {y:aE} {l:List aE} {c:Rat} (he:y.dof=(e:Int)):mp (fun j=>gI g e (g e+y.k*c) j+cf l j*c) n=mp (fun j=>g j+cf (y::l) j*c) n:=bZ fun j _=>by
 show _=g j+((if y.dof=(j:Int) then y.k else 0)+cf l j)*c
 by_cases h:j=e
 ·subst h;rw [aW,if_pos he,Rat.add_mul,Rat.add_assoc]
 ·rw [bY h,if_neg (by omega),Rat.zero_add]
theorem aNT {n C:Nat} {l:List aE} {c:Rat} (hl:∀t∈l,Bd 8 t.k) (hi:InT n l) (hc:Bd C c) (Fl:Nat→List Rat→Int→Option (List Rat)) (h0:∀k x,Fl (k+1) x (l.length:Int)=some x)
  (h1:∀k (g:Nat→Rat) (i A:Nat),i<l.length→(∀j,j<n→Bd A (g j))→A≤1073741824→C≤1073741824→∀(e:Nat),(u6 l i).dof=(e:Int)→e<n→Fl (k+1) (mp g n) (i:Int)=Fl k (mp (gI g e (g e+(u6 l i).k*c)) n) ((i+1:Nat):Int)):
  ∀(t i k A:Nat) (g:Nat→Rat),i+t=l.length→t<k→(∀j,j<n→Bd A (g j))→A+(C+9)*t≤1073741824→Fl k (mp g n) (i:Int)=some (mp (fun j=>g j+cf (l.drop i) j*c) n)∧∀j,j<n→Bd (A+(C+9)*t) (g j+cf (l.drop i) j*c)
 |0,i,k,A,g,hi',hk,hg,hA=>by
  obtain⟨k',rfl,_⟩:=a8 hk
  have e:i=l.length:=by omega
  subst e
  have e2:∀j,g j+cf (l.drop l.length) j*c=g j:=fun j=>by rw [List.drop_eq_nil_of_le (Nat.le_refl _)];show g j+0*c=g j;rw [Rat.zero_mul,Rat.add_zero]
  refine⟨?_,fun j hj=>by rw [e2];exact(hg j hj).mono (by omega)⟩
  rw [h0,bZ (g:=g) fun j _=>e2 j]
 |t+1,i,k,A,g,hi',hk,hg,hA=>by
  obtain⟨k',rfl,_⟩:=a8 hk
  have hil:i<l.length:=by omega
  obtain⟨b1,b2,b3⟩:=aRK hA
  obtain⟨m1,m2⟩:=hi _ (x0 hil)
  have he:(u6 l i).dof=(((u6 l i).dof.toNat:Nat):Int):=by omega
  have hv:=(hg _ (show(u6 l i).dof.toNat<n by omega)).add ((hl _ (x0 hil)).mul hc)
  have ih:=aNT hl hi hc Fl h0 h1 t (i+1) k' (A+(8+C)+1) (gI g (u6 l i).dof.toNat (g (u6 l i).dof.toNat+(u6 l i).k*c)) (by omega) (by omega) (aQj hg (by omega) hv) b1
  have ed:l.drop i=u6 l i::l.drop (i+1):=by
   rw [List.drop_eq_getElem_cons hil];unfold u6;simp [List.getD_eq_getElem?_getD,hil]
  have e3:=aOd (n:=n) (g:=g) (l:=l.drop (i+1)) (c:=c) he
  rw [h1 k' g i A hil hg b2 b3 _ he (by omega),ih.1,ed,e3]
  refine⟨rfl,fun j hj=>?_⟩
  have e4:=congrArg (fun x=>oA x j) e3
  simp only [aAp hj] at e4
  rw [←e4]
  exact(ih.2 j hj).mono (by rw [Nat.mul_succ];omega)
theorem aL2 {n C:Nat} {l:List aE} {c:Rat} (hl:TB l) (hi:InT n l) (hc:Bd C c) {A:Nat} {g:Nat→Rat} (hg:∀j,j<n→Bd A (g j)) (hA:A+(C+9)*12≤1073741824) (hn:n≤1000) {K:Nat} (hK:13≤K):
  sJ K (mp g n) l c=some (mp (fun j=>g j+cf l j*c) n)∧∀j,j<n→Bd (A+(C+9)*12) (g j+cf l j*c):=by
 have h12:=hl.1
 have hm:=Nat.mul_le_mul_left (C+9) h12
 have key:=aNT (n:=n) hl.2 hi hc (fun k x i=>mA K l c k x i) (fun k x=>by
  simp only [mA,dF (show¬(l.length:Int)<(l.length:Int) by omega),bO]) (fun k g i A hil hg h1 h2 e he hen=>by
  have hk:=hl.2 _ (x0 hil)
  simp only [mA,dT (show(i:Int)<(l.length:Int) by omega),bT,aEz hil,oB,he,dV (f:=g) hen,sD hk hc (by omega) h2,wK (hg e hen) (hk.mul hc) h1 (by omega),rX (f:=g) hen,mS (i:=i) (by omega)]) l.length 0 K A g (by omega) (by omega) hg (by omega)
 simp only [Int.natCast_zero,List.drop_zero] at key
 have ha:qD ([]:List Rat) (mp g n)=some (mp g n):=by rw [aAa (by simp [mp];omega)];rfl
 refine⟨?_,fun j hj=>(key.2 j hj).mono (by omega)⟩
 simp only [sJ,ha,oB,key.1,vT]
def gH (l:List aA) (i:Nat):aA:=l.getD i ⟨0,0,0,0,0,[],[],0,0⟩
theorem aBX {l:List aA} {i:Nat} (h:i<l.length):bM l (i:Int)=some (gH l i):=rdD _ h
theorem k8 {l:List aA} {i:Nat} (h:i<l.length):gH l i∈l:=by
 unfold gH
 simp only [List.getD_eq_getElem?_getD,List.getElem?_eq_getElem h,Option.getD_some]
 exact List.getElem_mem h
def rcq (l:List aA) (p:Nat→aF) (r j:Nat):Rat:=cf (gH l r).j j*(p r).n+cf (gH l r).t j*(p r).f
def ptot (l:List aA) (p:Nat→aF) (m j:Nat):Rat:=sm (fun r=>rcq l p r j) m
def InR (n:Nat) (l:List aA):Prop:=∀r∈l,InT n r.j∧InT n r.t
def PB' (C m:Nat) (p:Nat→aF):Prop:=∀r,r<m→Bd C (p r).n∧Bd C (p r).f
theorem aPL {A C t:Nat} (h:A+(C+9)*24*(t+1)≤1073741824):A+(C+9)*12≤1073741824∧A+(C+9)*12+(C+9)*12≤1073741824∧A+(C+9)*12+(C+9)*12+(C+9)*24*t≤1073741824:=by
 rw [Nat.mul_succ ((C+9)*24) t] at h
 generalize(C+9)*24*t=x at *
 omega
theorem aJ7 {g:Nat→Rat} {l:List aA} {p:Nat→aF} {i n:Nat} (f:Nat→Rat) (hg:g=fun j=>f j+ptot l p i j):mp (fun j=>g j+cf (gH l i).j j*(p i).n+cf (gH l i).t j*(p i).f) n=mp (fun j=>f j+ptot l p (i+1) j) n:=bZ fun j _=>by
 subst hg
 show f j+ptot l p i j+_+_=f j+(ptot l p i j+rcq l p i j)
 unfold rcq
 rw [Rat.add_assoc,Rat.add_assoc]
theorem aDn {n C:Nat} {l:List aA} {p:Nat→aF} (hl:RsB l) (hr:InR n l) (hp:PB' C l.length p) (f:Nat→Rat) (hn:n≤1000) (hll:l.length≤1000) {K:Nat} (hK:13≤K):
  ∀(t i k A:Nat),i+t=l.length→t<k→(∀j,j<n→Bd A (f j+ptot l p i j))→A+(C+9)*24*t≤1073741824→l4 K l (mp p l.length) k (mp (fun j=>f j+ptot l p i j) n) (i:Int)=some (mp (fun j=>f j+ptot l p l.length j) n)∧∀j,j<n→Bd (A+(C+9)*24*t) (f j+ptot l p l.length j)
 |0,i,k,A,hi',hk,hg,hA=>by
  obtain⟨k',rfl,_⟩:=a8 hk
  have e:i=l.length:=by omega
  subst e
  exact⟨by simp only [l4,dF (show¬(l.length:Int)<(l.length:Int) by omega),bO],fun j hj=>(hg j hj).mono (by omega)⟩
 |t+1,i,k,A,hi',hk,hg,hA=>by
  obtain⟨k',rfl,_⟩:=a8 hk
  have hil:i<l.length:=by omega
  obtain⟨b1,b2,b3⟩:=aPL hA
  have hm:=k8 hil
  obtain⟨p1,p2⟩:=hp i hil
  obtain⟨e1,f1⟩:=aL2 (hl _ hm).1 (hr _ hm).1 p1 hg b1 hn hK
  obtain⟨e2,f2⟩:=aL2 (hl _ hm).2 (hr _ hm).2 p2 f1 b2 hn hK
  have e3:=aJ7 (n:=n) (l:=l) (p:=p) (i:=i) f rfl
  have f3:∀j,j<n→Bd (A+(C+9)*12+(C+9)*12) (f j+ptot l p (i+1) j):=fun j hj=>by
   have:=congrArg (fun x=>oA x j) e3
   simp only [aAp hj] at this
   rw [←this];exact f2 j hj
  obtain⟨i1,i2⟩:=aDn hl hr hp f hn hll hK t (i+1) k' _ (by omega) (by omega) f3 b3
  have hms:(C+9)*24*(t+1)=(C+9)*24*t+(C+9)*24:=Nat.mul_succ _ _
  refine⟨?_,fun j hj=>(i2 j hj).mono (by omega)⟩
  simp only [l4,dT (show(i:Int)<(l.length:Int) by omega),bT,aBX hil,dV (f:=p) hil,oB,e1,e2,e3,mS (i:=i) (by omega)]
  exact i1
def tQ (d:List aG) (i:Nat):aG:=d.getD i ⟨0,0,false,0,0⟩
theorem aMm {d:List aG} {i:Nat} (h:i<d.length):bM d (i:Int)=some (tQ d i):=rdD _ h
theorem aAY {d:List aG} {i:Nat} (h:i<d.length):tQ d i∈d:=by
 unfold tQ
 simp only [List.getD_eq_getElem?_getD,List.getElem?_eq_getElem h,Option.getD_some]
 exact List.getElem_mem h
def acc (d:List aG) (f:Nat→Rat) (l:List aA) (p:Nat→aF) (j:Nat):Rat:=(f j+ptot l p l.length j)*(tQ d j).inv
def aIA (A C m:Nat):Nat:=A+(C+9)*24*m+8
theorem aJa {d:List aG} {f s:Nat→Rat} {A B:Nat} (hd:∀x∈d,Bd 8 x.inv) (hn:d.length≤1000) (hf:∀j,j<d.length→Bd A (f j)) (hs:∀j,j<d.length→Bd B (s j)) (hA:A≤500000000) (hB:B≤500000000) (K:Nat):
  ∀(t i k:Nat),i+t=d.length→t<k→fU K d (mp f d.length) (mp s d.length) k (mp (fun j=>(tQ d j).inv*(f j+s j)) i) (i:Int)=some (mp (fun j=>(tQ d j).inv*(f j+s j)) d.length)
 |0,i,k,hi,hk=>by
  obtain⟨k',rfl,_⟩:=a8 hk
  have e:i=d.length:=by omega
  subst e
  simp only [fU,dF (show¬(d.length:Int)<(d.length:Int) by omega),bO]
 |t+1,i,k,hi,hk=>by
  obtain⟨k',rfl,_⟩:=a8 hk
  have hil:i<d.length:=by omega
  have hv:=hd _ (aAY hil)
  simp only [fU,dT (show(i:Int)<(d.length:Int) by omega),bT,aMm hil,dV (f:=f) hil,dV (f:=s) hil,oB,wK (hf i hil) (hs i hil) (by omega) (by omega),sD hv ((hf i hil).add (hs i hil)) (by omega) (by omega),apM (g:=fun j=>(tQ d j).inv*(f j+s j)) (i:=i) (by omega),mS (i:=i) (by omega)]
  exact aJa hd hn hf hs hA hB K t (i+1) k' (by omega) (by omega)
theorem aJB {d:List aG} {f:Nat→Rat} {l:List aA} {p:Nat→aF} {A C:Nat} (hd:∀x∈d,Bd 8 x.inv) (hn:d.length≤1000) (hf:∀j,j<d.length→Bd A (f j)) (hl:RsB l) (hr:InR d.length l) (hll:l.length≤1000) (hp:PB' C l.length p) (hA:A≤400000000) (hC:(C+9)*24*l.length≤400000000) {K:Nat} (hK:2000≤K):
  kX K d (mp f d.length) l (mp p l.length)=some (mp (acc d f l p) d.length):=by
 have z:mp (fun j=>(0:Rat)+ptot l p 0 j) d.length=mp (fun _=>(0:Rat)) d.length:=bZ fun j _=>by show(0:Rat)+0=0;exact Rat.add_zero 0
 obtain⟨s1,s2⟩:=aDn (p:=p) hl hr hp (fun _=>(0:Rat)) hn hll (show 13≤K by omega) l.length 0 K 1 (by omega) (by omega) (fun j hj=>by show Bd 1 ((0:Rat)+0);rw [Rat.add_zero];exact Bd.zero) (by omega)
 rw [z] at s1
 have s3:∀j,j<d.length→Bd 400000001 ((0:Rat)+ptot l p l.length j):=fun j hj=>(s2 j hj).mono (by omega)
 have a1:=aJa hd hn hf s3 (by omega) (by omega) K d.length 0 K (by omega) (by omega)
 simp only [Int.natCast_zero,aAl] at s1 a1
 have e:mp (fun j=>(tQ d j).inv*(f j+((0:Rat)+ptot l p l.length j))) d.length=mp (acc d f l p) d.length:=bZ fun j _=>by rw [Rat.zero_add,Rat.mul_comm];rfl
 simp only [kX,yL,aBx (z:=(0:Rat)) (n:=d.length) (by omega),oB,s1,wA,a1,p6,e]
theorem aDL {d:List aG} {f:Nat→Rat} {l:List aA} {p:Nat→aF} {A C:Nat} (hd:∀x∈d,Bd 8 x.inv) (hf:∀j,j<d.length→Bd A (f j)) (hl:RsB l) (hr:InR d.length l) (hp:PB' C l.length p) (hn:d.length≤1000) (hll:l.length≤1000) (hA:A≤400000000) (hC:(C+9)*24*l.length≤400000000):vQ (aIA A C l.length) (mp (acc d f l p) d.length):=aAR fun j hj=>by
 obtain⟨_,s2⟩:=aDn (p:=p) hl hr hp f hn hll (K:=1013) (by omega) l.length 0 (l.length+1) A (by omega) (by omega) (fun j hj=>by show Bd A (f j+0);rw [Rat.add_zero];exact hf j hj) (by omega)
 exact(s2 j hj).mul (hd _ (aAY hj))
theorem aL4 {n C:Nat} {a2:List aF} {r:Nat} {v72:aA} {q:aF} (hq:bM a2 (r:Int)=some q) (hl:TB v72.j) (hi:InT n v72.j) (hc:Bd C q.n) {A:Nat} {g:Nat→Rat} (hg:∀j,j<n→Bd A (g j)) (hA:A+(C+9)*12≤1073741824) {K:Nat} (hK:13≤K):
  cP K a2 (r:Int) v72 K (mp g n) 0=some (mp (fun j=>g j+cf v72.j j*q.n) n)∧∀j,j<n→Bd (A+(C+9)*12) (g j+cf v72.j j*q.n):=by
 have h12:=hl.1
 have hm:=Nat.mul_le_mul_left (C+9) h12
 have key:=aNT (n:=n) hl.2 hi hc (fun k x i=>cP K a2 (r:Int) v72 k x i) (fun k x=>by
  simp only [cP,dF (show¬(v72.j.length:Int)<(v72.j.length:Int) by omega),bO]) (fun k g i A hil hg h1 h2 e he hen=>by
  have hk:=hl.2 _ (x0 hil)
  simp only [cP,dT (show(i:Int)<(v72.j.length:Int) by omega),bT,aEz hil,oB,he,dV (f:=g) hen,hq,sD hk hc (by omega) h2,wK (hg e hen) (hk.mul hc) h1 (by omega),rX (f:=g) hen,mS (i:=i) (by omega)]) v72.j.length 0 K A g (by omega) (by omega) hg (by omega)
 simp only [Int.natCast_zero,List.drop_zero] at key
 exact⟨key.1,fun j hj=>(key.2 j hj).mono (by omega)⟩
theorem aKX {n C:Nat} {a2:List aF} {r:Nat} {v72:aA} {q:aF} (hq:bM a2 (r:Int)=some q) (hl:TB v72.t) (hi:InT n v72.t) (hc:Bd C q.f) {A:Nat} {g:Nat→Rat} (hg:∀j,j<n→Bd A (g j)) (hA:A+(C+9)*12≤1073741824) {K:Nat} (hK:13≤K):
  cN K a2 (r:Int) v72 K (mp g n) 0=some (mp (fun j=>g j+cf v72.t j*q.f) n)∧∀j,j<n→Bd (A+(C+9)*12) (g j+cf v72.t j*q.f):=by
 have h12:=hl.1
 have hm:=Nat.mul_le_mul_left (C+9) h12
 have key:=aNT (n:=n) hl.2 hi hc (fun k x i=>cN K a2 (r:Int) v72 k x i) (fun k x=>by
  simp only [cN,dF (show¬(v72.t.length:Int)<(v72.t.length:Int) by omega),bO]) (fun k g i A hil hg h1 h2 e he hen=>by
  have hk:=hl.2 _ (x0 hil)
  simp only [cN,dT (show(i:Int)<(v72.t.length:Int) by omega),bT,aEz hil,oB,he,dV (f:=g) hen,hq,sD hk hc (by omega) h2,wK (hg e hen) (hk.mul hc) h1 (by omega),rX (f:=g) hen,mS (i:=i) (by omega)]) v72.t.length 0 K A g (by omega) (by omega) hg (by omega)
 simp only [Int.natCast_zero,List.drop_zero] at key
 exact⟨key.1,fun j hj=>(key.2 j hj).mono (by omega)⟩
theorem aHA {a0:aD} {n C:Nat} {p:Nat→aF} (hl:RsB a0.rows) (hr:InR n a0.rows) (hp:PB' C a0.rows.length p) (f:Nat→Rat) (hn:n≤1000) (hll:a0.rows.length≤1000) {K:Nat} (hK:13≤K):
  ∀(t i k A:Nat),i+t=a0.rows.length→t<k→(∀j,j<n→Bd A (f j+ptot a0.rows p i j))→A+(C+9)*24*t≤1073741824→cB K a0 (mp p a0.rows.length) k (mp (fun j=>f j+ptot a0.rows p i j) n) (i:Int)=some (mp (fun j=>f j+ptot a0.rows p a0.rows.length j) n)
 |0,i,k,A,hi',hk,hg,hA=>by
  obtain⟨k',rfl,_⟩:=a8 hk
  have e:i=a0.rows.length:=by omega
  subst e
  simp only [cB,dF (show¬(a0.rows.length:Int)<(a0.rows.length:Int) by omega),bO]
 |t+1,i,k,A,hi',hk,hg,hA=>by
  obtain⟨k',rfl,_⟩:=a8 hk
  have hil:i<a0.rows.length:=by omega
  obtain⟨b1,b2,b3⟩:=aPL hA
  have hm:=k8 hil
  obtain⟨p1,p2⟩:=hp i hil
  have hq:=dV (f:=p) hil
  obtain⟨e1,f1⟩:=aL4 hq (hl _ hm).1 (hr _ hm).1 p1 hg b1 hK
  obtain⟨e2,f2⟩:=aKX hq (hl _ hm).2 (hr _ hm).2 p2 f1 b2 hK
  have e3:=aJ7 (n:=n) (l:=a0.rows) (p:=p) (i:=i) f rfl
  have f3:∀j,j<n→Bd (A+(C+9)*12+(C+9)*12) (f j+ptot a0.rows p (i+1) j):=fun j hj=>by
   have:=congrArg (fun x=>oA x j) e3
   simp only [aAp hj] at this
   rw [←this];exact f2 j hj
  simp only [cB,dT (show(i:Int)<(a0.rows.length:Int) by omega),bT,aBX hil,oB,e1,iI,e2,e3,iA,mS (i:=i) (by omega)]
  exact aHA hl hr hp f hn hll hK t (i+1) k' _ (by omega) (by omega) f3 b3
theorem aHv {a0:aD} {B:Nat} (hd:∀x∈a0.dofs,Bd 8 x.inv) (hn:a0.dofs.length≤1000) (hB:B≤1000000000) (h:Nat→Rat) (hh:∀j,j<a0.dofs.length→Bd B (h j)) (K:Nat):
  ∀(t i k:Nat),i+t=a0.dofs.length→t<k→dH K a0 k (mp (fun j=>if j<i then h j*(tQ a0.dofs j).inv else h j) a0.dofs.length) (i:Int)=some (mp (fun j=>h j*(tQ a0.dofs j).inv) a0.dofs.length)
 |0,i,k,hi,hk=>by
  obtain⟨k',rfl,_⟩:=a8 hk
  have e:i=a0.dofs.length:=by omega
  subst e
  simp only [dH,dF (show¬(a0.dofs.length:Int)<(a0.dofs.length:Int) by omega),bO]
  exact congrArg some (bZ fun j hj=>if_pos hj)
 |t+1,i,k,hi,hk=>by
  obtain⟨k',rfl,_⟩:=a8 hk
  have hil:i<a0.dofs.length:=by omega
  have e1:(fun j=>if j<i then h j*(tQ a0.dofs j).inv else h j) i=h i:=if_neg (by omega)
  have e2:mp (gI (fun j=>if j<i then h j*(tQ a0.dofs j).inv else h j) i (h i*(tQ a0.dofs i).inv)) a0.dofs.length=mp (fun j=>if j<i+1 then h j*(tQ a0.dofs j).inv else h j) a0.dofs.length:=bZ fun j hj=>by
   by_cases e:j=i
   ·subst e;rw [aW,if_pos (by omega)]
   ·rw [bY e]
    by_cases hlt:j<i
    ·rw [if_pos hlt,if_pos (by omega)]
    ·rw [if_neg hlt,if_neg (by omega)]
  simp only [dH,dT (show(i:Int)<(a0.dofs.length:Int) by omega),bT,aMm hil,dV (f:=fun j=>if j<i then h j*(tQ a0.dofs j).inv else h j) hil,e1,oB,sD (hh i hil) (hd _ (aAY hil)) (by omega) (by omega),rX (f:=fun j=>if j<i then h j*(tQ a0.dofs j).inv else h j) hil,e2,mS (i:=i) (by omega)]
  exact aHv hd hn hB h hh K t (i+1) k' (by omega) (by omega)
theorem aM6 {x:List Rat} (hn:x.length≤60000000000):oC x=some x:=by
 unfold oC
 first|(rw [aAa (by simp;omega)];rfl)|(simp [aAa (show([]:List Rat).length+x.length≤60000000000 by simp;omega)])
theorem aGE {d:List aG} {f0 v0:List Rat} {f:Nat→Rat} {l:List aA} {p:Nat→aF} {A C:Nat} (hd:∀x∈d,Bd 8 x.inv) (hn:d.length≤1000) (hf:∀j,j<d.length→Bd A (f j)) (hl:RsB l) (hr:InR d.length l) (hll:l.length≤1000) (hp:PB' C l.length p) (hA:A≤400000000) (hC:(C+9)*24*l.length≤400000000) {K:Nat} (hK:2000≤K):
  bE K ⟨d,f0,v0,l⟩ (mp f d.length) (mp p l.length)=some (mp (acc d f l p) d.length):=by
 have z:mp (fun j=>f j+ptot l p 0 j) d.length=mp f d.length:=bZ fun j _=>Rat.add_zero _
 have hz:∀j,j<d.length→Bd A (f j+ptot l p 0 j):=fun j hj=>by show Bd A (f j+0);rw [Rat.add_zero];exact hf j hj
 have s1:=aHA (a0:=⟨d,f0,v0,l⟩) (p:=p) hl hr hp f hn hll (show 13≤K by omega) l.length 0 K A (by simp) (by omega) hz (by omega)
 obtain⟨_,s2⟩:=aDn (p:=p) hl hr hp f hn hll (K:=1013) (by omega) l.length 0 (l.length+1) A (by omega) (by omega) hz (by omega)
 have s3:=aHv (a0:=⟨d,f0,v0,l⟩) (B:=900000000) hd hn (by omega) (fun j=>f j+ptot l p l.length j) (fun j hj=>(s2 j hj).mono (by omega)) K d.length 0 K (by simp) (by omega)
 simp only at s1 s3
 rw [z] at s1
 have e0:mp (fun j=>if j<0 then(f j+ptot l p l.length j)*(tQ d j).inv else f j+ptot l p l.length j) d.length=mp (fun j=>f j+ptot l p l.length j) d.length:=bZ fun j _=>if_neg (by omega)
 rw [e0] at s3
 simp only [Int.natCast_zero] at s1 s3
 have hc:=aM6 (x:=mp f d.length) (by rw [bF];omega)
 simp only [bE,hc,oB,s1,iK,s3,iJ]
 rfl
end Go.Proofs.YtcjdedkdoagifaaGreat
set_option linter.unusedVariables false
namespace Go.Proofs.YtcjdedkdoagifaaGreat
/-- Whether a row sticks. -/
def yX (v:List Rat) (r:aA):Bool:=decide (0<r.t.length)&&decide ((rt r.t v).num.sign=0)
def blk (v:List Rat) (l:List aA) (i:Nat):List (Nat×Nat):=(i,0)::(bif yX v (gH l i) then [(i,1),(i,2),(i,3)] else [])
def yB (v:List Rat) (l:List aA):Nat→List (Nat×Nat)
 |0=>[]
 |i+1=>yB v l i++blk v l i
def off (v:List Rat) (l:List aA):Nat→Nat
 |0=>0
 |i+1=>off v l i+(bif yX v (gH l i) then 4 else 1)
theorem yJ {v:List Rat} {l:List aA}:∀m,(yB v l m).length=off v l m
 |0=>rfl
 |m+1=>by
  show(yB v l m++blk v l m).length=off v l m+_
  rw [List.length_append,yJ m]
  unfold blk
  cases yX v (gH l m)<;>rfl
theorem rI {v:List Rat} {l:List aA}:∀m,off v l m≤4*m
 |0=>Nat.le_refl _
 |m+1=>by
  have:=rI (v:=v) (l:=l) m
  show off v l m+_≤_
  cases yX v (gH l m)
  ·show off v l m+1≤_;omega
  ·show off v l m+4≤_;omega
def vq (v:List Rat) (l:List aA) (r q:Nat):Prop:=q=0∨(yX v (gH l r)=true∧q≤3)
theorem aHD {v:List Rat} {l:List aA} {r q:Nat} (h:vq v l r q):off v l r+q<off v l (r+1):=by
 show _<off v l r+(bif yX v (gH l r) then 4 else 1)
 rcases h with h|⟨h,h2⟩
 ·rw [h];cases yX v (gH l r)<;>simp
 ·rw [h];show _<off v l r+4;omega
theorem aMH {v:List Rat} {l:List aA} {r m:Nat} (h:r≤m):off v l r≤off v l m:=by
 induction m with
 |zero=>
  have:r=0:=by omega
  rw [this];exact Nat.le_refl _
 |succ m ih=>
  by_cases e:r=m+1
  ·rw [e];exact Nat.le_refl _
  ·have h1:=ih (by omega)
   have h2:=aHD (v:=v) (l:=l) (r:=m) (q:=0) (.inl rfl)
   omega
theorem qK {v:List Rat} {l:List aA} {r m q:Nat} (h:r<m) (hq:vq v l r q):off v l r+q<off v l m:=Nat.lt_of_lt_of_le (aHD hq) (aMH h)
theorem aDy {v:List Rat} {l:List aA} {r q:Nat} (hq:vq v l r q):∀m,r<m→(yB v l m)[off v l r+q]?=some (r,q)
 |0,h=>by omega
 |m+1,h=>by
  show(yB v l m++blk v l m)[off v l r+q]?=some (r,q)
  by_cases e:r=m
  ·subst e
   rw [List.getElem?_append_right (by rw [yJ];omega),yJ,Nat.add_sub_cancel_left]
   unfold blk
   rcases hq with hq|⟨h1,h2⟩
   ·rw [hq];rfl
   ·rw [h1]
    have:q=0∨q=1∨q=2∨q=3:=by omega
    rcases this with rfl|rfl|rfl|rfl<;>rfl
  ·rw [List.getElem?_append_left (by rw [yJ];exact qK (by omega) hq)]
   exact aDy hq m (by omega)
theorem tI {v:List Rat} {l:List aA}:∀m k,k<off v l m→∃r q,r<m∧vq v l r q∧k=off v l r+q
 |0,k,h=>by exact absurd h (Nat.not_lt_zero _)
 |m+1,k,h=>by
  by_cases e:k<off v l m
  ·obtain⟨r,q,h1,h2,h3⟩:=tI m k e
   exact⟨r,q,by omega,h2,h3⟩
  ·have h':k<off v l m+(bif yX v (gH l m) then 4 else 1):=h
   refine⟨m,k-off v l m,by omega,?_,by omega⟩
   cases hs:yX v (gH l m)
   ·rw [hs] at h';have:k<off v l m+1:=h';exact .inl (by omega)
   ·rw [hs] at h';have:k<off v l m+4:=h';exact .inr ⟨hs,by omega⟩
theorem aDs {v:List Rat} {l:List aA} {r q r' q':Nat} (h:vq v l r q) (h':vq v l r' q') (e:off v l r+q=off v l r'+q'):r=r'∧q=q':=by
 have key:r=r':=by
  rcases Nat.lt_trichotomy r r' with h1|h1|h1
  ·have:=qK h1 h;omega
  ·exact h1
  ·have:=qK h1 h';omega
 subst key
 exact⟨rfl,by omega⟩
def pu (x:Nat×Nat):aC:=⟨(x.1:Int),(x.2:Int)⟩
def ru (x:Nat×Nat):aQ:=⟨(x.1:Int),(x.2:Int)⟩
theorem aJn {d:List aG} {f v:List Rat} {l:List aA} {r:aA} (hv:vQ 64 v) (hr:RB r) {K:Nat} (hK:13≤K):kI K ⟨d,f,v,l⟩ r=some (rt r.t v).num.sign:=by
 simp only [kI,aJk hv hr.2 hK,oB,mZ (aKa hv hr.2) (by omega)]
theorem aHR {v:List Rat} {r:aA} (hv:vQ 64 v) (hr:RB r) {K:Nat} (hK:13≤K):qU K r v=some (rt r.t v).num.sign:=by
 simp only [qU,aGV hv hr.2 hK,oB,mZ (aKa hv hr.2) (by omega)]
theorem apA {α:Type} {xs ys:List α} (h:xs.length+ys.length≤60000000000):qD xs ys=some (xs++ys):=aAa (by omega)
theorem aCq {d:List aG} {f v:List Rat} {l:List aA} (hv:vQ 64 v) (hl:RsB l) (hn:l.length≤1000) {K:Nat} (hK:13≤K):∀(t i k:Nat),i+t=l.length→t<k→dA K ⟨d,f,v,l⟩ k ((yB v l i).map pu) (i:Int)=some ((yB v l l.length).map pu)
 |0,i,k,hi,hk=>by
  obtain⟨k',rfl,_⟩:=a8 hk
  have e:i=l.length:=by omega
  subst e
  simp only [dA,dF (show¬(l.length:Int)<(l.length:Int) by omega),bO]
 |t+1,i,k,hi,hk=>by
  obtain⟨k',rfl,_⟩:=a8 hk
  have hil:i<l.length:=by omega
  have hr:=hl _ (k8 hil)
  have h4:=rI (v:=v) (l:=l) i
  have hlen:((yB v l i).map pu).length=off v l i:=by rw [List.length_map,yJ]
  have ih:=aCq (d:=d) (f:=f) hv hl hn hK t (i+1) k' (by omega) (by omega)
  have e1:qD ((yB v l i).map pu) [(⟨(i:Int),0⟩:aC)]=some ((yB v l i).map pu++[(⟨(i:Int),0⟩:aC)]):=apA (by rw [hlen];simp;omega)
  have e2:qD ((yB v l i).map pu++[(⟨(i:Int),0⟩:aC)]) [(⟨(i:Int),1⟩:aC),⟨(i:Int),2⟩,⟨(i:Int),3⟩]=some ((yB v l i).map pu++[(⟨(i:Int),0⟩:aC)]++[(⟨(i:Int),1⟩:aC),⟨(i:Int),2⟩,⟨(i:Int),3⟩]):=apA (by rw [List.length_append,hlen];simp;omega)
  have e3:(yB v l (i+1)).map pu=(yB v l i).map pu++(blk v l i).map pu:=List.map_append
  rw [e3] at ih
  simp only [dA,dT (show(i:Int)<(l.length:Int) by omega),bT,aBX hil,oB,e1]
  unfold blk yX at ih
  by_cases h0:0<(gH l i).t.length
  ·simp only [dT (show(0:Int)<((gH l i).t.length:Int) by omega),bT,aJn hv hr hK,oB]
   by_cases h1:(rt (gH l i).t v).num.sign=0
   ·simp only [qT h1,bT,e2,oB,mS (i:=i) (by omega)]
    rw [decide_eq_true h0,decide_eq_true h1] at ih
    rw [List.append_assoc]
    exact ih
   ·simp only [qF h1,bO,mS (i:=i) (by omega),oB]
    rw [decide_eq_false h1,Bool.and_false] at ih
    exact ih
  ·simp only [dF (show¬(0:Int)<((gH l i).t.length:Int) by omega),bO,mS (i:=i) (by omega),oB]
   rw [decide_eq_false h0,Bool.false_and] at ih
   exact ih
theorem aDa {d:List aG} {f v:List Rat} {l:List aA} (hv:vQ 64 v) (hl:RsB l) (hn:l.length≤1000) {K:Nat} (hK:2000≤K):iW K ⟨d,f,v,l⟩=some ((yB v l l.length).map pu):=by
 have:=aCq (d:=d) (f:=f) hv hl hn (show 13≤K by omega) l.length 0 K (by omega) (by omega)
 simp only [Int.natCast_zero] at this
 simp only [iW,show([]:List aC)=(yB v l 0).map pu from rfl,this,oB,lB]
theorem aBB {v:List Rat} {l:List aA} (hv:vQ 64 v) (hl:RsB l) (hn:l.length≤1000) {K:Nat} (hK:13≤K):∀(t i k:Nat),i+t=l.length→t<k→eP K v l k ((yB v l i).map ru) (i:Int)=some ((yB v l l.length).map ru)
 |0,i,k,hi,hk=>by
  obtain⟨k',rfl,_⟩:=a8 hk
  have e:i=l.length:=by omega
  subst e
  simp only [eP,dF (show¬(l.length:Int)<(l.length:Int) by omega),bO]
 |t+1,i,k,hi,hk=>by
  obtain⟨k',rfl,_⟩:=a8 hk
  have hil:i<l.length:=by omega
  have hr:=hl _ (k8 hil)
  have h4:=rI (v:=v) (l:=l) i
  have hlen:((yB v l i).map ru).length=off v l i:=by rw [List.length_map,yJ]
  have ih:=aBB hv hl hn hK t (i+1) k' (by omega) (by omega)
  have e1:qD ((yB v l i).map ru) [(⟨(i:Int),0⟩:aQ)]=some ((yB v l i).map ru++[(⟨(i:Int),0⟩:aQ)]):=apA (by rw [hlen];simp;omega)
  have e2:qD ((yB v l i).map ru++[(⟨(i:Int),0⟩:aQ)]) [(⟨(i:Int),1⟩:aQ),⟨(i:Int),2⟩,⟨(i:Int),3⟩]=some ((yB v l i).map ru++[(⟨(i:Int),0⟩:aQ)]++[(⟨(i:Int),1⟩:aQ),⟨(i:Int),2⟩,⟨(i:Int),3⟩]):=apA (by rw [List.length_append,hlen];simp;omega)
  have e3:(yB v l (i+1)).map ru=(yB v l i).map ru++(blk v l i).map ru:=List.map_append
  rw [e3] at ih
  simp only [eP,dT (show(i:Int)<(l.length:Int) by omega),bT,aBX hil,oB,e1]
  unfold blk yX at ih
  by_cases h0:0<(gH l i).t.length
  ·simp only [dT (show(0:Int)<((gH l i).t.length:Int) by omega),bT,aHR hv hr hK,oB]
   by_cases h1:(rt (gH l i).t v).num.sign=0
   ·simp only [qT h1,bT,e2,oB,mS (i:=i) (by omega)]
    rw [decide_eq_true h0,decide_eq_true h1] at ih
    rw [List.append_assoc]
    exact ih
   ·simp only [qF h1,bO,mS (i:=i) (by omega),oB]
    rw [decide_eq_false h1,Bool.and_false] at ih
    exact ih
  ·simp only [dF (show¬(0:Int)<((gH l i).t.length:Int) by omega),bO,mS (i:=i) (by omega),oB]
   rw [decide_eq_false h0,Bool.false_and] at ih
   exact ih
theorem xA {v:List Rat} {l:List aA} (hv:vQ 64 v) (hl:RsB l) (hn:l.length≤1000) {K:Nat} (hK:2000≤K):jA K v l=some ((yB v l l.length).map ru):=by
 have:=aBB hv hl hn (show 13≤K by omega) l.length 0 K (by omega) (by omega)
 simp only [Int.natCast_zero] at this
 simp only [jA,show([]:List aQ)=(yB v l 0).map ru from rfl,this,oB,sY]
theorem rdU {v:List Rat} {l:List aA} {m r q:Nat} (hq:vq v l r q) (hr:r<m):bM ((yB v l m).map pu) ((off v l r+q:Nat):Int)=some ⟨(r:Int),(q:Int)⟩:=rdG (by rw [List.getElem?_map,aDy hq m hr];rfl)
theorem aRi {v:List Rat} {l:List aA} {m r q:Nat} (hq:vq v l r q) (hr:r<m):bM ((yB v l m).map ru) ((off v l r+q:Nat):Int)=some ⟨(r:Int),(q:Int)⟩:=rdG (by rw [List.getElem?_map,aDy hq m hr];rfl)
theorem tG {v:List Rat} {l:List aA} {m:Nat}:((yB v l m).map pu).length=off v l m:=by rw [List.length_map,yJ]
theorem aAM {v:List Rat} {l:List aA} {m:Nat}:((yB v l m).map ru).length=off v l m:=by rw [List.length_map,yJ]
end Go.Proofs.YtcjdedkdoagifaaGreat
set_option linter.unusedVariables false
namespace Go.Proofs.YtcjdedkdoagifaaGreat
instance vqDec {v:List Rat} {l:List aA} {r q:Nat}:Decidable (vq v l r q):=by unfold vq;infer_instance
theorem vq3 {v:List Rat} {l:List aA} {r q:Nat} (h:vq v l r q):q≤3:=by
 rcases h with h|h
 ·omega
 ·exact h.2
def ow (v:List Rat) (l:List aA) (z:Nat→Rat) (i k q:Nat):Rat:=if vq v l i q∧off v l i+q<k then z (off v l i+q) else 0
theorem aNv {v:List Rat} {l:List aA} {z:Nat→Rat} {i k r q0:Nat} (hq:vq v l r q0) (hk:k=off v l r+q0):(r=i→mp (gI (ow v l z i k) q0 (z k)) 4=mp (ow v l z i (k+1)) 4)∧(r≠i→mp (ow v l z i k) 4=mp (ow v l z i (k+1)) 4):=by
 refine⟨fun e=>bZ fun q _=>?_,fun e=>bZ fun q _=>?_⟩
 ·subst e
  by_cases h:q=q0
  ·subst h
   rw [aW]
   unfold ow
   rw [if_pos ⟨hq,by omega⟩,←hk]
  ·rw [bY h]
   unfold ow
   by_cases h2:vq v l r q∧off v l r+q<k
   ·rw [if_pos h2,if_pos ⟨h2.1,by omega⟩]
   ·rw [if_neg h2,if_neg fun h3=>h2 ⟨h3.1,by omega⟩]
 ·unfold ow
  by_cases h2:vq v l i q∧off v l i+q<k
  ·rw [if_pos h2,if_pos ⟨h2.1,by omega⟩]
  ·rw [if_neg h2,if_neg fun h3=>?_]
   have:off v l i+q=off v l r+q0:=by
    have:=h3.2
    by_cases e2:off v l i+q<k
    ·exact absurd ⟨h3.1,e2⟩ h2
    ·omega
   exact e (aDs h3.1 hq this).1.symm
theorem aJp {v:List Rat} {l:List aA} {m:Nat} {z:Nat→Rat} (hm:m≤1000) (i:Nat) (K:Nat):∀(t k fu:Nat),k+t=off v l m→t<fu→gT K (mp z (off v l m)) ((yB v l m).map ru) (i:Int) fu (mp (ow v l z i k) 4) (k:Int)=some (mp (ow v l z i (off v l m)) 4)
 |0,k,fu,hi,hk=>by
  obtain⟨k',rfl,_⟩:=a8 hk
  have e:k=off v l m:=by omega
  subst e
  simp only [gT,aAM,dF (show¬(off v l m:Int)<(off v l m:Int) by omega),bO]
 |t+1,k,fu,hi,hk=>by
  obtain⟨k',rfl,_⟩:=a8 hk
  have hkl:k<off v l m:=by omega
  have h4:=rI (v:=v) (l:=l) m
  obtain⟨r,q,h1,h2,h3⟩:=tI m k hkl
  have hq3:=vq3 h2
  have hu:=aRi (m:=m) h2 h1
  rw [←h3] at hu
  obtain⟨s1,s2⟩:=aNv (z:=z) (i:=i) h2 h3
  have ih:=aJp (v:=v) (l:=l) (z:=z) hm i K t (k+1) k' (by omega) (by omega)
  simp only [gT,aAM,dT (show(k:Int)<(off v l m:Int) by omega),bT,hu,oB]
  by_cases e:r=i
  ·simp only [qT (show(r:Int)=(i:Int) by omega),bT,dV (f:=z) hkl,dV (f:=ow v l z i k) (n:=4) (i:=q) (by omega),oB,rX (f:=ow v l z i k) (n:=4) (i:=q) (by omega),s1 e,mS (i:=k) (by omega)]
   exact ih
  ·simp only [qF (show(r:Int)≠(i:Int) by omega),bO,mS (i:=k) (by omega),oB,s2 e]
   exact ih
def pz (v:List Rat) (l:List aA) (z:Nat→Rat) (i:Nat):aF:=
 if(gH l i).t.length=0 then⟨z (off v l i),0⟩
 else if(rt (gH l i).t v).num.sign≠0 then⟨z (off v l i),(((-(rt (gH l i).t v).num.sign:Int):Rat)/((1:Int):Rat))*((gH l i).mu*z (off v l i))⟩
 else⟨z (off v l i),z (off v l i+1)-z (off v l i+2)⟩
theorem aJ2 (x:Rat):-1≤x.num.sign∧x.num.sign≤1:=by
 rcases Int.lt_trichotomy x.num 0 with h|h|h
 ·rw [Int.sign_eq_neg_one_of_neg h];omega
 ·rw [h];decide
 ·rw [Int.sign_eq_one_of_pos h];omega
theorem qsg (x:Rat):qof (-x.num.sign) 1=some (((-x.num.sign:Int):Rat)/((1:Int):Rat))∧Bd 2 (((-x.num.sign:Int):Rat)/((1:Int):Rat)):=by
 have:=aJ2 x
 obtain⟨r,h1,h2,h3⟩:=aCJ (k:=2) (p:=-x.num.sign) (q:=1) (by omega) (by omega) (by decide) (by omega)
 rw [←h2];exact⟨h1,h3⟩
theorem aEW {v:List Rat} {l:List aA} {z:Nat→Rat} {C:Nat} (hz:∀k,k<off v l l.length→Bd C (z k)) (hl:RsC l):PB' (2*C+11) l.length (pz v l z):=fun i hi=>by
 have h0:=hz _ (qK (v:=v) (l:=l) (r:=i) (q:=0) hi (.inl rfl))
 rw [Nat.add_zero] at h0
 have hm:=(hl _ (k8 hi)).2
 unfold pz
 split
 ·exact⟨h0.mono (by omega),Bd.zero.mono (by omega)⟩
 ·rename_i ht
  split
  ·exact⟨h0.mono (by omega),((qsg _).2.mul (hm.mul h0)).mono (by omega)⟩
  ·rename_i hs
   have hst:yX v (gH l i)=true:=by
    unfold yX
    rw [decide_eq_true (show 0<(gH l i).t.length by omega),decide_eq_true (show(rt (gH l i).t v).num.sign=0 from Decidable.of_not_not hs)];rfl
   exact⟨h0.mono (by omega),((hz _ (qK (q:=1) hi (.inr ⟨hst,by omega⟩))).sub (hz _ (qK (q:=2) hi (.inr ⟨hst,by omega⟩)))).mono (by omega)⟩
theorem aDW {v:List Rat} {l:List aA} {z:Nat→Rat} {C:Nat} (hv:vQ 64 v) (hl:RsC l) (hz:∀k,k<off v l l.length→Bd C (z k)) (hC:C≤500000000) (hn:l.length≤1000) {K:Nat} (hK:5000≤K):∀(t i k:Nat),i+t=l.length→t<k→jX K v l (mp z (off v l l.length)) ((yB v l l.length).map ru) k (mp (pz v l z) i) (i:Int)=some (mp (pz v l z) l.length)
 |0,i,k,hi,hk=>by
  obtain⟨k',rfl,_⟩:=a8 hk
  have e:i=l.length:=by omega
  subst e
  simp only [jX,dF (show¬(l.length:Int)<(l.length:Int) by omega),bO]
 |t+1,i,k,hi,hk=>by
  obtain⟨k',rfl,_⟩:=a8 hk
  have hil:i<l.length:=by omega
  have h4:=rI (v:=v) (l:=l) l.length
  have hr:=hl _ (k8 hil)
  have ih:=aDW hv hl hz hC hn hK t (i+1) k' (by omega) (by omega)
  have e0:mp (ow v l z i 0) 4=mp (fun _=>(0:Rat)) 4:=bZ fun q _=>if_neg (by omega)
  have e1:=aJp (v:=v) (l:=l) (m:=l.length) (z:=z) hn i K (off v l l.length) 0 K (by omega) (by omega)
  rw [e0] at e1
  simp only [Int.natCast_zero] at e1
  have hmk:wG 4 (0:Rat)=some (mp (fun _=>(0:Rat)) 4):=aBx (n:=4) (by omega)
  have l0:=qK (v:=v) (l:=l) (m:=l.length) (r:=i) (q:=0) hil (.inl rfl)
  have o0:ow v l z i (off v l l.length) 0=z (off v l i):=by unfold ow;rw [if_pos ⟨.inl rfl,l0⟩,Nat.add_zero]
  rw [Nat.add_zero] at l0
  have r0:bM (mp (ow v l z i (off v l l.length)) 4) 0=some (z (off v l i)):=by rw [←o0];exact dV (i:=0) (by omega)
  have hF:tJ K (gH l i) v (mp (ow v l z i (off v l l.length)) 4)=some (pz v l z i):=by
   simp only [tJ,aHR hv hr.1 (show 13≤K by omega),oB,r0]
   unfold pz
   by_cases ht:(gH l i).t.length=0
   ·simp only [qT (show((gH l i).t.length:Int)=0 by omega),bT,if_pos ht]
   ·simp only [qF (show((gH l i).t.length:Int)≠0 by omega),bO,if_neg ht]
    by_cases hs:(rt (gH l i).t v).num.sign=0
    ·have hst:yX v (gH l i)=true:=by
      unfold yX;rw [decide_eq_true (show 0<(gH l i).t.length by omega),decide_eq_true hs];rfl
     have l1:=qK (v:=v) (l:=l) (m:=l.length) (r:=i) (q:=1) hil (.inr ⟨hst,by omega⟩)
     have l2:=qK (v:=v) (l:=l) (m:=l.length) (r:=i) (q:=2) hil (.inr ⟨hst,by omega⟩)
     have r1:bM (mp (ow v l z i (off v l l.length)) 4) 1=some (z (off v l i+1)):=by
      have:ow v l z i (off v l l.length) 1=z (off v l i+1):=if_pos ⟨.inr ⟨hst,by omega⟩,l1⟩
      rw [←this];exact dV (i:=1) (by omega)
     have r2:bM (mp (ow v l z i (off v l l.length)) 4) 2=some (z (off v l i+2)):=by
      have:ow v l z i (off v l l.length) 2=z (off v l i+2):=if_pos ⟨.inr ⟨hst,by omega⟩,l2⟩
      rw [←this];exact dV (i:=2) (by omega)
     simp only [nF hs,bO,r1,r2,oB,aAg (hz _ l1) (hz _ l2) (by omega) (by omega),if_neg (show¬((rt (gH l i).t v).num.sign≠0) from fun h=>h hs)]
    ·have hb:=aJ2 (rt (gH l i).t v)
     have hz0:=hz _ l0
     simp only [nT hs,bT,kM (show -9223372036854775808≤-(rt (gH l i).t v).num.sign∧_ by omega),oB,(qsg _).1,sD hr.2 hz0 (by omega) (by omega),sD (qsg (rt (gH l i).t v)).2 (hr.2.mul hz0) (by omega) (by omega),if_pos hs]
  simp only [jX,dT (show(i:Int)<(l.length:Int) by omega),bT,hmk,oB,e1,tV,aBX hil,hF,apM (g:=pz v l z) (i:=i) (by omega),mS (i:=i) (by omega)]
  exact ih
theorem aEU {v:List Rat} {l:List aA} {z:Nat→Rat} {C:Nat} (hv:vQ 64 v) (hl:RsC l) (hz:∀k,k<off v l l.length→Bd C (z k)) (hC:C≤500000000) (hn:l.length≤1000) {K:Nat} (hK:5000≤K):pK K v l (mp z (off v l l.length))=some (mp (pz v l z) l.length):=by
 have:=aDW hv hl hz hC hn hK l.length 0 K (by omega) (by omega)
 simp only [Int.natCast_zero,aAl] at this
 simp only [pK,xA hv (fun r h=>(hl r h).1) hn (show 2000≤K by omega),oB,this,tZ]
def uk (v:List Rat) (l:List aA) (k:Nat):Nat×Nat:=(yB v l l.length).getD k (0,0)
theorem aCi {v:List Rat} {l:List aA} {r q:Nat} (hq:vq v l r q) (hr:r<l.length):uk v l (off v l r+q)=(r,q):=by
 unfold uk
 rw [List.getD_eq_getElem?_getD,aDy hq _ hr];rfl
def rv (v:List Rat) (l:List aA) (a:List Rat) (k:Nat):Rat:=
 if(uk v l k).2=0 then rt (gH l (uk v l k).1).j a
 else if(uk v l k).2=1 then rt (gH l (uk v l k).1).t a
 else if(uk v l k).2=2 then -(rt (gH l (uk v l k).1).t a)
 else 0
def zv (v:List Rat) (l:List aA) (z:Nat→Rat) (k:Nat):Rat:=
 if(uk v l k).2=0 then 0
 else if(uk v l k).2=1 then z (k+2)
 else if(uk v l k).2=2 then z (k+1)
 else(gH l (uk v l k).1).mu*z (k-3)-(z (k-2)+z (k-1))
def vl (v:List Rat) (l:List aA) (a:List Rat) (z:Nat→Rat) (k:Nat):Rat:=rv v l a k+zv v l z k
theorem aDN {v a:List Rat} {l:List aA} {z:Nat→Rat} {C B:Nat} (hl:RsC l) (ha:vQ B a) (hB:B≤10000000) (hz:∀k,k<off v l l.length→Bd C (z k)) (hC:C≤100000000) (hn:l.length≤1000) {K:Nat} (hK:13≤K):∀(t k fu:Nat),k+t=off v l l.length→t<fu→eH K l (mp z (off v l l.length)) a ((yB v l l.length).map ru) fu (mp (vl v l a z) k) (k:Int)=some (mp (vl v l a z) (off v l l.length))
 |0,k,fu,hi,hk=>by
  obtain⟨k',rfl,_⟩:=a8 hk
  have e:k=off v l l.length:=by omega
  subst e
  simp only [eH,aAM,dF (show¬(off v l l.length:Int)<(off v l l.length:Int) by omega),bO]
 |t+1,k,fu,hi,hk=>by
  obtain⟨k',rfl,_⟩:=a8 hk
  have hkl:k<off v l l.length:=by omega
  have h4:=rI (v:=v) (l:=l) l.length
  obtain⟨r,q,h1,h2,h3⟩:=tI l.length k hkl
  have hq3:=vq3 h2
  have hu:=aRi (m:=l.length) h2 h1
  rw [←h3] at hu
  have huk:=aCi h2 h1
  rw [←h3] at huk
  have hr:=hl _ (k8 h1)
  have ih:=aDN hl ha hB hz hC hn hK t (k+1) k' (by omega) (by omega)
  have bj:=aAX ha hr.1.1
  have bt:=aAX ha hr.1.2
  have ap:=apM (g:=vl v l a z) (i:=k) (by omega)
  simp only [eH,aAM,dT (show(k:Int)<(off v l l.length:Int) by omega),bT,hu,oB,aBX h1]
  have hcase:q=0∨q=1∨q=2∨q=3:=by omega
  rcases hcase with rfl|rfl|rfl|rfl
  ·have e:vl v l a z k=rt (gH l r).j a:=by unfold vl rv zv;rw [huk];exact Rat.add_zero _
   rw [e] at ap
   simp only [qT (show((0:Nat):Int)=0 from rfl),bT,aA5 ha (by omega) hr.1.1 hK,oB,ap,mS (i:=k) (by omega)]
   exact ih
  ·have hst:yX v (gH l r)=true:=by rcases h2 with h|h;omega;exact h.1
   have l3:=qK (v:=v) (l:=l) (m:=l.length) (r:=r) (q:=3) h1 (.inr ⟨hst,by omega⟩)
   have e:vl v l a z k=rt (gH l r).t a+z (k+2):=by unfold vl rv zv;rw [huk];rfl
   rw [e] at ap
   have c2:aP ((k:Int)+2)=some ((k+2:Nat):Int):=by rw [kM (by omega)];rfl
   simp only [qF (show((1:Nat):Int)≠0 by omega),qT (show((1:Nat):Int)=1 from rfl),bO,bT,aA5 ha (by omega) hr.1.2 hK,oB,c2,dV (f:=z) (n:=off v l l.length) (i:=k+2) (by omega),wK bt (hz (k+2) (by omega)) (by omega) (by omega),ap,mS (i:=k) (by omega)]
   exact ih
  ·have hst:yX v (gH l r)=true:=by rcases h2 with h|h;omega;exact h.1
   have l3:=qK (v:=v) (l:=l) (m:=l.length) (r:=r) (q:=3) h1 (.inr ⟨hst,by omega⟩)
   have e:vl v l a z k=z (k+1)-rt (gH l r).t a:=by
    unfold vl rv zv;rw [huk]
    show -(rt (gH l r).t a)+z (k+1)=_
    rw [Rat.add_comm,Rat.sub_eq_add_neg]
   rw [e] at ap
   simp only [qF (show((2:Nat):Int)≠0 by omega),qF (show((2:Nat):Int)≠1 by omega),qT (show((2:Nat):Int)=2 from rfl),bO,bT,mS (i:=k) (by omega),oB,dV (f:=z) (n:=off v l l.length) (i:=k+1) (by omega),aA5 ha (by omega) hr.1.2 hK,aAg (hz (k+1) (by omega)) bt (by omega) (by omega),ap]
   exact ih
  ·have e:vl v l a z k=(gH l r).mu*z (k-3)-(z (k-2)+z (k-1)):=by unfold vl rv zv;rw [huk];exact Rat.zero_add _
   rw [e] at ap
   have c1:aP ((k:Int)-3)=some ((k-3:Nat):Int):=by rw [kM (by omega)];congr 1;omega
   have c2:aP ((k:Int)-2)=some ((k-2:Nat):Int):=by rw [kM (by omega)];congr 1;omega
   have c3:aP ((k:Int)-1)=some ((k-1:Nat):Int):=by rw [kM (by omega)];congr 1;omega
   have z1:=hz (k-3) (by omega)
   have z2:=hz (k-2) (by omega)
   have z3:=hz (k-1) (by omega)
   simp only [qF (show((3:Nat):Int)≠0 by omega),qF (show((3:Nat):Int)≠1 by omega),qF (show((3:Nat):Int)≠2 by omega),bO,c1,c2,c3,oB,dV (f:=z) (n:=off v l l.length) (i:=k-3) (by omega),dV (f:=z) (n:=off v l l.length) (i:=k-2) (by omega),dV (f:=z) (n:=off v l l.length) (i:=k-1) (by omega),sD hr.2 z1 (by omega) (by omega),wK z2 z3 (by omega) (by omega),aAg (hr.2.mul z1) (z2.add z3) (by omega) (by omega),ap,mS (i:=k) (by omega)]
   exact ih
theorem aR7 {v a:List Rat} {l:List aA} {z:Nat→Rat} {C B:Nat} (hl:RsC l) (ha:vQ B a) (hz:∀k,k<off v l l.length→Bd C (z k)) {k:Nat} (hk:k<off v l l.length):Bd (1+(B+9)*12+(3*C+20)) (vl v l a z k):=by
 obtain⟨r,q,h1,h2,h3⟩:=tI l.length k hk
 have hq3:=vq3 h2
 have huk:=aCi h2 h1
 rw [←h3] at huk
 have hr:=hl _ (k8 h1)
 have bj:=aAX ha hr.1.1
 have bt:=aAX ha hr.1.2
 have hC:∀k,k<off v l l.length→Bd (3*C+19) (z k):=fun k hk=>(hz k hk).mono (by omega)
 have b1:Bd (1+(B+9)*12) (rv v l a k):=by
  unfold rv;rw [huk]
  split
  ·exact bj
  ·split
   ·exact bt
   ·split
    ·exact bt.neg
    ·exact Bd.zero.mono (by omega)
 have b2:Bd (3*C+19) (zv v l z k):=by
  unfold zv;rw [huk]
  have hcase:q=0∨q=1∨q=2∨q=3:=by omega
  rcases hcase with rfl|rfl|rfl|rfl
  ·exact Bd.zero.mono (by omega)
  ·have hst:yX v (gH l r)=true:=by rcases h2 with h|h;omega;exact h.1
   have l3:=qK (v:=v) (l:=l) (m:=l.length) (r:=r) (q:=3) h1 (.inr ⟨hst,by omega⟩)
   exact hC _ (by omega)
  ·have hst:yX v (gH l r)=true:=by rcases h2 with h|h;omega;exact h.1
   have l3:=qK (v:=v) (l:=l) (m:=l.length) (r:=r) (q:=3) h1 (.inr ⟨hst,by omega⟩)
   exact hC _ (by omega)
  ·exact((hr.2.mul (hz (k-3) (by omega))).sub ((hz (k-2) (by omega)).add (hz (k-1) (by omega)))).mono (by omega)
 exact(b1.add b2).mono (by omega)
end Go.Proofs.YtcjdedkdoagifaaGreat
set_option linter.unusedVariables false
namespace Go.Proofs.YtcjdedkdoagifaaGreat
theorem aKQ {d:List aG} {f:Nat→Rat} {v:List Rat} {l:List aA} {z:Nat→Rat} {A C:Nat} (hd:∀x∈d,Bd 8 x.inv) (hn:d.length≤100) (hf:∀j,j<d.length→Bd A (f j)) (hv:vQ 64 v) (hl:RsC l) (hr:InR d.length l) (hll:l.length≤100) (hz:∀k,k<off v l l.length→Bd C (z k)) (hA:A≤1000000) (hC:(2*C+20)*24*l.length≤5000000) (hC2:C≤100000000) {K:Nat} (hK:5000≤K):
  mU K d (mp f d.length) v l (mp z (off v l l.length))=some (mp (vl v l (mp (acc d f l (pz v l z)) d.length) z) (off v l l.length)):=by
 have hp:=aEW hz hl
 have hrb:RsB l:=fun r h=>(hl r h).1
 have hcl:(2*C+11+9)*24*l.length≤5000000:=hC
 have e1:=aEU hv hl hz (by omega) (by omega) hK
 have e2:=aJB (p:=pz v l z) hd (show d.length≤1000 by omega) hf hrb hr (by omega) hp (by omega) (by omega) (show 2000≤K by omega)
 have hb:=aDL (p:=pz v l z) hd hf hrb hr hp (by omega) (by omega) (by omega) (by omega)
 have e3:=aDN (z:=z) hl hb (by unfold aIA;omega) hz hC2 (show l.length≤1000 by omega) (show 13≤K by omega) (off v l l.length) 0 K (by omega) (by have:=rI (v:=v) (l:=l) l.length;omega)
 simp only [Int.natCast_zero,aAl] at e3
 simp only [mU,e1,oB,e2,xA hv hrb (show l.length≤1000 by omega) (show 2000≤K by omega),e3,tY]
theorem aOq {f g:Nat→Rat} {n:Nat} (t:aE):trm (mp (fun j=>f j+g j) n) t=trm (mp f n) t+trm (mp g n) t:=by
 unfold trm
 rw [bF,bF,bF]
 by_cases h:0≤t.dof∧t.dof<(n:Int)
 ·rw [decide_eq_true h]
  show t.k*oA _ _=t.k*oA _ _+t.k*oA _ _
  rw [aAp (by omega),aAp (by omega),aAp (by omega),Rat.mul_add]
 ·rw [decide_eq_false h];exact(Rat.add_zero 0).symm
theorem add4 (x y a b:Rat):x+y+(a+b)=x+a+(y+b):=by
 rw [Rat.add_assoc,←Rat.add_assoc y,Rat.add_comm y a,Rat.add_assoc a,←Rat.add_assoc]
theorem aJt {f g:Nat→Rat} {n:Nat}:∀(l:List aE) (x y:Rat),rtf (mp (fun j=>f j+g j) n) l (x+y)=rtf (mp f n) l x+rtf (mp g n) l y
 |[],x,y=>rfl
 |t::l,x,y=>by
  show rtf _ l (x+y+trm _ t)=rtf _ l (x+trm _ t)+rtf _ l (y+trm _ t)
  rw [aOq,←aJt l,add4]
theorem aIY {f g:Nat→Rat} {n:Nat} (l:List aE):rt l (mp (fun j=>f j+g j) n)=rt l (mp f n)+rt l (mp g n):=by
 have:=aJt (f:=f) (g:=g) (n:=n) l 0 0
 rwa [Rat.add_zero] at this
theorem aIp {v:List Rat} {l:List aA} {f g:Nat→Rat} {n k:Nat}:rv v l (mp (fun j=>f j+g j) n) k=rv v l (mp f n) k+rv v l (mp g n) k:=by
 unfold rv
 split
 ·exact aIY _
 ·split
  ·exact aIY _
  ·split
   ·rw [aIY,Rat.neg_add]
   ·exact(Rat.add_zero 0).symm
theorem aDI {n:Nat}:∀(l:List aE) (x:Rat),rtf (mp (fun _=>(0:Rat)) n) l x=x
 |[],x=>rfl
 |t::l,x=>by
  show rtf _ l (x+trm _ t)=x
  have:trm (mp (fun _=>(0:Rat)) n) t=0:=by
   unfold trm
   rw [bF]
   by_cases h:0≤t.dof∧t.dof<(n:Int)
   ·rw [decide_eq_true h];show t.k*oA _ _=0;rw [aAp (by omega),Rat.mul_zero]
   ·rw [decide_eq_false h];rfl
  rw [this,Rat.add_zero]
  exact aDI l x
theorem aOg {v:List Rat} {l:List aA} {n k:Nat}:rv v l (mp (fun _=>(0:Rat)) n) k=0:=by
 unfold rv rt
 rw [aDI,aDI]
 split
 ·rfl
 ·split
  ·rfl
  ·split<;>rfl
def p0:Nat→aF:=fun _=>⟨0,0⟩
def z0:Nat→Rat:=fun _=>0
theorem aCM {l:List aA} {j:Nat}:∀m,ptot l p0 m j=0
 |0=>rfl
 |m+1=>by
  show ptot l p0 m j+rcq l p0 m j=0
  rw [aCM m]
  unfold rcq
  show(0:Rat)+(cf _ _*0+cf _ _*0)=0
  rw [Rat.mul_zero,Rat.mul_zero,Rat.add_zero,Rat.add_zero]
theorem aE0 {d:List aG} {f:Nat→Rat} {l:List aA} {p:Nat→aF}:acc d f l p=fun j=>acc d f l p0 j+acc d z0 l p j:=by
 funext j
 unfold acc z0
 rw [aCM,Rat.add_zero,Rat.zero_add,←Rat.add_mul]
theorem aEE {l:List aA} {p q:Nat→aF} {j:Nat}:∀m,(∀r,r<m→p r=q r)→ptot l p m j=ptot l q m j
 |0,_=>rfl
 |m+1,h=>by
  show ptot l p m j+rcq l p m j=ptot l q m j+rcq l q m j
  rw [aEE m fun r hr=>h r (by omega)]
  unfold rcq
  rw [h m (by omega)]
theorem aFo {d:List aG} {f:Nat→Rat} {l:List aA} {p q:Nat→aF} (h:∀r,r<l.length→p r=q r):acc d f l p=acc d f l q:=by
 funext j
 unfold acc
 rw [aEE _ h]
theorem aMz {d:List aG} {l:List aA}:acc d z0 l p0=fun _=>0:=by
 funext j
 unfold acc z0
 rw [aCM,Rat.add_zero,Rat.zero_mul]
theorem aJZ {v:List Rat} {l:List aA} {i:Nat}:pz v l z0 i=⟨0,0⟩:=by
 unfold pz z0
 split
 ·rfl
 ·split
  ·rw [Rat.mul_zero,Rat.mul_zero]
  ·rw [Rat.sub_self]
theorem aOv {v:List Rat} {l:List aA} {k:Nat}:zv v l z0 k=0:=by
 unfold zv z0
 split
 ·rfl
 ·split
  ·rfl
  ·split
   ·rfl
   ·rw [Rat.mul_zero,Rat.add_zero,Rat.sub_self]
def ek (k:Nat):Nat→Rat:=gI z0 k 1
def Mf (d:List aG) (v:List Rat) (l:List aA) (i k:Nat):Rat:=rv v l (mp (acc d z0 l (pz v l (ek k))) d.length) i+zv v l (ek k) i
def qf (d:List aG) (f:Nat→Rat) (v:List Rat) (l:List aA) (i:Nat):Rat:=rv v l (mp (acc d f l p0) d.length) i
theorem aF8 {d:List aG} {f:Nat→Rat} {v:List Rat} {l:List aA} {n i:Nat}:vl v l (mp (acc d f l (pz v l z0)) d.length) z0 i=qf d f v l i:=by
 unfold vl qf
 rw [aOv,Rat.add_zero,aFo (q:=p0) fun r _=>aJZ]
theorem aLK {d:List aG} {f:Nat→Rat} {v:List Rat} {l:List aA} {k i:Nat}:vl v l (mp (acc d f l (pz v l (ek k))) d.length) (ek k) i-qf d f v l i=Mf d v l i k:=by
 unfold vl qf Mf
 rw [aE0,aIp]
 generalize rv v l (mp (acc d f l p0) d.length) i=a
 generalize rv v l (mp (acc d z0 l (pz v l (ek k))) d.length) i=b
 generalize zv v l (ek k) i=c
 rw [Rat.add_assoc,Rat.sub_eq_add_neg,Rat.add_comm a,Rat.add_assoc,Rat.add_neg_cancel,Rat.add_zero]
theorem aKq {k j:Nat}:Bd 1 (ek k j):=by
 unfold ek gI z0
 split
 ·constructor<;>decide
 ·exact Bd.zero
structure ScB (d:List aG) (f v:List Rat) (l:List aA):Prop where
 sb:SB d f v l
 n8:d.length≤12
 m8:l.length≤8
 ir:InR d.length l
 fl:f.length=d.length
theorem aOc {d:List aG} {f v:List Rat} {l:List aA} (h:SB d f v l) (hm:l.length≤8) (hf:aAV d f v l=true):ScB d f v l:=by
 unfold aAV at hf
 rw [Bool.and_eq_true,Bool.and_eq_true] at hf
 have h1:=of_decide_eq_true hf.1.1
 refine⟨h,h1.1,hm,fun r hr=>?_,h1.2.1⟩
 have h2:=List.all_eq_true.1 hf.2 r hr
 unfold zN at h2
 rw [Bool.and_eq_true,Bool.and_eq_true,Bool.and_eq_true] at h2
 exact⟨aLi h2.1.1.1,aLi h2.1.1.2⟩
theorem ScB.fbd {d:List aG} {f v:List Rat} {l:List aA} (h:ScB d f v l):∀j,j<d.length→Bd 64 (oA f j):=fun j hj=>h.sb.sf _ (wI (by rw [h.fl];exact hj))
theorem ScB.fmp {d:List aG} {f v:List Rat} {l:List aA} (h:ScB d f v l):f=mp (oA f) d.length:=by rw [←h.fl];exact aMd f
theorem bd8 {C m:Nat} (hC:C≤1) (hm:m≤8):(2*C+20)*24*m≤5000000:=Nat.le_trans (Nat.mul_le_mul (Nat.mul_le_mul_right 24 (show 2*C+20≤22 by omega)) hm) (by decide)
theorem ScB.vals {d:List aG} {f v:List Rat} {l:List aA} (h:ScB d f v l) {z:Nat→Rat} (hz:∀k,Bd 1 (z k)) {K:Nat} (hK:5000≤K):mU K d f v l (mp z (off v l l.length))=some (mp (vl v l (mp (acc d (oA f) l (pz v l z)) d.length) z) (off v l l.length)):=by
 have h8:=h.m8
 have hn:=h.n8
 have:=aKQ (z:=z) h.sb.sd (by omega) h.fbd h.sb.sv h.sb.sl h.ir (by omega) (fun k _=>hz k) (by omega) (bd8 (Nat.le_refl 1) h8) (by omega) hK
 rwa [←h.fmp] at this
theorem ScB.vbd {d:List aG} {f v:List Rat} {l:List aA} (h:ScB d f v l) {z:Nat→Rat} (hz:∀k,Bd 1 (z k)) {k:Nat} (hk:k<off v l l.length):Bd 100000 (vl v l (mp (acc d (oA f) l (pz v l z)) d.length) z k):=by
 have h8:=h.m8
 have hn:=h.n8
 have hp:=aEW (l:=l) (v:=v) (z:=z) (C:=1) (fun k _=>hz k) h.sb.sl
 have hb:=aDL (p:=pz v l z) h.sb.sd h.fbd (fun r hr=>(h.sb.sl r hr).1) h.ir hp (by omega) (by omega) (by omega) (Nat.le_trans (bd8 (C:=1) (Nat.le_refl 1) h8) (by decide))
 exact(aR7 h.sb.sl hb (fun k _=>hz k) hk).mono (by unfold aIA;omega)
theorem aNl {v:List Rat} {l:List aA} {w q:Nat→Rat} {m:Nat} (hm:m≤100) (hw:∀i,i<off v l m→Bd 100000 (w i)) (hq:∀i,i<off v l m→Bd 100000 (q i)) (K:Nat):∀(t i k:Nat),i+t=off v l m→t<k→jG K ((yB v l m).map ru) (mp q (off v l m)) (mp w (off v l m)) k (mp (fun i=>w i-q i) i) (i:Int)=some (mp (fun i=>w i-q i) (off v l m))
 |0,i,k,hi,hk=>by
  obtain⟨k',rfl,_⟩:=a8 hk
  have e:i=off v l m:=by omega
  subst e
  simp only [jG,aAM,dF (show¬(off v l m:Int)<(off v l m:Int) by omega),bO]
 |t+1,i,k,hi,hk=>by
  obtain⟨k',rfl,_⟩:=a8 hk
  have hil:i<off v l m:=by omega
  have h4:=rI (v:=v) (l:=l) m
  simp only [jG,aAM,dT (show(i:Int)<(off v l m:Int) by omega),bT,dV (f:=w) hil,dV (f:=q) hil,oB,aAg (hw i hil) (hq i hil) (by omega) (by omega),apM (g:=fun i=>w i-q i) (i:=i) (by omega),mS (i:=i) (by omega)]
  exact aNl hm hw hq K t (i+1) k' (by omega) (by omega)
theorem aG6:qof 1 1=some 1:=by rw [aIo (by omega) (by omega),aQF]
theorem aMO {d:List aG} {f v:List Rat} {l:List aA} (h:ScB d f v l) {K:Nat} (hK:5000≤K):∀(t i k:Nat),i+t=off v l l.length→t<k→jI K d f v l ((yB v l l.length).map ru) (mp (qf d (oA f) v l) (off v l l.length)) k (mx (tr (Mf d v l)) i (off v l l.length)) (i:Int)=some (mx (tr (Mf d v l)) (off v l l.length) (off v l l.length))
 |0,i,k,hi,hk=>by
  obtain⟨k',rfl,_⟩:=a8 hk
  have e:i=off v l l.length:=by omega
  rw [e]
  simp only [jI,aAM,dF (show¬(off v l l.length:Int)<(off v l l.length:Int) by omega),bO]
 |t+1,i,k,hi,hk=>by
  obtain⟨k',rfl,_⟩:=a8 hk
  have hil:i<off v l l.length:=by omega
  have h8:=h.m8
  have h4:=rI (v:=v) (l:=l) l.length
  have e1:nU (mp (fun _=>(0:Rat)) (off v l l.length)) (i:Int) 1=some (mp (ek i) (off v l l.length)):=rX (f:=z0) hil
  have e2:=aNl (v:=v) (l:=l) (m:=l.length) (w:=vl v l (mp (acc d (oA f) l (pz v l (ek i))) d.length) (ek i)) (q:=qf d (oA f) v l) (by omega) (fun j hj=>h.vbd (fun _=>aKq) hj) (fun j hj=>by rw [←aF8 (n:=0)];exact h.vbd (z:=z0) (fun _=>Bd.zero) hj) K (off v l l.length) 0 K (by omega) (by omega)
  simp only [Int.natCast_zero,aAl] at e2
  have e3:mp (fun j=>vl v l (mp (acc d (oA f) l (pz v l (ek i))) d.length) (ek i) j-qf d (oA f) v l j) (off v l l.length)=mp (tr (Mf d v l) i) (off v l l.length):=bZ fun j _=>aLK
  rw [e3] at e2
  have e4:qD (mx (tr (Mf d v l)) i (off v l l.length)) [mp (tr (Mf d v l) i) (off v l l.length)]=some (mx (tr (Mf d v l)) (i+1) (off v l l.length)):=apM (g:=fun i=>mp (tr (Mf d v l) i) (off v l l.length)) (by omega)
  simp only [jI,aAM,dT (show(i:Int)<(off v l l.length:Int) by omega),bT,aBx (z:=(0:Rat)) (n:=off v l l.length) (by omega),aG6,dV (f:=fun _=>(0:Rat)) hil,oB,e1,h.vals (z:=ek i) (fun _=>aKq) hK,e2,tE,e4,mS (i:=i) (by omega)]
  exact aMO h hK t (i+1) k' (by omega) (by omega)
theorem aSq (g:Nat→Nat→Rat):tr (tr g)=g:=rfl
theorem aGP {d:List aG} {f v:List Rat} {l:List aA} (h:ScB d f v l) (hf:aAV d f v l=true) {K:Nat} (hK:5000≤K):rS K d f v l=some (mx (Mf d v l) (off v l l.length) (off v l l.length),mp (qf d (oA f) v l) (off v l l.length)):=by
 have h8:=h.m8
 have h4:=rI (v:=v) (l:=l) l.length
 have e1:=h.vals (z:=z0) (fun _=>Bd.zero) hK
 have e2:mp (vl v l (mp (acc d (oA f) l (pz v l z0)) d.length) z0) (off v l l.length)=mp (qf d (oA f) v l) (off v l l.length):=bZ fun j _=>aF8 (n:=0)
 have e3:mp (fun _=>(0:Rat)) (off v l l.length)=mp z0 (off v l l.length):=rfl
 have e4:=aMO h hK (off v l l.length) 0 K (by omega) (by omega)
 have e5:mx (tr (Mf d v l)) 0 (off v l l.length)=[]:=rfl
 rw [e5] at e4
 simp only [Int.natCast_zero] at e4
 have e6:=aMk (g:=tr (Mf d v l)) (h:=off v l l.length) (w:=off v l l.length) (fun h=>h) (by omega) (by omega) (K:=K) (by omega)
 simp only [rS,aIk h.sb (show 200≤K by omega),hf,oB,Bool.not_true,bO,xA h.sb.sv (fun r hr=>(h.sb.sl r hr).1) (show l.length≤1000 by omega) (show 2000≤K by omega),aAM,aBx (z:=(0:Rat)) (n:=off v l l.length) (by omega),e3,e1,e2,e4,tD,e6,aSq]
end Go.Proofs.YtcjdedkdoagifaaGreat
