/- Texts of the proof, part 4: Q1. -/
import Derived.Test.YtldhbdgfpjoamaaGreatZ3
set_option linter.unusedSimpArgs false
set_option linter.unusedVariables false
set_option maxRecDepth 100000
namespace Go.Proofs.YtldhbdgfpjoamaaGreat
structure aJe where
 dof:Int
 k:Rat
noncomputable def aJe.enc (x:aJe):List CP:=[pI .i64 x.dof]++(eQ x.k)
noncomputable def aJe.cod:Cd aJe:=⟨5,aJe.enc,fun _=>rfl⟩
structure aJT where
 n:Int
 rows:List (List Rat)
 basic:List Int
noncomputable def aJT.enc (x:aJT):List CP:=[pI .i64 x.n]++[pS (kK cQ) x.rows]++[pS cI x.basic]
noncomputable def aJT.cod:Cd aJT:=⟨3,aJT.enc,fun _=>rfl⟩
structure aKe where
 row:Int
 kind:Int
noncomputable def aKe.enc (x:aKe):List CP:=[pI .i64 x.row]++[pI .i64 x.kind]
noncomputable def aKe.cod:Cd aKe:=⟨2,aKe.enc,fun _=>rfl⟩
structure aJd where
 rows:List (List Rat)
 pivots:List Int
 det:Rat
noncomputable def aJd.enc (x:aJd):List CP:=[pS (kK cQ) x.rows]++[pS cI x.pivots]++(eQ x.det)
noncomputable def aJd.cod:Cd aJd:=⟨6,aJd.enc,fun _=>rfl⟩
structure aD where
 inv:Rat
 load:Rat
 bound:Bool
 lo:Rat
 hi:Rat
noncomputable def aD.enc (x:aD):List CP:=(eQ x.inv)++(eQ x.load)++[pB x.bound]++(eQ x.lo)++(eQ x.hi)
noncomputable def aD.cod:Cd aD:=⟨17,aD.enc,fun _=>rfl⟩
structure aE where
 dof:Int
 k:Rat
noncomputable def aE.enc (x:aE):List CP:=[pI .i64 x.dof]++(eQ x.k)
noncomputable def aE.cod:Cd aE:=⟨5,aE.enc,fun _=>rfl⟩
structure aA where
 kind:Int
 a:Int
 b:Int
 edge:Int
 gap:Rat
 j:List aE
 t:List aE
 mu:Rat
 e:Rat
noncomputable def aA.enc (x:aA):List CP:=[pI .i64 x.kind]++[pI .i64 x.a]++[pI .i64 x.b]++[pI .i64 x.edge]++(eQ x.gap)++[pS aE.cod x.j]++[pS aE.cod x.t]++(eQ x.mu)++(eQ x.e)
noncomputable def aA.cod:Cd aA:=⟨18,aA.enc,fun _=>rfl⟩
structure aPu where
 dofs:List aD
 load:List Rat
 v:List Rat
 rows:List aA
noncomputable def aPu.enc (x:aPu):List CP:=[pS aD.cod x.dofs]++[pS cQ x.load]++[pS cQ x.v]++[pS aA.cod x.rows]
noncomputable def aPu.cod:Cd aPu:=⟨4,aPu.enc,fun _=>rfl⟩
structure aO7 where
 inv:Rat
 load:Rat
 bound:Bool
 lo:Rat
 hi:Rat
noncomputable def aO7.enc (x:aO7):List CP:=(eQ x.inv)++(eQ x.load)++[pB x.bound]++(eQ x.lo)++(eQ x.hi)
noncomputable def aO7.cod:Cd aO7:=⟨17,aO7.enc,fun _=>rfl⟩
structure aO3 where
 tick:Int
 q:List Rat
 v:List Rat
 here:List Bool
noncomputable def aO3.enc (x:aO3):List CP:=[pI .i64 x.tick]++[pS cQ x.q]++[pS cQ x.v]++[pS cB x.here]
noncomputable def aO3.cod:Cd aO3:=⟨4,aO3.enc,fun _=>rfl⟩
structure y6 where
 x:Int
 y:Int
noncomputable def y6.enc (x:y6):List CP:=[pI .i64 x.x]++[pI .i64 x.y]
noncomputable def y6.cod:Cd y6:=⟨2,y6.enc,fun _=>rfl⟩
structure xS where
 x:Rat
 y:Rat
noncomputable def xS.enc (x:xS):List CP:=(eQ x.x)++(eQ x.y)
noncomputable def xS.cod:Cd xS:=⟨8,xS.enc,fun _=>rfl⟩
structure wX where
 dof:Int
 x:Rat
 y:Rat
 s:Rat
noncomputable def wX.enc (x:wX):List CP:=[pI .i64 x.dof]++(eQ x.x)++(eQ x.y)++(eQ x.s)
noncomputable def wX.cod:Cd wX:=⟨13,wX.enc,fun _=>rfl⟩
structure iN where
 shape:List y6
 home:xS
 cols:List wX
 rough:Rat
 bounce:Rat
noncomputable def iN.enc (x:iN):List CP:=[pS y6.cod x.shape]++(xS.enc x.home)++[pS wX.cod x.cols]++(eQ x.rough)++(eQ x.bounce)
noncomputable def iN.cod:Cd iN:=⟨18,iN.enc,fun _=>rfl⟩
structure aBN where
 x:Int
 y:Int
 h:Int
noncomputable def aBN.enc (x:aBN):List CP:=[pI .i64 x.x]++[pI .i64 x.y]++[pI .i64 x.h]
noncomputable def aBN.cod:Cd aBN:=⟨3,aBN.enc,fun _=>rfl⟩
structure iO where
 a:Int
 b:Int
 from':xS
 to:xS
 dirs:List aBN
 length:Rat
noncomputable def iO.enc (x:iO):List CP:=[pI .i64 x.a]++[pI .i64 x.b]++(xS.enc x.from')++(xS.enc x.to)++[pS aBN.cod x.dirs]++(eQ x.length)
noncomputable def iO.cod:Cd iO:=⟨23,iO.enc,fun _=>rfl⟩
structure aPa where
 dofs:List aD
 parts:List iN
 ropes:List iO
 skip:List (Int×Int)
noncomputable def aPa.enc (x:aPa):List CP:=[pS aD.cod x.dofs]++[pS iN.cod x.parts]++[pS iO.cod x.ropes]++[pS cA2 x.skip]
noncomputable def aPa.cod:Cd aPa:=⟨4,aPa.enc,fun _=>rfl⟩
structure aOb where
 kind:Int
 a:Int
 b:Int
 edge:Int
 gap:Rat
 j:List aE
 t:List aE
 mu:Rat
 e:Rat
noncomputable def aOb.enc (x:aOb):List CP:=[pI .i64 x.kind]++[pI .i64 x.a]++[pI .i64 x.b]++[pI .i64 x.edge]++(eQ x.gap)++[pS aE.cod x.j]++[pS aE.cod x.t]++(eQ x.mu)++(eQ x.e)
noncomputable def aOb.cod:Cd aOb:=⟨18,aOb.enc,fun _=>rfl⟩
structure aNR where
 n:Rat
 f:Rat
noncomputable def aNR.enc (x:aNR):List CP:=(eQ x.n)++(eQ x.f)
noncomputable def aNR.cod:Cd aNR:=⟨8,aNR.enc,fun _=>rfl⟩
structure aOV where
 z:List Rat
 w:List Rat
 pivots:Int
noncomputable def aOV.enc (x:aOV):List CP:=[pS cQ x.z]++[pS cQ x.w]++[pI .i64 x.pivots]
noncomputable def aOV.cod:Cd aOV:=⟨3,aOV.enc,fun _=>rfl⟩
structure aP3 where
 dofs:List aD
 load:List Rat
 v:List Rat
 rows:List aA
noncomputable def aP3.enc (x:aP3):List CP:=[pS aD.cod x.dofs]++[pS cQ x.load]++[pS cQ x.v]++[pS aA.cod x.rows]
noncomputable def aP3.cod:Cd aP3:=⟨4,aP3.enc,fun _=>rfl⟩
structure aOB where
 row:Int
 kind:Int
noncomputable def aOB.enc (x:aOB):List CP:=[pI .i64 x.row]++[pI .i64 x.kind]
noncomputable def aOB.cod:Cd aOB:=⟨2,aOB.enc,fun _=>rfl⟩
structure aN9 where
 n:Int
 of:(Int→Option Rat)
noncomputable def aN9.enc (x:aN9):List CP:=[pI .i64 x.n]++[pFn Tryz.prog (fun x:Int=>[.vc (pI .i64 x)]) (fun r:Rat=>.va (eQ r)) x.of]
noncomputable def aN9.cod:Cd aN9:=⟨2,aN9.enc,fun _=>rfl⟩
structure aW where
 z:List Rat
 w:List Rat
 pivots:Int
noncomputable def aW.enc (x:aW):List CP:=[pS cQ x.z]++[pS cQ x.w]++[pI .i64 x.pivots]
noncomputable def aW.cod:Cd aW:=⟨3,aW.enc,fun _=>rfl⟩
structure kY where
 dofs:List aD
 parts:List iN
 ropes:List iO
 skip:List (Int×Int)
noncomputable def kY.enc (x:kY):List CP:=[pS aD.cod x.dofs]++[pS iN.cod x.parts]++[pS iO.cod x.ropes]++[pS cA2 x.skip]
noncomputable def kY.cod:Cd kY:=⟨4,kY.enc,fun _=>rfl⟩
structure aI where
 n:Rat
 f:Rat
noncomputable def aI.enc (x:aI):List CP:=(eQ x.n)++(eQ x.f)
noncomputable def aI.cod:Cd aI:=⟨8,aI.enc,fun _=>rfl⟩
structure a8 where
 tick:Int
 q:List Rat
 v:List Rat
 here:List Bool
noncomputable def a8.enc (x:a8):List CP:=[pI .i64 x.tick]++[pS cQ x.q]++[pS cQ x.v]++[pS cB x.here]
noncomputable def a8.cod:Cd a8:=⟨4,a8.enc,fun _=>rfl⟩
structure qC where
 n:Int
 rows:List (List Rat)
 basic:List Int
noncomputable def qC.enc (x:qC):List CP:=[pI .i64 x.n]++[pS (kK cQ) x.rows]++[pS cI x.basic]
noncomputable def qC.cod:Cd qC:=⟨3,qC.enc,fun _=>rfl⟩
structure aP where
 n:Int
 of:(Int→Option Rat)
noncomputable def aP.enc (x:aP):List CP:=[pI .i64 x.n]++[pFn Tryz.prog (fun x:Int=>[.vc (pI .i64 x)]) (fun r:Rat=>.va (eQ r)) x.of]
noncomputable def aP.cod:Cd aP:=⟨2,aP.enc,fun _=>rfl⟩
structure bH where
 dofs:List aD
 load:List Rat
 v:List Rat
 rows:List aA
noncomputable def bH.enc (x:bH):List CP:=[pS aD.cod x.dofs]++[pS cQ x.load]++[pS cQ x.v]++[pS aA.cod x.rows]
noncomputable def bH.cod:Cd bH:=⟨4,bH.enc,fun _=>rfl⟩
structure aY where
 row:Int
 kind:Int
noncomputable def aY.enc (x:aY):List CP:=[pI .i64 x.row]++[pI .i64 x.kind]
noncomputable def aY.cod:Cd aY:=⟨2,aY.enc,fun _=>rfl⟩
structure iV where
 rows:List (List Rat)
 pivots:List Int
 det:Rat
noncomputable def iV.enc (x:iV):List CP:=[pS (kK cQ) x.rows]++[pS cI x.pivots]++(eQ x.det)
noncomputable def iV.cod:Cd iV:=⟨6,iV.enc,fun _=>rfl⟩
structure aF where
 dofs:List aD
 load:List Rat
 v:List Rat
 rows:List aA
noncomputable def aF.enc (x:aF):List CP:=[pS aD.cod x.dofs]++[pS cQ x.load]++[pS cQ x.v]++[pS aA.cod x.rows]
noncomputable def aF.cod:Cd aF:=⟨4,aF.enc,fun _=>rfl⟩
structure aC where
 row:Int
 kind:Int
noncomputable def aC.enc (x:aC):List CP:=[pI .i64 x.row]++[pI .i64 x.kind]
noncomputable def aC.cod:Cd aC:=⟨2,aC.enc,fun _=>rfl⟩
instance tyA104:TyA Tryz.prog 104 5:=mkA Tryz.underlying104 rfl (by kernel_rfl)
instance tyA178:TyA Tryz.prog 178 6:=mkA Tryz.underlying178 rfl (by kernel_rfl)
instance tyA27:TyA Tryz.prog 27 4:=mkA Tryz.underlying27 rfl (by kernel_rfl)
instance tyA36:TyA Tryz.prog 36 17:=mkA Tryz.underlying36 rfl (by kernel_rfl)
instance tyA41:TyA Tryz.prog 41 4:=mkA Tryz.underlying41 rfl (by kernel_rfl)
instance tyA46:TyA Tryz.prog 46 4:=mkA Tryz.underlying46 rfl (by kernel_rfl)
instance tyA49:TyA Tryz.prog 49 18:=mkA Tryz.underlying49 rfl (by kernel_rfl)
instance tyA70:TyA Tryz.prog 70 8:=mkA Tryz.underlying70 rfl (by kernel_rfl)
instance tyA78:TyA Tryz.prog 78 3:=mkA Tryz.underlying78 rfl (by kernel_rfl)
instance tyA86:TyA Tryz.prog 86 4:=mkA Tryz.underlying86 rfl (by kernel_rfl)
instance tyA91:TyA Tryz.prog 91 2:=mkA Tryz.underlying91 rfl (by kernel_rfl)
instance tyA98:TyA Tryz.prog 98 2:=mkA Tryz.underlying98 rfl (by kernel_rfl)
theorem tyB104q:TyB Tryz.prog 104 [(0,1),(1,4)] ([pI .i64 0]++(eQ 0)):=mkB (z:=.agg #[.int .i64 0,.bool false,.slice none 0 0,.bool false,.slice none 0 0]) (by kernel_rfl) Tryz.underlying104 (by kernel_rfl) (fun M=>aX.app (show aX M [pI .i64 0] [.int .i64 0] from zU1) (eQ0 M))
theorem tyB138_o1_o2q:TyB Tryz.prog 138 [(0,1),(1,1),(2,1)] ([pI .i64 0]++[pO none 0 0]++[pO none 0 0]):=mkB (z:=.agg #[.int .i64 0,.slice none 0 0,.slice none 0 0]) (by kernel_rfl) Tryz.underlying138 (by kernel_rfl) (fun M=>aX.app (aX.app (show aX M [pI .i64 0] [.int .i64 0] from zU1) (show aX M [pO none 0 0] [.slice none 0 0] from⟨.inl rfl,trivial⟩)) (show aX M [pO none 0 0] [.slice none 0 0] from⟨.inl rfl,trivial⟩))
theorem tyB178_o0_o1q:TyB Tryz.prog 178 [(0,1),(1,1),(2,4)] ([pO none 0 0]++[pO none 0 0]++(eQ 0)):=mkB (z:=.agg #[.slice none 0 0,.slice none 0 0,.bool false,.slice none 0 0,.bool false,.slice none 0 0]) (by kernel_rfl) Tryz.underlying178 (by kernel_rfl) (fun M=>aX.app (aX.app (show aX M [pO none 0 0] [.slice none 0 0] from⟨.inl rfl,trivial⟩) (show aX M [pO none 0 0] [.slice none 0 0] from⟨.inl rfl,trivial⟩)) (eQ0 M))
theorem tyB32q:TyB Tryz.prog 32 [(0,2),(2,2)] (eQ 0):=mkB (z:=.agg #[.bool false,.slice none 0 0,.bool false,.slice none 0 0]) (by kernel_rfl) Tryz.underlying32 (by kernel_rfl) (fun M=>eQ0 M)
theorem tyB36q:TyB Tryz.prog 36 [(0,4),(4,4),(8,1),(9,4),(13,4)] ((eQ 0)++(eQ 0)++[pB false]++(eQ 0)++(eQ 0)):=mkB (z:=.agg #[.bool false,.slice none 0 0,.bool false,.slice none 0 0,.bool false,.slice none 0 0,.bool false,.slice none 0 0,.bool false,.bool false,.slice none 0 0,.bool false,.slice none 0 0,.bool false,.slice none 0 0,.bool false,.slice none 0 0]) (by kernel_rfl) Tryz.underlying36 (by kernel_rfl) (fun M=>aX.app (aX.app (aX.app (aX.app (eQ0 M) (eQ0 M)) (show aX M [pB false] [.bool false] from zU1)) (eQ0 M)) (eQ0 M))
theorem tyB41q:TyB Tryz.prog 41 [(0,1),(1,1),(2,1),(3,1)] ([pI .i64 0]++[pS cQ ([]:List Rat)]++[pS cQ ([]:List Rat)]++[pS cB ([]:List Bool)]):=mkB (z:=.agg #[.int .i64 0,.slice none 0 0,.slice none 0 0,.slice none 0 0]) (by kernel_rfl) Tryz.underlying41 (by kernel_rfl) (fun M=>aX.app (aX.app (aX.app (show aX M [pI .i64 0] [.int .i64 0] from zU1) (show aX M [pS cQ ([]:List Rat)] [.slice none 0 0] from⟨dA cQ M,trivial⟩)) (show aX M [pS cQ ([]:List Rat)] [.slice none 0 0] from⟨dA cQ M,trivial⟩)) (show aX M [pS cB ([]:List Bool)] [.slice none 0 0] from⟨dA cB M,trivial⟩))
theorem tyB41_o1q:TyB Tryz.prog 41 [(0,1),(1,1),(2,1),(3,1)] ([pI .i64 0]++[pO none 0 0]++[pS cQ ([]:List Rat)]++[pS cB ([]:List Bool)]):=mkB (z:=.agg #[.int .i64 0,.slice none 0 0,.slice none 0 0,.slice none 0 0]) (by kernel_rfl) Tryz.underlying41 (by kernel_rfl) (fun M=>aX.app (aX.app (aX.app (show aX M [pI .i64 0] [.int .i64 0] from zU1) (show aX M [pO none 0 0] [.slice none 0 0] from⟨.inl rfl,trivial⟩)) (show aX M [pS cQ ([]:List Rat)] [.slice none 0 0] from⟨dA cQ M,trivial⟩)) (show aX M [pS cB ([]:List Bool)] [.slice none 0 0] from⟨dA cB M,trivial⟩))
theorem tyB46q:TyB Tryz.prog 46 [(0,1),(1,1),(2,1),(3,1)] ([pS aD.cod ([]:List aD)]++[pS iN.cod ([]:List iN)]++[pS iO.cod ([]:List iO)]++[pS cA2 ([]:List (Int×Int))]):=mkB (z:=.agg #[.slice none 0 0,.slice none 0 0,.slice none 0 0,.slice none 0 0]) (by kernel_rfl) Tryz.underlying46 (by kernel_rfl) (fun M=>aX.app (aX.app (aX.app (show aX M [pS aD.cod ([]:List aD)] [.slice none 0 0] from⟨dA aD.cod M,trivial⟩) (show aX M [pS iN.cod ([]:List iN)] [.slice none 0 0] from⟨dA iN.cod M,trivial⟩)) (show aX M [pS iO.cod ([]:List iO)] [.slice none 0 0] from⟨dA iO.cod M,trivial⟩)) (show aX M [pS cA2 ([]:List (Int×Int))] [.slice none 0 0] from⟨dA cA2 M,trivial⟩))
theorem tyB49q:TyB Tryz.prog 49 [(0,1),(1,1),(2,1),(3,1),(4,4),(8,1),(9,1),(10,4),(14,4)] ([pI .i64 0]++[pI .i64 0]++[pI .i64 0]++[pI .i64 0]++(eQ 0)++[pS aE.cod ([]:List aE)]++[pS aE.cod ([]:List aE)]++(eQ 0)++(eQ 0)):=mkB (z:=.agg #[.int .i64 0,.int .i64 0,.int .i64 0,.int .i64 0,.bool false,.slice none 0 0,.bool false,.slice none 0 0,.slice none 0 0,.slice none 0 0,.bool false,.slice none 0 0,.bool false,.slice none 0 0,.bool false,.slice none 0 0,.bool false,.slice none 0 0]) (by kernel_rfl) Tryz.underlying49 (by kernel_rfl) (fun M=>aX.app (aX.app (aX.app (aX.app (aX.app (aX.app (aX.app (aX.app (show aX M [pI .i64 0] [.int .i64 0] from zU1) (show aX M [pI .i64 0] [.int .i64 0] from zU1)) (show aX M [pI .i64 0] [.int .i64 0] from zU1)) (show aX M [pI .i64 0] [.int .i64 0] from zU1)) (eQ0 M)) (show aX M [pS aE.cod ([]:List aE)] [.slice none 0 0] from⟨dA aE.cod M,trivial⟩)) (show aX M [pS aE.cod ([]:List aE)] [.slice none 0 0] from⟨dA aE.cod M,trivial⟩)) (eQ0 M)) (eQ0 M))
theorem tyB78q:TyB Tryz.prog 78 [(0,1),(1,1),(2,1)] ([pS cQ ([]:List Rat)]++[pS cQ ([]:List Rat)]++[pI .i64 0]):=mkB (z:=.agg #[.slice none 0 0,.slice none 0 0,.int .i64 0]) (by kernel_rfl) Tryz.underlying78 (by kernel_rfl) (fun M=>aX.app (aX.app (show aX M [pS cQ ([]:List Rat)] [.slice none 0 0] from⟨dA cQ M,trivial⟩) (show aX M [pS cQ ([]:List Rat)] [.slice none 0 0] from⟨dA cQ M,trivial⟩)) (show aX M [pI .i64 0] [.int .i64 0] from zU1))
theorem tyB86q:TyB Tryz.prog 86 [(0,1),(1,1),(2,1),(3,1)] ([pS aD.cod ([]:List aD)]++[pS cQ ([]:List Rat)]++[pS cQ ([]:List Rat)]++[pS aA.cod ([]:List aA)]):=mkB (z:=.agg #[.slice none 0 0,.slice none 0 0,.slice none 0 0,.slice none 0 0]) (by kernel_rfl) Tryz.underlying86 (by kernel_rfl) (fun M=>aX.app (aX.app (aX.app (show aX M [pS aD.cod ([]:List aD)] [.slice none 0 0] from⟨dA aD.cod M,trivial⟩) (show aX M [pS cQ ([]:List Rat)] [.slice none 0 0] from⟨dA cQ M,trivial⟩)) (show aX M [pS cQ ([]:List Rat)] [.slice none 0 0] from⟨dA cQ M,trivial⟩)) (show aX M [pS aA.cod ([]:List aA)] [.slice none 0 0] from⟨dA aA.cod M,trivial⟩))
theorem tyB91q:TyB Tryz.prog 91 [(0,1),(1,1)] ([pI .i64 0]++[pI .i64 0]):=mkB (z:=.agg #[.int .i64 0,.int .i64 0]) (by kernel_rfl) Tryz.underlying91 (by kernel_rfl) (fun M=>aX.app (show aX M [pI .i64 0] [.int .i64 0] from zU1) (show aX M [pI .i64 0] [.int .i64 0] from zU1))
theorem tyB98q:TyB Tryz.prog 98 [(0,1),(1,1)] ([pI .i64 0]++[pFn Tryz.prog (fun x:Int=>[.vc (pI .i64 x)]) (fun r:Rat=>.va (eQ r)) (fun _=>none)]):=mkB (z:=.agg #[.int .i64 0,.nilFunc]) (by kernel_rfl) Tryz.underlying98 (by kernel_rfl) (fun M=>aX.app (show aX M [pI .i64 0] [.int .i64 0] from zU1) (show aX M [pFn Tryz.prog (fun x:Int=>[.vc (pI .i64 x)]) (fun r:Rat=>.va (eQ r)) (fun _=>none)] [.nilFunc] from⟨aMb _ _ M,trivial⟩))
instance tyF104_0:TyF Tryz.prog 104 0 0:=mkF (ft:=3) (k:=0) Tryz.underlying104 rfl rfl rfl (by kernel_rfl)
instance tyF104_1:TyF Tryz.prog 104 1 1:=mkF (ft:=32) (k:=3) Tryz.underlying104 rfl rfl rfl (by kernel_rfl)
instance tyF138_0:TyF Tryz.prog 138 0 0:=mkF (ft:=3) (k:=0) Tryz.underlying138 rfl rfl rfl (by kernel_rfl)
instance tyF138_1:TyF Tryz.prog 138 1 1:=mkF (ft:=74) (k:=0) Tryz.underlying138 rfl rfl rfl (by kernel_rfl)
instance tyF138_2:TyF Tryz.prog 138 2 2:=mkF (ft:=22) (k:=0) Tryz.underlying138 rfl rfl rfl (by kernel_rfl)
instance tyF141_0:TyF Tryz.prog 141 0 0:=mkF (ft:=3) (k:=0) Tryz.underlying141 rfl rfl rfl (by kernel_rfl)
instance tyF141_1:TyF Tryz.prog 141 1 1:=mkF (ft:=3) (k:=0) Tryz.underlying141 rfl rfl rfl (by kernel_rfl)
instance tyF178_0:TyF Tryz.prog 178 0 0:=mkF (ft:=74) (k:=0) Tryz.underlying178 rfl rfl rfl (by kernel_rfl)
instance tyF178_1:TyF Tryz.prog 178 1 1:=mkF (ft:=22) (k:=0) Tryz.underlying178 rfl rfl rfl (by kernel_rfl)
instance tyF178_2:TyF Tryz.prog 178 2 2:=mkF (ft:=32) (k:=3) Tryz.underlying178 rfl rfl rfl (by kernel_rfl)
instance tyF27_0:TyF Tryz.prog 27 0 0:=mkF (ft:=23) (k:=0) Tryz.underlying27 rfl rfl rfl (by kernel_rfl)
instance tyF27_1:TyF Tryz.prog 27 1 1:=mkF (ft:=24) (k:=0) Tryz.underlying27 rfl rfl rfl (by kernel_rfl)
instance tyF27_2:TyF Tryz.prog 27 2 2:=mkF (ft:=24) (k:=0) Tryz.underlying27 rfl rfl rfl (by kernel_rfl)
instance tyF27_3:TyF Tryz.prog 27 3 3:=mkF (ft:=25) (k:=0) Tryz.underlying27 rfl rfl rfl (by kernel_rfl)
instance tyF36_0:TyF Tryz.prog 36 0 0:=mkF (ft:=32) (k:=3) Tryz.underlying36 rfl rfl rfl (by kernel_rfl)
instance tyF36_1:TyF Tryz.prog 36 1 4:=mkF (ft:=32) (k:=3) Tryz.underlying36 rfl rfl rfl (by kernel_rfl)
instance tyF41_0:TyF Tryz.prog 41 0 0:=mkF (ft:=3) (k:=0) Tryz.underlying41 rfl rfl rfl (by kernel_rfl)
instance tyF41_1:TyF Tryz.prog 41 1 1:=mkF (ft:=24) (k:=0) Tryz.underlying41 rfl rfl rfl (by kernel_rfl)
instance tyF41_2:TyF Tryz.prog 41 2 2:=mkF (ft:=24) (k:=0) Tryz.underlying41 rfl rfl rfl (by kernel_rfl)
instance tyF41_3:TyF Tryz.prog 41 3 3:=mkF (ft:=39) (k:=0) Tryz.underlying41 rfl rfl rfl (by kernel_rfl)
instance tyF46_0:TyF Tryz.prog 46 0 0:=mkF (ft:=23) (k:=0) Tryz.underlying46 rfl rfl rfl (by kernel_rfl)
instance tyF49_5:TyF Tryz.prog 49 5 8:=mkF (ft:=47) (k:=0) Tryz.underlying49 rfl rfl rfl (by kernel_rfl)
instance tyF49_6:TyF Tryz.prog 49 6 9:=mkF (ft:=47) (k:=0) Tryz.underlying49 rfl rfl rfl (by kernel_rfl)
instance tyF49_7:TyF Tryz.prog 49 7 10:=mkF (ft:=32) (k:=3) Tryz.underlying49 rfl rfl rfl (by kernel_rfl)
instance tyF70_0:TyF Tryz.prog 70 0 0:=mkF (ft:=32) (k:=3) Tryz.underlying70 rfl rfl rfl (by kernel_rfl)
instance tyF70_1:TyF Tryz.prog 70 1 4:=mkF (ft:=32) (k:=3) Tryz.underlying70 rfl rfl rfl (by kernel_rfl)
instance tyF78_0:TyF Tryz.prog 78 0 0:=mkF (ft:=24) (k:=0) Tryz.underlying78 rfl rfl rfl (by kernel_rfl)
instance tyF78_1:TyF Tryz.prog 78 1 1:=mkF (ft:=24) (k:=0) Tryz.underlying78 rfl rfl rfl (by kernel_rfl)
instance tyF78_2:TyF Tryz.prog 78 2 2:=mkF (ft:=3) (k:=0) Tryz.underlying78 rfl rfl rfl (by kernel_rfl)
instance tyF86_0:TyF Tryz.prog 86 0 0:=mkF (ft:=23) (k:=0) Tryz.underlying86 rfl rfl rfl (by kernel_rfl)
instance tyF86_1:TyF Tryz.prog 86 1 1:=mkF (ft:=24) (k:=0) Tryz.underlying86 rfl rfl rfl (by kernel_rfl)
instance tyF86_2:TyF Tryz.prog 86 2 2:=mkF (ft:=24) (k:=0) Tryz.underlying86 rfl rfl rfl (by kernel_rfl)
instance tyF86_3:TyF Tryz.prog 86 3 3:=mkF (ft:=25) (k:=0) Tryz.underlying86 rfl rfl rfl (by kernel_rfl)
instance tyF91_0:TyF Tryz.prog 91 0 0:=mkF (ft:=3) (k:=0) Tryz.underlying91 rfl rfl rfl (by kernel_rfl)
instance tyF91_1:TyF Tryz.prog 91 1 1:=mkF (ft:=3) (k:=0) Tryz.underlying91 rfl rfl rfl (by kernel_rfl)
instance tyF98_0:TyF Tryz.prog 98 0 0:=mkF (ft:=3) (k:=0) Tryz.underlying98 rfl rfl rfl (by kernel_rfl)
instance tyF98_1:TyF Tryz.prog 98 1 1:=mkF (ft:=33) (k:=0) Tryz.underlying98 rfl rfl rfl (by kernel_rfl)
instance tyO23:Ty1 Tryz.prog 23:=mk1 Tryz.underlying23 rfl (by kernel_rfl)
instance tyO24:Ty1 Tryz.prog 24:=mk1 Tryz.underlying24 rfl (by kernel_rfl)
instance tyO25:Ty1 Tryz.prog 25:=mk1 Tryz.underlying25 rfl (by kernel_rfl)
instance tyO33:Ty1 Tryz.prog 33:=mk1 Tryz.underlying33 rfl (by kernel_rfl)
instance tyO39:Ty1 Tryz.prog 39:=mk1 Tryz.underlying39 rfl (by kernel_rfl)
instance tyO47:Ty1 Tryz.prog 47:=mk1 Tryz.underlying47 rfl (by kernel_rfl)
instance tyO74:Ty1 Tryz.prog 74:=mk1 Tryz.underlying74 rfl (by kernel_rfl)
instance tyO87:Ty1 Tryz.prog 87:=mk1 Tryz.underlying87 rfl (by kernel_rfl)
theorem tyQ91:TyQ Tryz.prog 91:=mkQ Tryz.underlying91 (by kernel_rfl) (by kernel_rfl) rfl (by decide) (by decide) rfl rfl Tryz.underlying3 Tryz.underlying3
instance tyS131:TyS Tryz.prog 131 141 2 16:=mkS (z:=.agg #[.int .i64 0,.int .i64 0]) (k:=1) Tryz.underlying131 (by kernel_rfl) rfl
instance tyS150:TyS Tryz.prog 150 98 2 16:=mkS (z:=.agg #[.int .i64 0,.nilFunc]) (k:=1) Tryz.underlying150 (by kernel_rfl) rfl
instance tyS23:TyS Tryz.prog 23 36 17 264:=mkS (z:=.agg #[.bool false,.slice none 0 0,.bool false,.slice none 0 0,.bool false,.slice none 0 0,.bool false,.slice none 0 0,.bool false,.bool false,.slice none 0 0,.bool false,.slice none 0 0,.bool false,.slice none 0 0,.bool false,.slice none 0 0]) (k:=16) Tryz.underlying23 (by kernel_rfl) rfl
instance tyS24:TyS Tryz.prog 24 32 4 64:=mkS (z:=.agg #[.bool false,.slice none 0 0,.bool false,.slice none 0 0]) (k:=3) Tryz.underlying24 (by kernel_rfl) rfl
instance tyS25:TyS Tryz.prog 25 49 18 272:=mkS (z:=.agg #[.int .i64 0,.int .i64 0,.int .i64 0,.int .i64 0,.bool false,.slice none 0 0,.bool false,.slice none 0 0,.slice none 0 0,.slice none 0 0,.bool false,.slice none 0 0,.bool false,.slice none 0 0,.bool false,.slice none 0 0,.bool false,.slice none 0 0]) (k:=17) Tryz.underlying25 (by kernel_rfl) rfl
instance tyS47:TyS Tryz.prog 47 104 5 72:=mkS (z:=.agg #[.int .i64 0,.bool false,.slice none 0 0,.bool false,.slice none 0 0]) (k:=4) Tryz.underlying47 (by kernel_rfl) rfl
instance tyS50:TyS Tryz.prog 50 70 8 128:=mkS (z:=.agg #[.bool false,.slice none 0 0,.bool false,.slice none 0 0,.bool false,.slice none 0 0,.bool false,.slice none 0 0]) (k:=7) Tryz.underlying50 (by kernel_rfl) rfl
instance tyS74:TyS Tryz.prog 74 24 1 24:=mkS (z:=.slice none 0 0) (k:=0) Tryz.underlying74 (by kernel_rfl) rfl
instance tyS87:TyS Tryz.prog 87 91 2 16:=mkS (z:=.agg #[.int .i64 0,.int .i64 0]) (k:=1) Tryz.underlying87 (by kernel_rfl) rfl
instance tyZ104q:TyZ Tryz.prog 104 ([pI .i64 0]++(eQ 0)):=mkZ (z:=.agg #[.int .i64 0,.bool false,.slice none 0 0,.bool false,.slice none 0 0]) (k:=5) (by kernel_rfl) rfl (fun M=>aX.app (show aX M [pI .i64 0] [.int .i64 0] from zU1) (eQ0 M))
instance tyZ178q:TyZ Tryz.prog 178 ([pS (kK cQ) ([]:List (List Rat))]++[pS cI ([]:List Int)]++(eQ 0)):=mkZ (z:=.agg #[.slice none 0 0,.slice none 0 0,.bool false,.slice none 0 0,.bool false,.slice none 0 0]) (k:=6) (by kernel_rfl) rfl (fun M=>aX.app (aX.app (show aX M [pS (kK cQ) ([]:List (List Rat))] [.slice none 0 0] from⟨dA (kK cQ) M,trivial⟩) (show aX M [pS cI ([]:List Int)] [.slice none 0 0] from⟨dA cI M,trivial⟩)) (eQ0 M))
instance tyZ24q:TyZ Tryz.prog 24 [pS cQ ([]:List Rat)]:=mkZ (z:=.slice none 0 0) (k:=1) (by kernel_rfl) rfl (fun M=>show aX M [pS cQ ([]:List Rat)] [.slice none 0 0] from⟨dA cQ M,trivial⟩)
theorem tyZ24_oq:TyZ Tryz.prog 24 [pO none 0 0]:=mkZ (z:=.slice none 0 0) (k:=1) (by kernel_rfl) rfl (fun M=>show aX M [pO none 0 0] [.slice none 0 0] from⟨.inl rfl,trivial⟩)
instance tyZ27q:TyZ Tryz.prog 27 ([pS aD.cod ([]:List aD)]++[pS cQ ([]:List Rat)]++[pS cQ ([]:List Rat)]++[pS aA.cod ([]:List aA)]):=mkZ (z:=.agg #[.slice none 0 0,.slice none 0 0,.slice none 0 0,.slice none 0 0]) (k:=4) (by kernel_rfl) rfl (fun M=>aX.app (aX.app (aX.app (show aX M [pS aD.cod ([]:List aD)] [.slice none 0 0] from⟨dA aD.cod M,trivial⟩) (show aX M [pS cQ ([]:List Rat)] [.slice none 0 0] from⟨dA cQ M,trivial⟩)) (show aX M [pS cQ ([]:List Rat)] [.slice none 0 0] from⟨dA cQ M,trivial⟩)) (show aX M [pS aA.cod ([]:List aA)] [.slice none 0 0] from⟨dA aA.cod M,trivial⟩))
theorem tyZ27_o0_o1_o2_o3q:TyZ Tryz.prog 27 ([pO none 0 0]++[pO none 0 0]++[pO none 0 0]++[pO none 0 0]):=mkZ (z:=.agg #[.slice none 0 0,.slice none 0 0,.slice none 0 0,.slice none 0 0]) (k:=4) (by kernel_rfl) rfl (fun M=>aX.app (aX.app (aX.app (show aX M [pO none 0 0] [.slice none 0 0] from⟨.inl rfl,trivial⟩) (show aX M [pO none 0 0] [.slice none 0 0] from⟨.inl rfl,trivial⟩)) (show aX M [pO none 0 0] [.slice none 0 0] from⟨.inl rfl,trivial⟩)) (show aX M [pO none 0 0] [.slice none 0 0] from⟨.inl rfl,trivial⟩))
instance tyZ3q:TyZ Tryz.prog 3 [pI .i64 0]:=mkZ (z:=.int .i64 0) (k:=1) (by kernel_rfl) rfl (fun M=>show aX M [pI .i64 0] [.int .i64 0] from zU1)
instance tyZ32q:TyZ Tryz.prog 32 (eQ 0):=mkZ (z:=.agg #[.bool false,.slice none 0 0,.bool false,.slice none 0 0]) (k:=4) (by kernel_rfl) rfl (fun M=>eQ0 M)
instance tyZ36q:TyZ Tryz.prog 36 ((eQ 0)++(eQ 0)++[pB false]++(eQ 0)++(eQ 0)):=mkZ (z:=.agg #[.bool false,.slice none 0 0,.bool false,.slice none 0 0,.bool false,.slice none 0 0,.bool false,.slice none 0 0,.bool false,.bool false,.slice none 0 0,.bool false,.slice none 0 0,.bool false,.slice none 0 0,.bool false,.slice none 0 0]) (k:=17) (by kernel_rfl) rfl (fun M=>aX.app (aX.app (aX.app (aX.app (eQ0 M) (eQ0 M)) (show aX M [pB false] [.bool false] from zU1)) (eQ0 M)) (eQ0 M))
instance tyZ41q:TyZ Tryz.prog 41 ([pI .i64 0]++[pS cQ ([]:List Rat)]++[pS cQ ([]:List Rat)]++[pS cB ([]:List Bool)]):=mkZ (z:=.agg #[.int .i64 0,.slice none 0 0,.slice none 0 0,.slice none 0 0]) (k:=4) (by kernel_rfl) rfl (fun M=>aX.app (aX.app (aX.app (show aX M [pI .i64 0] [.int .i64 0] from zU1) (show aX M [pS cQ ([]:List Rat)] [.slice none 0 0] from⟨dA cQ M,trivial⟩)) (show aX M [pS cQ ([]:List Rat)] [.slice none 0 0] from⟨dA cQ M,trivial⟩)) (show aX M [pS cB ([]:List Bool)] [.slice none 0 0] from⟨dA cB M,trivial⟩))
instance tyZ46q:TyZ Tryz.prog 46 ([pS aD.cod ([]:List aD)]++[pS iN.cod ([]:List iN)]++[pS iO.cod ([]:List iO)]++[pS cA2 ([]:List (Int×Int))]):=mkZ (z:=.agg #[.slice none 0 0,.slice none 0 0,.slice none 0 0,.slice none 0 0]) (k:=4) (by kernel_rfl) rfl (fun M=>aX.app (aX.app (aX.app (show aX M [pS aD.cod ([]:List aD)] [.slice none 0 0] from⟨dA aD.cod M,trivial⟩) (show aX M [pS iN.cod ([]:List iN)] [.slice none 0 0] from⟨dA iN.cod M,trivial⟩)) (show aX M [pS iO.cod ([]:List iO)] [.slice none 0 0] from⟨dA iO.cod M,trivial⟩)) (show aX M [pS cA2 ([]:List (Int×Int))] [.slice none 0 0] from⟨dA cA2 M,trivial⟩))
instance tyZ49q:TyZ Tryz.prog 49 ([pI .i64 0]++[pI .i64 0]++[pI .i64 0]++[pI .i64 0]++(eQ 0)++[pS aE.cod ([]:List aE)]++[pS aE.cod ([]:List aE)]++(eQ 0)++(eQ 0)):=mkZ (z:=.agg #[.int .i64 0,.int .i64 0,.int .i64 0,.int .i64 0,.bool false,.slice none 0 0,.bool false,.slice none 0 0,.slice none 0 0,.slice none 0 0,.bool false,.slice none 0 0,.bool false,.slice none 0 0,.bool false,.slice none 0 0,.bool false,.slice none 0 0]) (k:=18) (by kernel_rfl) rfl (fun M=>aX.app (aX.app (aX.app (aX.app (aX.app (aX.app (aX.app (aX.app (show aX M [pI .i64 0] [.int .i64 0] from zU1) (show aX M [pI .i64 0] [.int .i64 0] from zU1)) (show aX M [pI .i64 0] [.int .i64 0] from zU1)) (show aX M [pI .i64 0] [.int .i64 0] from zU1)) (eQ0 M)) (show aX M [pS aE.cod ([]:List aE)] [.slice none 0 0] from⟨dA aE.cod M,trivial⟩)) (show aX M [pS aE.cod ([]:List aE)] [.slice none 0 0] from⟨dA aE.cod M,trivial⟩)) (eQ0 M)) (eQ0 M))
instance tyZ70q:TyZ Tryz.prog 70 ((eQ 0)++(eQ 0)):=mkZ (z:=.agg #[.bool false,.slice none 0 0,.bool false,.slice none 0 0,.bool false,.slice none 0 0,.bool false,.slice none 0 0]) (k:=8) (by kernel_rfl) rfl (fun M=>aX.app (eQ0 M) (eQ0 M))
instance tyZ74q:TyZ Tryz.prog 74 [pS (kK cQ) ([]:List (List Rat))]:=mkZ (z:=.slice none 0 0) (k:=1) (by kernel_rfl) rfl (fun M=>show aX M [pS (kK cQ) ([]:List (List Rat))] [.slice none 0 0] from⟨dA (kK cQ) M,trivial⟩)
instance tyZ78q:TyZ Tryz.prog 78 ([pS cQ ([]:List Rat)]++[pS cQ ([]:List Rat)]++[pI .i64 0]):=mkZ (z:=.agg #[.slice none 0 0,.slice none 0 0,.int .i64 0]) (k:=3) (by kernel_rfl) rfl (fun M=>aX.app (aX.app (show aX M [pS cQ ([]:List Rat)] [.slice none 0 0] from⟨dA cQ M,trivial⟩) (show aX M [pS cQ ([]:List Rat)] [.slice none 0 0] from⟨dA cQ M,trivial⟩)) (show aX M [pI .i64 0] [.int .i64 0] from zU1))
instance tyZ86q:TyZ Tryz.prog 86 ([pS aD.cod ([]:List aD)]++[pS cQ ([]:List Rat)]++[pS cQ ([]:List Rat)]++[pS aA.cod ([]:List aA)]):=mkZ (z:=.agg #[.slice none 0 0,.slice none 0 0,.slice none 0 0,.slice none 0 0]) (k:=4) (by kernel_rfl) rfl (fun M=>aX.app (aX.app (aX.app (show aX M [pS aD.cod ([]:List aD)] [.slice none 0 0] from⟨dA aD.cod M,trivial⟩) (show aX M [pS cQ ([]:List Rat)] [.slice none 0 0] from⟨dA cQ M,trivial⟩)) (show aX M [pS cQ ([]:List Rat)] [.slice none 0 0] from⟨dA cQ M,trivial⟩)) (show aX M [pS aA.cod ([]:List aA)] [.slice none 0 0] from⟨dA aA.cod M,trivial⟩))
instance tyZ87q:TyZ Tryz.prog 87 [pS aC.cod ([]:List aC)]:=mkZ (z:=.slice none 0 0) (k:=1) (by kernel_rfl) rfl (fun M=>show aX M [pS aC.cod ([]:List aC)] [.slice none 0 0] from⟨dA aC.cod M,trivial⟩)
instance tyZ91q:TyZ Tryz.prog 91 ([pI .i64 0]++[pI .i64 0]):=mkZ (z:=.agg #[.int .i64 0,.int .i64 0]) (k:=2) (by kernel_rfl) rfl (fun M=>aX.app (show aX M [pI .i64 0] [.int .i64 0] from zU1) (show aX M [pI .i64 0] [.int .i64 0] from zU1))
instance tyZ98q:TyZ Tryz.prog 98 ([pI .i64 0]++[pFn Tryz.prog (fun x:Int=>[.vc (pI .i64 x)]) (fun r:Rat=>.va (eQ r)) (fun _=>none)]):=mkZ (z:=.agg #[.int .i64 0,.nilFunc]) (k:=2) (by kernel_rfl) rfl (fun M=>aX.app (show aX M [pI .i64 0] [.int .i64 0] from zU1) (show aX M [pFn Tryz.prog (fun x:Int=>[.vc (pI .i64 x)]) (fun r:Rat=>.va (eQ r)) (fun _=>none)] [.nilFunc] from⟨aMb _ _ M,trivial⟩))
def lT (a0:Int) (a1:Int):Option Int:=
 bif(decide (a0<0)) then((aT (a0+1)).bind fun v2=>(aT (-v2)).bind fun v4=>(yK v4 a1).bind fun v6=>some v6) else((yK a0 a1).bind fun v8=>some v8)
theorem yQ {a0:Int} {a1:Int} {r:Int} (hF:lT a0 a1=some r):Ct Tryz.prog 25 [.vc (pI .i64 a0),.vc (pI .i64 a1)] (.vc (pI .i64 r)):=by
 unfold lT at hF
 refine aG Tryz.func25 rfl (by kernel_rfl) Tryz.ntmps25 rfl (fun w0 M0=>?_)
 refine go ?_ ?_
 refine aJ hF rfl (fun h1 hF=>?_) (fun h1 hF=>?_)
 ·obtain⟨v2,h3,v4,h5,v6,h7,hF⟩:=bn3 hF
  exact cF
 obtain⟨v8,h9,hF⟩:=aZ hF
 exact cF
def bE (a0:List Int) (a1:Int) (a2:Int):Option Int:=
 bif(decide (a1<0)) then(some 0) else(bif(decide ((a0.length:Int)≤a1)) then(some 0) else((bL a0 a1).bind fun v3=>(lT v3 a2).bind fun v5=>some v5))
theorem cY {a0:List Int} {a1:Int} {a2:Int} {r:Int} (hF:bE a0 a1 a2=some r):Ct Tryz.prog 9 [.vc (pS cI a0),.vc (pI .i64 a1),.vc (pI .i64 a2)] (.vc (pI .i64 r)):=by
 unfold bE at hF
 refine aG Tryz.func9 rfl (by kernel_rfl) Tryz.ntmps9 rfl (fun w0 M0=>?_)
 refine go ?_ ?_
 refine eW hF (fun h1 hF=>?_) (fun h1 hF=>?_)
 ·refine go ?_ ?_
  refine oU rfl ?_
  exact cF
 refine go ?_ ?_
 refine aJ hF rfl (fun h2 hF=>?_) (fun h2 hF=>?_)
 ·exact cF
 obtain⟨v3,h4,hF⟩:=aZ hF
 obtain⟨v5,h6,hF⟩:=bF hF yQ
 exact cF
def pV (K:Nat) (x19:List aE):Option (List aE):=
 some x19
def eO (K:Nat) (a1:Int):Nat→(List aE)→Int→Int→Option (List aE)
 |0,_,_,_=>none
 |k+1,x11,x17,x18=>bif(decide (x18<a1)) then((yK x17 7).bind fun v28=>(bL [0,1,(-1),0,2,(-1),1] v28).bind fun v30=>(zX x17 7).bind fun v32=>bif(v30 != 0) then((yK v32 3).bind fun v35=>(aT (1+v35)).bind fun v37=>(qof v30 v37).bind fun v39=>(qR x11 [(⟨x18,v39⟩:aE)]).bind fun x41=>(zX v32 3).bind fun v48=>(aT (x18+1)).bind fun v50=>eO K a1 k x41 v48 v50) else((zX v32 3).bind fun v52=>(aT (x18+1)).bind fun v54=>eO K a1 k x11 v52 v54)) else(some x11)
def eF (K:Nat) (a0:Int) (a1:Int):Option (List aE):=
 (eO K a1 K ([]:List aE) a0 0).bind fun x19=>pV K x19
theorem pL {K:Nat} {a0:Int} {a1:Int} {r:List aE} (hF:eF K a0 a1=some r):Ct Tryz.prog 34 [.vc (pI .i64 a0),.vc (pI .i64 a1)] (.vc (pS aE.cod r)):=by
 unfold eF at hF
 refine aG Tryz.func34 rfl (by kernel_rfl) Tryz.ntmps34 rfl (fun w0 M0=>?_)
 refine aK (aR (aQ (bB (.inr rfl)) ⟨dA aE.cod,trivial⟩ ?_))
 refine bT (aU (aK (aR (tV aE.cod 104 rfl ?_))))
 refine go ?_ ?_
 refine aS (bV (fun H E=>∃(x19:List aE),∃(b20:Option Nat),∃(c21:Nat),∃(n22:Nat),pV K x19=some r∧x19.length=n22∧H=[hO aE.cod b20 c21 104 n22 x19]∧E=[(5,.vc (pO b20 n22 c21))]) ?_ (fun Jj26=>?_))
 ·rintro _ _ ⟨x19,b20,c21,n22,hF,q23,rfl,rfl⟩
  unfold pV at hF
  refine go ?_ ?_
  refine sT (sS (aAd 0 [4,5,34] rfl q23 ⟨rfl,rfl,rfl,trivial⟩ rfl ?_))
  obtain rfl:=pZ hF
  exact rY (.inl rfl) Tryz.results34 (.tmp rfl .nil) rfl rfl
 obtain⟨x19',hL,hRl25⟩:=aZ hF
 refine gB (fun k a w=>∃(x11:List aE),∃(x17:Int),∃(x18:Int),∃(b12:Option Nat),∃(c13:Nat),∃(n14:Nat),eO K a1 k x11 x17 x18=some x19'∧x11.length=n14∧hs _ [hO aE.cod b12 c13 104 n14 x11] [(0,.vc (pI .i64 x17)),(1,.vc (pI .i64 a1)),(5,.vc (pO b12 n14 c13)),(6,.vc (pI .i64 x18))] a w) K (fun a w ⟨_,_,_,_,_,_,hF,_,_⟩=>by cases hF) (fun k a w ⟨x11,x17,x18,b12,c13,n14,hF,q15,hh⟩=>gC ?_ hh) (fun a w hh=>⟨([]:List aE),a0,0,none,0,0,hL,rfl,gJ [0] hh⟩)
 rw [eO.eq_2] at hF
 refine go ?_ ?_
 refine aJ hF rfl (fun h27 hF=>?_) (fun h27 hF=>?_)
 ·refine go ?_ ?_
  refine aS (aK (aR (aQ (oM (C:=cI) (xs:=[.const (.int .i64 (0)),.const (.int .i64 (1)),.const (.int .i64 (-1)),.const (.int .i64 (0)),.const (.int .i64 (2)),.const (.int .i64 (-1)),.const (.int .i64 (1))]) (ps:=[.vc (pI .i64 0),.vc (pI .i64 1),.vc (pI .i64 (-1)),.vc (pI .i64 0),.vc (pI .i64 2),.vc (pI .i64 (-1)),.vc (pI .i64 1)]) (zs:=[0,1,(-1),0,2,(-1),1]) rfl tyS22 rfl ⟨⟨trivial,rfl⟩,⟨trivial,rfl⟩,⟨trivial,rfl⟩,⟨trivial,rfl⟩,⟨trivial,rfl⟩,⟨trivial,rfl⟩,⟨trivial,rfl⟩,trivial⟩ rfl) ⟨lY _ _,lY _ _,lY _ _,lY _ _,lY _ _,lY _ _,lY _ _,trivial⟩ ?_)))
  obtain⟨v28,h29,v30,h31,v32,h33,hF⟩:=bn3 hF
  refine go ?_ ?_
  refine aJ hF rfl (fun h34 hF=>?_) (fun h34 hF=>?_)
  ·obtain⟨v35,h36,v37,h38,hF⟩:=wP hF
   obtain⟨v39,h40,hF⟩:=bF hF bS
   refine go ?_ ?_
   refine aQ (dY (is:=[0,1]) (xs:=[.tmp 23,.tmp 28]) (ps:=[.vc (pI .i64 x18),.va (eQ v39)]) rfl tyB104q rfl rfl ⟨trivial,trivial,trivial⟩ rfl) zU2 ?_
   refine aQ (oM (C:=aE.cod) (xs:=[.tmp 29]) (ps:=[.va ([pI .i64 x18]++(eQ v39))]) (zs:=[(⟨x18,v39⟩:aE)]) rfl tyS47 rfl ⟨⟨trivial,rfl⟩,trivial⟩ rfl) zU1 ?_
   obtain⟨x41,h42,hF⟩:=aZ hF
   refine nH 0 rfl tyS47 rfl rfl q15 rfl rfl h42 (fun b43 c44 H45 e46=>?_)
   cases e46
   obtain⟨v48,h49,v50,h51,hF⟩:=wP hF
   refine go ?_ ?_
   exact aM (fun a w hh=>⟨x41,v48,v50,b43,c44,(n14+[(⟨x18,v39⟩:aE)].length),hF,(eJ h42 q15),gJ [0] hh⟩)
  obtain⟨v52,h53,v54,h55,hF⟩:=wP hF
  refine go ?_ ?_
  exact aM (fun a w hh=>⟨x11,v52,v54,b12,c13,n14,hF,q15,gJ [0] hh⟩)
 refine cR ?_
 obtain rfl:=pZ hF
 exact qZ Jj26 ⟨x11,b12,c13,n14,hRl25,q15,rfl,rfl⟩ [0]
def lK (K:Nat) (x75:List Rat) (x81:List aD) (x93:List Rat) (x114:List aA):Option bH:=
 some (⟨x81,x75,x93,x114⟩:bH)
def fE (K:Nat) (x107:List aA) (x113:Int) (v129:Int) (recl120:(List aA)→Int→Option (List aA)) (x159:aA):Option (List aA):=
 (zN x159.mu).bind fun v161=>bif(v161==0) then((qR x107 [(⟨x159.kind,x159.a,x159.b,x159.edge,x159.gap,x159.j,[],0,x159.e⟩:aA)]).bind fun x164=>(aT (x113+1)).bind fun v171=>recl120 x164 v171) else((yK v129 5).bind fun v173=>bif(v173==0) then((qR x107 [(⟨x159.kind,x159.a,x159.b,x159.edge,x159.gap,x159.j,[],0,x159.e⟩:aA)]).bind fun x176=>(aT (x113+1)).bind fun v183=>recl120 x176 v183) else((qR x107 [x159]).bind fun x185=>(aT (x113+1)).bind fun v192=>recl120 x185 v192))
def dH (K:Nat) (a0:List Int) (a1:Bool) (v4:Int):Nat→(List aA)→Int→Option (List aA)
 |0,_,_=>none
 |k+1,x107,x113=>(bE a0 8 5).bind fun v122=>bif(decide (x113<v122)) then((aT (3*x113)).bind fun v125=>(aT (9+v125)).bind fun v127=>(bE a0 v127 1099511627776).bind fun v129=>(eF K v129 v4).bind fun v131=>(aT (3*x113)).bind fun v133=>(aT (10+v133)).bind fun v135=>(bE a0 v135 1099511627776).bind fun v137=>(eF K v137 v4).bind fun v139=>(aT (3*x113)).bind fun v141=>(aT (11+v141)).bind fun v143=>(bE a0 v143 5).bind fun v145=>(aT (3*x113)).bind fun v147=>(aT (11+v147)).bind fun v149=>(bE a0 v149 3).bind fun v151=>(aT (1+v151)).bind fun v153=>(qof v145 v153).bind fun v155=>bif(!a1) then((aT (v4-1)).bind fun v195=>(eF K v129 v195).bind fun v197=>fE K x107 x113 v129 (dH K a0 a1 v4 k) (⟨0,0,x113,0,0,v197,v139,v155,0⟩:aA)) else(fE K x107 x113 v129 (dH K a0 a1 v4 k) (⟨0,0,x113,0,0,v131,v139,v155,0⟩:aA))) else(some x107)
def kB (K:Nat) (a0:List Int) (a1:Bool) (v4:Int) (x75:List Rat) (x81:List aD) (x93:List Rat):Option bH:=
 (dH K a0 a1 v4 K ([]:List aA) 0).bind fun x114=>lK K x75 x81 x93 x114
def o8 (K:Nat) (x69:List Rat) (x75:List Rat) (x81:List aD) (x235:List aA):Option bH:=
 some (⟨x81,x75,x69,x235⟩:bH)
def gM (K:Nat) (x228:List aA) (x234:Int) (v250:Int) (v252:List aE) (v260:List aE) (v276:Rat) (recl241:(List aA)→Int→Option (List aA)):Option (List aA):=
 (zN v276).bind fun v281=>bif(v281==0) then((qR x228 [(⟨0,0,x234,0,0,v252,[],0,0⟩:aA)]).bind fun x284=>(aT (x234+1)).bind fun v291=>recl241 x284 v291) else((yK v250 5).bind fun v293=>bif(v293==0) then((qR x228 [(⟨0,0,x234,0,0,v252,[],0,0⟩:aA)]).bind fun x296=>(aT (x234+1)).bind fun v303=>recl241 x296 v303) else((qR x228 [(⟨0,0,x234,0,0,v252,v260,v276,0⟩:aA)]).bind fun x305=>(aT (x234+1)).bind fun v312=>recl241 x305 v312))
def d8 (K:Nat) (a0:List Int) (v4:Int):Nat→(List aA)→Int→Option (List aA)
 |0,_,_=>none
 |k+1,x228,x234=>(bE a0 8 5).bind fun v243=>bif(decide (x234<v243)) then((aT (3*x234)).bind fun v246=>(aT (9+v246)).bind fun v248=>(bE a0 v248 1099511627776).bind fun v250=>(eF K v250 v4).bind fun v252=>(aT (3*x234)).bind fun v254=>(aT (10+v254)).bind fun v256=>(bE a0 v256 1099511627776).bind fun v258=>(eF K v258 v4).bind fun v260=>(aT (3*x234)).bind fun v262=>(aT (11+v262)).bind fun v264=>(bE a0 v264 5).bind fun v266=>(aT (3*x234)).bind fun v268=>(aT (11+v268)).bind fun v270=>(bE a0 v270 3).bind fun v272=>(aT (1+v272)).bind fun v274=>(qof v266 v274).bind fun v276=>gM K x228 x234 v250 v252 v260 v276 (d8 K a0 v4 k)) else(some x228)
def oV (K:Nat) (a0:List Int) (v4:Int) (x69:List Rat) (x75:List Rat) (x81:List aD):Option bH:=
 (d8 K a0 v4 K ([]:List aA) 0).bind fun x235=>o8 K x69 x75 x81 x235
def kF (K:Nat) (a0:List Int) (a1:Bool) (v4:Int) (x69:List Rat) (x75:List Rat) (x81:List aD):Option bH:=
 (bE a0 5 3).bind fun v89=>bif(decide (0<v89)) then(bif(!a1) then((aT (v4-1)).bind fun v202=>(bE a0 6 9).bind fun v204=>(aT (v204-4)).bind fun v206=>(bE a0 7 3).bind fun v208=>(aT (1+v208)).bind fun v210=>(qof v206 v210).bind fun v212=>(bL x69 v202).bind fun v214=>(oO x69 v202 v212).bind fun x216=>kB K a0 a1 v4 x75 x81 x216) else(kB K a0 a1 v4 x75 x81 x69)) else(oV K a0 v4 x69 x75 x81)
def iL (K:Nat) (a0:List Int) (v4:Int):Nat→(List Rat)→(List Rat)→(List aD)→Int→Option ((List Rat)×(List Rat)×(List aD))
 |0,_,_,_,_=>none
 |k+1,x50,x56,x62,x68=>bif(decide (x68<v4)) then((aT (1+x68)).bind fun v315=>(bE a0 v315 1073741824).bind fun v317=>(yK v317 3).bind fun v321=>(aT (1+v321)).bind fun v323=>(zX v317 3).bind fun v325=>(yK v325 4).bind fun v327=>(aT (1+v327)).bind fun v329=>(qof v323 v329).bind fun v331=>(qR x62 [(⟨v331,0,false,0,0⟩:aD)]).bind fun x333=>(zX v317 12).bind fun v342=>(yK v342 13).bind fun v344=>(aT (v344-6)).bind fun v346=>(zX v317 156).bind fun v348=>(yK v348 3).bind fun v350=>(aT (1+v350)).bind fun v352=>(qof v346 v352).bind fun v354=>(qR x56 [v354]).bind fun x356=>(qR x50 [0]).bind fun x363=>(aT (x68+1)).bind fun v370=>iL K a0 v4 k x363 x356 x333 v370) else(some (x50,x56,x62))
def lG (K:Nat) (a0:List Int) (a1:Bool):Option bH:=
 (bE a0 0 4).bind fun v2=>(aT (1+v2)).bind fun v4=>(iL K a0 v4 K ([]:List Rat) ([]:List Rat) ([]:List aD) 0).bind fun(x69,x75,x81)=>kF K a0 a1 v4 x69 x75 x81
theorem aDm {K:Nat} {a0:List Int} {a1:Bool} {r:bH} (hF:lG K a0 a1=some r):Ct Tryz.prog 7 [.vc (pS cI a0),.vc (pB a1)] (.va (bH.enc r)):=by
 unfold lG at hF
 refine aG Tryz.func7 rfl (by kernel_rfl) Tryz.ntmps7 rfl (fun w0 M0=>?_)
 refine aK (aR (aO rfl tyZ27q (fun b1=>?_)))
 refine bT (aU (aK (aR (lH ?_))))
 obtain⟨v2,h3,hF⟩:=bF hF cY
 refine aQ (cS rfl h3 rfl) ⟨rfl,lY _ _,lY _ _,trivial⟩ ?_
 obtain⟨v4,h5,hF⟩:=aZ hF
 refine aQ (xJ rfl h5) ⟨lY _ _,rfl,trivial⟩ ?_
 refine aDY ?_
 refine bT (aU (aK (aR (aCc aD.cod 36 ?_))))
 refine aCc cQ 32 ?_
 refine aCc cQ 32 ?_
 refine aCc aA.cod 49 ?_
 refine aO rfl tyZ27_o0_o1_o2_o3q (fun b30=>?_)
 refine go ?_ ?_
 refine aS (bV (fun H E=>∃(x69:List Rat),∃(x75:List Rat),∃(x81:List aD),∃(b70:Option Nat),∃(c71:Nat),∃(n72:Nat),∃(b76:Option Nat),∃(c77:Nat),∃(n78:Nat),∃(b82:Option Nat),∃(c83:Nat),∃(n84:Nat),kF K a0 a1 v4 x69 x75 x81=some r∧x69.length=n72∧x75.length=n78∧x81.length=n84∧H=[⟨some b30,1,27,4,1,([pO b82 n84 c83]++[pO b76 n78 c77]++[pO b70 n72 c71]++[pO none 0 0])⟩,hO aA.cod none 0 49 0 ([]:List aA),hO cQ b70 c71 32 n72 x69,hO cQ b76 c77 32 n78 x75,hO aD.cod b82 c83 36 n84 x81,⟨some b1,1,27,4,1,([pS aD.cod ([]:List aD)]++[pS cQ ([]:List Rat)]++[pS cQ ([]:List Rat)]++[pS aA.cod ([]:List aA)])⟩]∧E=[(0,.vc (pS cI a0)),(1,.vc (pB a1)),(4,.vc (pP (some b1) 0)),(5,.vc (pI .i64 v4)),(6,.vc (pP (some b30) 0))]) ?_ (fun Jj88=>?_))
 ·rintro _ _ ⟨x69,x75,x81,b70,c71,n72,b76,c77,n78,b82,c83,n84,hF,q73,q79,q85,rfl,rfl⟩
  unfold kF at hF
  obtain⟨v89,h90,hF⟩:=bF hF cY
  refine go ?_ ?_
  refine eW hF (fun h91 hF=>?_) (fun h91 hF=>?_)
  ·refine aAa (bB (.inl rfl)) zU1 ?_
   refine aAa (aME rfl) zU1 ?_
   refine aQ (uH rfl) zU2 ?_
   refine aDY ?_
   refine bT (aU (aK (xZ (fun H E=>∃(x93:List Rat),kB K a0 a1 v4 x75 x81 x93=some r∧x93.length=n72∧H=[⟨some b30,1,27,4,1,([pO b82 n84 c83]++[pO b76 n78 c77]++[pO b70 n72 c71]++[pO none 0 0])⟩,hO aA.cod none 0 49 0 ([]:List aA),hO cQ b70 c71 32 n72 x93,hO cQ b76 c77 32 n78 x75,hO aD.cod b82 c83 36 n84 x81,⟨some b1,1,27,4,1,([pS aD.cod ([]:List aD)]++[pS cQ ([]:List Rat)]++[pS cQ ([]:List Rat)]++[pS aA.cod ([]:List aA)])⟩]∧E=[(0,.vc (pS cI a0)),(4,.vc (pP (some b1) 0)),(5,.vc (pI .i64 v4)),(6,.vc (pP (some b30) 0)),(9,.vc (pB (!a1)))]) ?_ (fun Jj99=>?_))))
   ·rintro _ _ ⟨x93,hF,q97,rfl,rfl⟩
    unfold kB at hF
    refine go ?_ ?_
    refine aS (bV (fun H E=>∃(x114:List aA),∃(b115:Option Nat),∃(c116:Nat),∃(n117:Nat),lK K x75 x81 x93 x114=some r∧x114.length=n117∧H=[⟨some b30,1,27,4,1,([pO b82 n84 c83]++[pO b76 n78 c77]++[pO b70 n72 c71]++[pO b115 n117 c116])⟩,hO aA.cod b115 c116 49 n117 x114,hO cQ b70 c71 32 n72 x93,hO cQ b76 c77 32 n78 x75,hO aD.cod b82 c83 36 n84 x81,⟨some b1,1,27,4,1,([pS aD.cod ([]:List aD)]++[pS cQ ([]:List Rat)]++[pS cQ ([]:List Rat)]++[pS aA.cod ([]:List aA)])⟩]∧E=[(4,.vc (pP (some b1) 0)),(6,.vc (pP (some b30) 0))]) ?_ (fun Jj121=>?_))
    ·rintro _ _ ⟨x114,b115,c116,n117,hF,q118,rfl,rfl⟩
     unfold lK at hF
     refine aU (aK (aR (aBB 4 0 0 rfl q85 rfl rfl rfl rfl rfl ?_)))
     refine aBB 3 0 1 rfl q79 rfl rfl rfl rfl rfl ?_
     refine aBB 2 0 2 rfl q97 rfl rfl rfl rfl rfl ?_
     refine aBB 1 0 3 rfl q118 rfl rfl rfl rfl rfl ?_
     exact cF
    obtain⟨x114',hL,hRl120⟩:=aZ hF
    refine gB (fun k a w=>∃(x107:List aA),∃(x113:Int),∃(b108:Option Nat),∃(c109:Nat),∃(n110:Nat),dH K a0 a1 v4 k x107 x113=some x114'∧x107.length=n110∧hs _ [⟨some b30,1,27,4,1,([pO b82 n84 c83]++[pO b76 n78 c77]++[pO b70 n72 c71]++[pO b108 n110 c109])⟩,hO aA.cod b108 c109 49 n110 x107,hO cQ b70 c71 32 n72 x93,hO cQ b76 c77 32 n78 x75,hO aD.cod b82 c83 36 n84 x81,⟨some b1,1,27,4,1,([pS aD.cod ([]:List aD)]++[pS cQ ([]:List Rat)]++[pS cQ ([]:List Rat)]++[pS aA.cod ([]:List aA)])⟩] [(0,.vc (pS cI a0)),(4,.vc (pP (some b1) 0)),(5,.vc (pI .i64 v4)),(6,.vc (pP (some b30) 0)),(9,.vc (pB (!a1))),(10,.vc (pI .i64 x113))] a w) K (fun a w ⟨_,_,_,_,_,hF,_,_⟩=>by cases hF) (fun k a w ⟨x107,x113,b108,c109,n110,hF,q111,hh⟩=>gC ?_ hh) (fun a w hh=>⟨([]:List aA),0,none,0,0,hL,rfl,gJ [0,1,2,3,4,5] hh⟩)
    rw [dH.eq_2] at hF
    obtain⟨v122,h123,hF⟩:=bF hF cY
    refine go ?_ ?_
    refine aJ hF rfl (fun h124 hF=>?_) (fun h124 hF=>?_)
    ·refine go ?_ ?_
     refine aS ?_
     obtain⟨v125,h126,v127,h128,hF⟩:=wP hF
     obtain⟨v129,h130,hF⟩:=bF hF cY
     obtain⟨v131,h132,hF⟩:=bF hF pL
     have hF:=sE h126 hF
     obtain⟨v135,h136,hF⟩:=aZ hF
     obtain⟨v137,h138,hF⟩:=bF hF cY
     obtain⟨v139,h140,hF⟩:=bF hF pL
     have hF:=sE h126 hF
     obtain⟨v143,h144,hF⟩:=aZ hF
     obtain⟨v145,h146,hF⟩:=bF hF cY
     have hF:=sE h126 hF
     have hF:=sE h144 hF
     obtain⟨v151,h152,hF⟩:=bF hF cY
     obtain⟨v153,h154,hF⟩:=aZ hF
     obtain⟨v155,h156,hF⟩:=bF hF bS
     refine go ?_ ?_
     refine aQ (dY (is:=[5,6,7,2]) (xs:=[.tmp 92,.tmp 99,.tmp 111,.tmp 112]) (ps:=[.vc (pS aE.cod v131),.vc (pS aE.cod v139),.va (eQ v155),.vc (pI .i64 x113)]) rfl tyB49q rfl rfl ⟨trivial,trivial,trivial,trivial,trivial⟩ rfl) ⟨rfl,rfl,rfl,rfl,trivial⟩ ?_
     refine aO rfl tyZ49q (fun b157=>?_)
     refine mR (t_s 0 rfl rfl rfl tyA49.s) zU2 ?_
     refine bT (aU (aK (xZ (fun H E=>∃(x159:aA),fE K x107 x113 v129 (dH K a0 a1 v4 k) x159=some x114'∧H=[⟨some b157,1,49,18,1,(aA.enc x159)⟩,⟨some b30,1,27,4,1,([pO b82 n84 c83]++[pO b76 n78 c77]++[pO b70 n72 c71]++[pO b108 n110 c109])⟩,hO aA.cod b108 c109 49 n110 x107,hO cQ b70 c71 32 n72 x93,hO cQ b76 c77 32 n78 x75,hO aD.cod b82 c83 36 n84 x81,⟨some b1,1,27,4,1,([pS aD.cod ([]:List aD)]++[pS cQ ([]:List Rat)]++[pS cQ ([]:List Rat)]++[pS aA.cod ([]:List aA)])⟩]∧E=[(0,.vc (pS cI a0)),(4,.vc (pP (some b1) 0)),(5,.vc (pI .i64 v4)),(6,.vc (pP (some b30) 0)),(9,.vc (pB (!a1))),(10,.vc (pI .i64 x113)),(11,.vc (pI .i64 v129)),(12,.vc (pP (some b157) 0))]) ?_ (fun Jj160=>?_))))
     ·rintro _ _ ⟨x159,hF,rfl,rfl⟩
      unfold fE at hF
      obtain⟨v161,h162,hF⟩:=bF hF z9
      refine go ?_ ?_
      refine eW hF (fun h163 hF=>?_) (fun h163 hF=>?_)
      ·refine go ?_ ?_
       refine oU rfl ?_
       refine go ?_ ?_
       refine mR (t_s 0 rfl rfl rfl tyO47.s) ⟨rfl,dA aE.cod,trivial⟩ ?_
       refine go ?_ ?_
       refine aQ (dY (is:=[]) (xs:=[]) (ps:=[]) rfl tyB32q rfl rfl trivial rfl) trivial ?_
       refine go ?_ ?_
       refine aQ (oM (C:=aA.cod) (xs:=[.tmp 134]) (ps:=[.va ([pI .i64 x159.kind]++[pI .i64 x159.a]++[pI .i64 x159.b]++[pI .i64 x159.edge]++(eQ x159.gap)++[pS aE.cod x159.j]++[pS aE.cod []]++(eQ 0)++(eQ x159.e))]) (zs:=[(⟨x159.kind,x159.a,x159.b,x159.edge,x159.gap,x159.j,[],0,x159.e⟩:aA)]) rfl tyS25 rfl ⟨⟨trivial,rfl⟩,trivial⟩ rfl) zU1 ?_
       obtain⟨x164,h165,hF⟩:=aZ hF
       refine nH 2 rfl tyS25 rfl rfl q111 rfl rfl h165 (fun b166 c167 H168 e169=>?_)
       cases e169
       obtain⟨v171,h172,hF⟩:=aZ hF
       refine go ?_ ?_
       exact aM (fun a w hh=>⟨x164,v171,b166,c167,(n110+[(⟨x159.kind,x159.a,x159.b,x159.edge,x159.gap,x159.j,[],0,x159.e⟩:aA)].length),hF,(eJ h165 q111),gJ [1,2,3,4,5,6] hh⟩)
      obtain⟨v173,h174,hF⟩:=aZ hF
      refine go ?_ ?_
      refine aJ hF rfl (fun h175 hF=>?_) (fun h175 hF=>?_)
      ·refine go ?_ ?_
       refine mR (t_s 0 rfl rfl rfl tyO47.s) ⟨rfl,dA aE.cod,trivial⟩ ?_
       refine go ?_ ?_
       refine aQ (dY (is:=[]) (xs:=[]) (ps:=[]) rfl tyB32q rfl rfl trivial rfl) trivial ?_
       refine go ?_ ?_
       refine aQ (oM (C:=aA.cod) (xs:=[.tmp 134]) (ps:=[.va ([pI .i64 x159.kind]++[pI .i64 x159.a]++[pI .i64 x159.b]++[pI .i64 x159.edge]++(eQ x159.gap)++[pS aE.cod x159.j]++[pS aE.cod []]++(eQ 0)++(eQ x159.e))]) (zs:=[(⟨x159.kind,x159.a,x159.b,x159.edge,x159.gap,x159.j,[],0,x159.e⟩:aA)]) rfl tyS25 rfl ⟨⟨trivial,rfl⟩,trivial⟩ rfl) zU1 ?_
       obtain⟨x176,h177,hF⟩:=aZ hF
       refine nH 2 rfl tyS25 rfl rfl q111 rfl rfl h177 (fun b178 c179 H180 e181=>?_)
       cases e181
       obtain⟨v183,h184,hF⟩:=aZ hF
       refine go ?_ ?_
       exact aM (fun a w hh=>⟨x176,v183,b178,c179,(n110+[(⟨x159.kind,x159.a,x159.b,x159.edge,x159.gap,x159.j,[],0,x159.e⟩:aA)].length),hF,(eJ h177 q111),gJ [1,2,3,4,5,6] hh⟩)
      refine go ?_ ?_
      refine aQ (oM (C:=aA.cod) (xs:=[.tmp 134]) (ps:=[.va (aA.enc x159)]) (zs:=[x159]) rfl tyS25 rfl ⟨⟨trivial,rfl⟩,trivial⟩ rfl) zU1 ?_
      obtain⟨x185,h186,hF⟩:=aZ hF
      refine nH 2 rfl tyS25 rfl rfl q111 rfl rfl h186 (fun b187 c188 H189 e190=>?_)
      cases e190
      obtain⟨v192,h193,hF⟩:=aZ hF
      refine go ?_ ?_
      exact aM (fun a w hh=>⟨x185,v192,b187,c188,(n110+[x159].length),hF,(eJ h186 q111),gJ [1,2,3,4,5,6] hh⟩)
     refine go ?_ ?_
     refine aJ hF rfl (fun h194 hF=>?_) (fun h194 hF=>?_)
     ·refine aR (lH ?_)
      refine lH ?_
      obtain⟨v195,h196,hF⟩:=aZ hF
      refine aQ (aEw rfl h196) ⟨rfl,lY _ _,trivial⟩ ?_
      obtain⟨v197,h198,hF⟩:=bF hF pL
      refine aQ (cS rfl h198 rfl) zU2 ?_
      refine aQ (iU (off:=0) (k:=8) rfl tyF49_5) zU1 ?_
      refine mR (t_s 0 rfl rfl rfl tyO47.s) zU2 ?_
      refine bT ?_
      exact qZ Jj160 ⟨(⟨0,0,x113,0,0,v197,v139,v155,0⟩:aA),hF,rfl,rfl⟩ [0,1,2,3,4,5,6]
     refine iP ?_
     exact qZ Jj160 ⟨(⟨0,0,x113,0,0,v131,v139,v155,0⟩:aA),hF,rfl,rfl⟩ [0,1,2,3,4,5,6]
    refine cR ?_
    obtain rfl:=pZ hF
    exact qZ Jj121 ⟨x107,b108,c109,n110,hRl120,q111,rfl,rfl⟩ [0,1,2,3,4,5]
   refine go ?_ ?_
   refine aJ hF rfl (fun h199 hF=>?_) (fun h199 hF=>?_)
   ·obtain⟨v202,h203,hF⟩:=aZ hF
    obtain⟨v204,h205,hF⟩:=bF hF cY
    obtain⟨v206,h207,hF⟩:=aZ hF
    obtain⟨v208,h209,hF⟩:=bF hF cY
    obtain⟨v210,h211,hF⟩:=aZ hF
    obtain⟨v212,h213,hF⟩:=bF hF bS
    obtain⟨v214,h215,hF⟩:=aZ hF
    refine dr [0,1,0,4,0,16,48,0,176,432,1008,2047,4095] 12 1 ?_ (fun bs201 G200=>?_)
    obtain⟨x216,h217,hF⟩:=aZ hF
    refine mR (xV 2 rfl rfl h215 h217 tyA32.s) zU2 ?_
    refine bT ?_
    exact qZ Jj99 ⟨x216,hF,(bK h217 q73),rfl,rfl⟩ [0,1,2,3,4,5]
   refine iP ?_
   exact qZ Jj99 ⟨x69,hF,q73,rfl,rfl⟩ [0,1,2,3,4,5]
  refine aOW ?_
  refine aOW ?_
  refine aQ (aAg rfl) ⟨rfl,k_B _,trivial⟩ ?_
  refine aDY ?_
  refine bT (aU (aK (xZ (fun H E=>oV K a0 v4 x69 x75 x81=some r∧H=[⟨some b30,1,27,4,1,([pO b82 n84 c83]++[pO b76 n78 c77]++[pO b70 n72 c71]++[pO none 0 0])⟩,hO aA.cod none 0 49 0 ([]:List aA),hO cQ b70 c71 32 n72 x69,hO cQ b76 c77 32 n78 x75,hO aD.cod b82 c83 36 n84 x81,⟨some b1,1,27,4,1,([pS aD.cod ([]:List aD)]++[pS cQ ([]:List Rat)]++[pS cQ ([]:List Rat)]++[pS aA.cod ([]:List aA)])⟩]∧E=[(0,.vc (pS cI a0)),(4,.vc (pP (some b1) 0)),(5,.vc (pI .i64 v4)),(6,.vc (pP (some b30) 0)),(9,.vc (pB false))]) ?_ (fun Jj220=>?_))))
  ·rintro _ _ ⟨hF,rfl,rfl⟩
   unfold oV at hF
   refine go ?_ ?_
   refine aS (bV (fun H E=>∃(x235:List aA),∃(b236:Option Nat),∃(c237:Nat),∃(n238:Nat),o8 K x69 x75 x81 x235=some r∧x235.length=n238∧H=[⟨some b30,1,27,4,1,([pO b82 n84 c83]++[pO b76 n78 c77]++[pO b70 n72 c71]++[pO b236 n238 c237])⟩,hO aA.cod b236 c237 49 n238 x235,hO cQ b70 c71 32 n72 x69,hO cQ b76 c77 32 n78 x75,hO aD.cod b82 c83 36 n84 x81,⟨some b1,1,27,4,1,([pS aD.cod ([]:List aD)]++[pS cQ ([]:List Rat)]++[pS cQ ([]:List Rat)]++[pS aA.cod ([]:List aA)])⟩]∧E=[(4,.vc (pP (some b1) 0)),(6,.vc (pP (some b30) 0))]) ?_ (fun Jj242=>?_))
   ·rintro _ _ ⟨x235,b236,c237,n238,hF,q239,rfl,rfl⟩
    unfold o8 at hF
    refine aU (aK (aR (aBB 4 0 0 rfl q85 rfl rfl rfl rfl rfl ?_)))
    refine aBB 3 0 1 rfl q79 rfl rfl rfl rfl rfl ?_
    refine aBB 2 0 2 rfl q73 rfl rfl rfl rfl rfl ?_
    refine aBB 1 0 3 rfl q239 rfl rfl rfl rfl rfl ?_
    exact cF
   obtain⟨x235',hL,hRl241⟩:=aZ hF
   refine gB (fun k a w=>∃(x228:List aA),∃(x234:Int),∃(b229:Option Nat),∃(c230:Nat),∃(n231:Nat),d8 K a0 v4 k x228 x234=some x235'∧x228.length=n231∧hs _ [⟨some b30,1,27,4,1,([pO b82 n84 c83]++[pO b76 n78 c77]++[pO b70 n72 c71]++[pO b229 n231 c230])⟩,hO aA.cod b229 c230 49 n231 x228,hO cQ b70 c71 32 n72 x69,hO cQ b76 c77 32 n78 x75,hO aD.cod b82 c83 36 n84 x81,⟨some b1,1,27,4,1,([pS aD.cod ([]:List aD)]++[pS cQ ([]:List Rat)]++[pS cQ ([]:List Rat)]++[pS aA.cod ([]:List aA)])⟩] [(0,.vc (pS cI a0)),(4,.vc (pP (some b1) 0)),(5,.vc (pI .i64 v4)),(6,.vc (pP (some b30) 0)),(9,.vc (pB false)),(10,.vc (pI .i64 x234))] a w) K (fun a w ⟨_,_,_,_,_,hF,_,_⟩=>by cases hF) (fun k a w ⟨x228,x234,b229,c230,n231,hF,q232,hh⟩=>gC ?_ hh) (fun a w hh=>⟨([]:List aA),0,none,0,0,hL,rfl,gJ [0,1,2,3,4,5] hh⟩)
   rw [d8.eq_2] at hF
   obtain⟨v243,h244,hF⟩:=bF hF cY
   refine go ?_ ?_
   refine aJ hF rfl (fun h245 hF=>?_) (fun h245 hF=>?_)
   ·refine go ?_ ?_
    refine aS ?_
    obtain⟨v246,h247,v248,h249,hF⟩:=wP hF
    obtain⟨v250,h251,hF⟩:=bF hF cY
    obtain⟨v252,h253,hF⟩:=bF hF pL
    have hF:=sE h247 hF
    obtain⟨v256,h257,hF⟩:=aZ hF
    obtain⟨v258,h259,hF⟩:=bF hF cY
    obtain⟨v260,h261,hF⟩:=bF hF pL
    have hF:=sE h247 hF
    obtain⟨v264,h265,hF⟩:=aZ hF
    obtain⟨v266,h267,hF⟩:=bF hF cY
    have hF:=sE h247 hF
    have hF:=sE h265 hF
    obtain⟨v272,h273,hF⟩:=bF hF cY
    obtain⟨v274,h275,hF⟩:=aZ hF
    obtain⟨v276,h277,hF⟩:=bF hF bS
    refine go ?_ ?_
    refine aQ (dY (is:=[5,6,7,2]) (xs:=[.tmp 92,.tmp 99,.tmp 111,.tmp 112]) (ps:=[.vc (pS aE.cod v252),.vc (pS aE.cod v260),.va (eQ v276),.vc (pI .i64 x234)]) rfl tyB49q rfl rfl ⟨trivial,trivial,trivial,trivial,trivial⟩ rfl) ⟨rfl,rfl,rfl,rfl,trivial⟩ ?_
    refine aO rfl tyZ49q (fun b278=>?_)
    refine mR (t_s 0 rfl rfl rfl tyA49.s) zU2 ?_
    refine bT (aU (aK (xZ (fun H E=>gM K x228 x234 v250 v252 v260 v276 (d8 K a0 v4 k)=some x235'∧H=[⟨some b278,1,49,18,1,([pI .i64 0]++[pI .i64 0]++[pI .i64 x234]++[pI .i64 0]++(eQ 0)++[pS aE.cod v252]++[pS aE.cod v260]++(eQ v276)++(eQ 0))⟩,⟨some b30,1,27,4,1,([pO b82 n84 c83]++[pO b76 n78 c77]++[pO b70 n72 c71]++[pO b229 n231 c230])⟩,hO aA.cod b229 c230 49 n231 x228,hO cQ b70 c71 32 n72 x69,hO cQ b76 c77 32 n78 x75,hO aD.cod b82 c83 36 n84 x81,⟨some b1,1,27,4,1,([pS aD.cod ([]:List aD)]++[pS cQ ([]:List Rat)]++[pS cQ ([]:List Rat)]++[pS aA.cod ([]:List aA)])⟩]∧E=[(0,.vc (pS cI a0)),(4,.vc (pP (some b1) 0)),(5,.vc (pI .i64 v4)),(6,.vc (pP (some b30) 0)),(9,.vc (pB false)),(10,.vc (pI .i64 x234)),(11,.vc (pI .i64 v250)),(12,.vc (pP (some b278) 0))]) ?_ (fun Jj280=>?_))))
    ·rintro _ _ ⟨hF,rfl,rfl⟩
     unfold gM at hF
     obtain⟨v281,h282,hF⟩:=bF hF z9
     refine go ?_ ?_
     refine eW hF (fun h283 hF=>?_) (fun h283 hF=>?_)
     ·refine go ?_ ?_
      refine oU rfl ?_
      refine go ?_ ?_
      refine mR (t_s 0 rfl rfl rfl tyO47.s) ⟨rfl,dA aE.cod,trivial⟩ ?_
      refine go ?_ ?_
      refine aQ (dY (is:=[]) (xs:=[]) (ps:=[]) rfl tyB32q rfl rfl trivial rfl) trivial ?_
      refine go ?_ ?_
      refine aQ (oM (C:=aA.cod) (xs:=[.tmp 134]) (ps:=[.va ([pI .i64 0]++[pI .i64 0]++[pI .i64 x234]++[pI .i64 0]++(eQ 0)++[pS aE.cod v252]++[pS aE.cod []]++(eQ 0)++(eQ 0))]) (zs:=[(⟨0,0,x234,0,0,v252,[],0,0⟩:aA)]) rfl tyS25 rfl ⟨⟨trivial,rfl⟩,trivial⟩ rfl) zU1 ?_
      obtain⟨x284,h285,hF⟩:=aZ hF
      refine nH 2 rfl tyS25 rfl rfl q232 rfl rfl h285 (fun b286 c287 H288 e289=>?_)
      cases e289
      obtain⟨v291,h292,hF⟩:=aZ hF
      refine go ?_ ?_
      exact aM (fun a w hh=>⟨x284,v291,b286,c287,(n231+[(⟨0,0,x234,0,0,v252,[],0,0⟩:aA)].length),hF,(eJ h285 q232),gJ [1,2,3,4,5,6] hh⟩)
     obtain⟨v293,h294,hF⟩:=aZ hF
     refine go ?_ ?_
     refine aJ hF rfl (fun h295 hF=>?_) (fun h295 hF=>?_)
     ·refine go ?_ ?_
      refine mR (t_s 0 rfl rfl rfl tyO47.s) ⟨rfl,dA aE.cod,trivial⟩ ?_
      refine go ?_ ?_
      refine aQ (dY (is:=[]) (xs:=[]) (ps:=[]) rfl tyB32q rfl rfl trivial rfl) trivial ?_
      refine go ?_ ?_
      refine aQ (oM (C:=aA.cod) (xs:=[.tmp 134]) (ps:=[.va ([pI .i64 0]++[pI .i64 0]++[pI .i64 x234]++[pI .i64 0]++(eQ 0)++[pS aE.cod v252]++[pS aE.cod []]++(eQ 0)++(eQ 0))]) (zs:=[(⟨0,0,x234,0,0,v252,[],0,0⟩:aA)]) rfl tyS25 rfl ⟨⟨trivial,rfl⟩,trivial⟩ rfl) zU1 ?_
      obtain⟨x296,h297,hF⟩:=aZ hF
      refine nH 2 rfl tyS25 rfl rfl q232 rfl rfl h297 (fun b298 c299 H300 e301=>?_)
      cases e301
      obtain⟨v303,h304,hF⟩:=aZ hF
      refine go ?_ ?_
      exact aM (fun a w hh=>⟨x296,v303,b298,c299,(n231+[(⟨0,0,x234,0,0,v252,[],0,0⟩:aA)].length),hF,(eJ h297 q232),gJ [1,2,3,4,5,6] hh⟩)
     refine go ?_ ?_
     refine aQ (oM (C:=aA.cod) (xs:=[.tmp 134]) (ps:=[.va ([pI .i64 0]++[pI .i64 0]++[pI .i64 x234]++[pI .i64 0]++(eQ 0)++[pS aE.cod v252]++[pS aE.cod v260]++(eQ v276)++(eQ 0))]) (zs:=[(⟨0,0,x234,0,0,v252,v260,v276,0⟩:aA)]) rfl tyS25 rfl ⟨⟨trivial,rfl⟩,trivial⟩ rfl) zU1 ?_
     obtain⟨x305,h306,hF⟩:=aZ hF
     refine nH 2 rfl tyS25 rfl rfl q232 rfl rfl h306 (fun b307 c308 H309 e310=>?_)
     cases e310
     obtain⟨v312,h313,hF⟩:=aZ hF
     refine go ?_ ?_
     exact aM (fun a w hh=>⟨x305,v312,b307,c308,(n231+[(⟨0,0,x234,0,0,v252,v260,v276,0⟩:aA)].length),hF,(eJ h306 q232),gJ [1,2,3,4,5,6] hh⟩)
    refine go ?_ ?_
    refine yC rfl ?_
    refine iP ?_
    exact qZ Jj280 ⟨hF,rfl,rfl⟩ [0,1,2,3,4,5,6]
   refine cR ?_
   obtain rfl:=pZ hF
   exact qZ Jj242 ⟨x228,b229,c230,n231,hRl241,q232,rfl,rfl⟩ [0,1,2,3,4,5]
  refine go ?_ ?_
  refine yC rfl ?_
  refine iP ?_
  exact qZ Jj220 ⟨hF,rfl,rfl⟩ [0,1,2,3,4,5]
 obtain⟨⟨x69',x75',x81'⟩,hL,hRl87⟩:=aZ hF
 refine gB (fun k a w=>∃(x50:List Rat),∃(x56:List Rat),∃(x62:List aD),∃(x68:Int),∃(b51:Option Nat),∃(c52:Nat),∃(n53:Nat),∃(b57:Option Nat),∃(c58:Nat),∃(n59:Nat),∃(b63:Option Nat),∃(c64:Nat),∃(n65:Nat),iL K a0 v4 k x50 x56 x62 x68=some (x69',x75',x81')∧x50.length=n53∧x56.length=n59∧x62.length=n65∧hs _ [⟨some b30,1,27,4,1,([pO b63 n65 c64]++[pO b57 n59 c58]++[pO b51 n53 c52]++[pO none 0 0])⟩,hO aA.cod none 0 49 0 ([]:List aA),hO cQ b51 c52 32 n53 x50,hO cQ b57 c58 32 n59 x56,hO aD.cod b63 c64 36 n65 x62,⟨some b1,1,27,4,1,([pS aD.cod ([]:List aD)]++[pS cQ ([]:List Rat)]++[pS cQ ([]:List Rat)]++[pS aA.cod ([]:List aA)])⟩] [(0,.vc (pS cI a0)),(1,.vc (pB a1)),(4,.vc (pP (some b1) 0)),(5,.vc (pI .i64 v4)),(6,.vc (pP (some b30) 0)),(7,.vc (pI .i64 x68))] a w) K (fun a w ⟨_,_,_,_,_,_,_,_,_,_,_,_,_,hF,_,_,_,_⟩=>by cases hF) (fun k a w ⟨x50,x56,x62,x68,b51,c52,n53,b57,c58,n59,b63,c64,n65,hF,q54,q60,q66,hh⟩=>gC ?_ hh) (fun a w hh=>⟨([]:List Rat),([]:List Rat),([]:List aD),0,none,0,0,none,0,0,none,0,0,hL,rfl,rfl,rfl,gJ [0,1,2,3,4,5] hh⟩)
 rw [iL.eq_2] at hF
 refine go ?_ ?_
 refine aJ hF rfl (fun h314 hF=>?_) (fun h314 hF=>?_)
 ·refine go ?_ ?_
  refine aS ?_
  obtain⟨v315,h316,hF⟩:=aZ hF
  obtain⟨v317,h318,hF⟩:=bF hF cY
  obtain⟨v321,h322,v323,h324,v325,h326,v327,h328,hF⟩:=bn4 hF
  obtain⟨v329,h330,hF⟩:=aZ hF
  obtain⟨v331,h332,hF⟩:=bF hF bS
  refine go ?_ ?_
  refine gT [0,1,0,4,12,0,32,96,224,508,1020,2044,4095,8191,16383] 12 3 [.v (.vc (pP (some b30) 0)),.v (.vc (pO b63 n65 c64)),.v (.vc (pI .i64 v317)),.v (.vc (pI .i64 v321)),.v (.vc (pI .i64 v323)),.v (.vc (pI .i64 v317)),.v (.vc (pI .i64 v325)),.v (.vc (pI .i64 v327)),.v (.vc (pI .i64 v329)),.v (.va (eQ v331)),.v (.va ((eQ v331)++(eQ 0)++[pB false]++(eQ 0)++(eQ 0))),.v (.vc (pS aD.cod [(⟨v331,0,false,0,0⟩:aD)]))] bC ⟨d0 (iU (off:=0) (k:=0) rfl tyF27_0) zU1,d0 (fX 0 1 rfl rfl rfl rfl (.one tyO23)) zU1,d0 (bB (.inl rfl)) zU1,d0 (aDx rfl h322) ⟨rfl,lY _ _,trivial⟩,d0 (xJ rfl h324) ⟨lY _ _,rfl,trivial⟩,d0 (bB (.inl rfl)) zU1,d0 (aGi rfl h326) ⟨rfl,lY _ _,trivial⟩,d0 (aDx rfl h328) ⟨rfl,lY _ _,trivial⟩,d0 (xJ rfl h330) ⟨lY _ _,rfl,trivial⟩,d0 (cS rfl h332 rfl) zU2,d0 (dY (is:=[0]) (xs:=[.tmp 34]) (ps:=[.va (eQ v331)]) rfl tyB36q rfl rfl ⟨trivial,trivial⟩ rfl) zU1,d0 (oM (C:=aD.cod) (xs:=[.tmp 35]) (ps:=[.va ((eQ v331)++(eQ 0)++[pB false]++(eQ 0)++(eQ 0))]) (zs:=[(⟨v331,0,false,0,0⟩:aD)]) rfl tyS23 rfl ⟨⟨trivial,rfl⟩,trivial⟩ rfl) zU1,trivial⟩ (fun bs320 G319=>?_)
  obtain⟨x333,h334,hF⟩:=aZ hF
  refine nH 4 rfl tyS23 rfl rfl q66 rfl rfl h334 (fun b335 c336 H337 e338=>?_)
  cases e338
  obtain⟨v342,h343,v344,h345,v346,h347,v348,h349,hF⟩:=bn4 hF
  obtain⟨v350,h351,v352,h353,hF⟩:=wP hF
  obtain⟨v354,h355,hF⟩:=bF hF bS
  refine go ?_ ?_
  refine gT [0,1,0,4,12,28,0,64,192,448,1020,2044,4095,8191,16383] 12 3 [.v (.vc (pP (some b30) 1)),.v (.vc (pO b57 n59 c58)),.v (.vc (pI .i64 v317)),.v (.vc (pI .i64 v342)),.v (.vc (pI .i64 v344)),.v (.vc (pI .i64 v346)),.v (.vc (pI .i64 v317)),.v (.vc (pI .i64 v348)),.v (.vc (pI .i64 v350)),.v (.vc (pI .i64 v352)),.v (.va (eQ v354)),.v (.vc (pS cQ [v354]))] bC ⟨d0 (iU (off:=0) (k:=1) rfl tyF27_1) zU1,d0 (fX 0 1 rfl rfl rfl rfl (.one tyO24)) zU1,d0 (bB (.inl rfl)) zU1,d0 (aGi rfl h343) ⟨rfl,lY _ _,trivial⟩,d0 (aDx rfl h345) ⟨rfl,lY _ _,trivial⟩,d0 (aEw rfl h347) ⟨rfl,lY _ _,trivial⟩,d0 (bB (.inl rfl)) zU1,d0 (aGi rfl h349) ⟨rfl,lY _ _,trivial⟩,d0 (aDx rfl h351) ⟨rfl,lY _ _,trivial⟩,d0 (xJ rfl h353) ⟨lY _ _,rfl,trivial⟩,d0 (cS rfl h355 rfl) zU2,d0 (oM (C:=cQ) (xs:=[.tmp 49]) (ps:=[.va (eQ v354)]) (zs:=[v354]) rfl tyS24 rfl ⟨⟨trivial,rfl⟩,trivial⟩ rfl) zU1,trivial⟩ (fun bs341 G340=>?_)
  obtain⟨x356,h357,hF⟩:=aZ hF
  refine nH 3 rfl tyS24 rfl rfl q60 rfl rfl h357 (fun b358 c359 H360 e361=>?_)
  cases e361
  refine go ?_ ?_
  refine aQ (dY (is:=[]) (xs:=[]) (ps:=[]) rfl tyB32q rfl rfl trivial rfl) trivial ?_
  refine aQ (oM (C:=cQ) (xs:=[.tmp 55]) (ps:=[.va (eQ 0)]) (zs:=[0]) rfl tyS24 rfl ⟨⟨trivial,rfl⟩,trivial⟩ rfl) zU1 ?_
  obtain⟨x363,h364,hF⟩:=aZ hF
  refine nH 2 rfl tyS24 rfl rfl q54 rfl rfl h364 (fun b365 c366 H367 e368=>?_)
  cases e368
  obtain⟨v370,h371,hF⟩:=aZ hF
  refine go ?_ ?_
  exact aM (fun a w hh=>⟨x363,x356,x333,v370,b365,c366,(n53+[0].length),b358,c359,(n59+[v354].length),b335,c336,(n65+[(⟨v331,0,false,0,0⟩:aD)].length),hF,(eJ h364 q54),(eJ h357 q60),(eJ h334 q66),gJ [0,1,2,3,4,5] hh⟩)
 refine cR ?_
 obtain⟨rfl,rfl,rfl⟩:=sm3 hF
 exact qZ Jj88 ⟨x50,x56,x62,b51,c52,n53,b57,c58,n59,b63,c64,n65,hRl87,q54,q60,q66,rfl,rfl⟩ [0,1,2,3,4,5]
def gI (a0:Int):Option Rat:=
 (lT a0 1099511627776).bind fun v2=>(yK v2 6).bind fun v4=>(aT (1+v4)).bind fun v6=>(zX v2 6).bind fun v8=>(aT (16*v6)).bind fun v10=>(aT (v10+1)).bind fun v12=>(yK v8 v12).bind fun v14=>(aT (8*v6)).bind fun v16=>(aT (v14-v16)).bind fun v18=>(qof v18 v6).bind fun v20=>some v20
theorem zU {a0:Int} {r:Rat} (hF:gI a0=some r):Ct Tryz.prog 8 [.vc (pI .i64 a0)] (.va (eQ r)):=by
 unfold gI at hF
 refine aG Tryz.func8 rfl (by kernel_rfl) Tryz.ntmps8 rfl (fun w0 M0=>?_)
 refine aK (aR (aO rfl tyZ32q (fun b1=>?_)))
 obtain⟨v2,h3,hF⟩:=bF hF yQ
 obtain⟨v4,h5,v6,h7,v8,h9,v10,h11,hF⟩:=bn4 hF
 obtain⟨v12,h13,v14,h15,v16,h17,v18,h19,hF⟩:=bn4 hF
 obtain⟨v20,h21,hF⟩:=bF hF bS
 exact cF
def mV (K:Nat) (x17:List Rat):Option (List Rat):=
 some x17
def cV (K:Nat) (a0:List Int) (a1:Int) (a2:Int):Nat→(List Rat)→Int→Option (List Rat)
 |0,_,_=>none
 |k+1,x10,x16=>bif(decide (x16<a2)) then((aT (a1+x16)).bind fun v26=>(bE a0 v26 1073741824).bind fun v28=>(gI v28).bind fun v30=>(qR x10 [v30]).bind fun x32=>(aT (x16+1)).bind fun v39=>cV K a0 a1 a2 k x32 v39) else(some x10)
def nA (K:Nat) (a0:List Int) (a1:Int) (a2:Int):Option (List Rat):=
 (cV K a0 a1 a2 K ([]:List Rat) 0).bind fun x17=>mV K x17
theorem aCb {K:Nat} {a0:List Int} {a1:Int} {a2:Int} {r:List Rat} (hF:nA K a0 a1 a2=some r):Ct Tryz.prog 11 [.vc (pS cI a0),.vc (pI .i64 a1),.vc (pI .i64 a2)] (.vc (pS cQ r)):=by
 unfold nA at hF
 refine aG Tryz.func11 rfl (by kernel_rfl) Tryz.ntmps11 rfl (fun w0 M0=>?_)
 refine aK (aR (aQ (bB (.inr rfl)) ⟨dA cQ,trivial⟩ ?_))
 refine bT (aU (aK (aR (tV cQ 32 rfl ?_))))
 refine go ?_ ?_
 refine aS (bV (fun H E=>∃(x17:List Rat),∃(b18:Option Nat),∃(c19:Nat),∃(n20:Nat),mV K x17=some r∧x17.length=n20∧H=[hO cQ b18 c19 32 n20 x17]∧E=[(7,.vc (pO b18 n20 c19))]) ?_ (fun Jj24=>?_))
 ·rintro _ _ ⟨x17,b18,c19,n20,hF,q21,rfl,rfl⟩
  unfold mV at hF
  refine go ?_ ?_
  refine sT (sS (aAd 0 [6,7,23] rfl q21 ⟨rfl,rfl,rfl,trivial⟩ rfl ?_))
  obtain rfl:=pZ hF
  exact rY (.inl rfl) Tryz.results11 (.tmp rfl .nil) rfl rfl
 obtain⟨x17',hL,hRl23⟩:=aZ hF
 refine gB (fun k a w=>∃(x10:List Rat),∃(x16:Int),∃(b11:Option Nat),∃(c12:Nat),∃(n13:Nat),cV K a0 a1 a2 k x10 x16=some x17'∧x10.length=n13∧hs _ [hO cQ b11 c12 32 n13 x10] [(0,.vc (pS cI a0)),(1,.vc (pI .i64 a1)),(2,.vc (pI .i64 a2)),(7,.vc (pO b11 n13 c12)),(8,.vc (pI .i64 x16))] a w) K (fun a w ⟨_,_,_,_,_,hF,_,_⟩=>by cases hF) (fun k a w ⟨x10,x16,b11,c12,n13,hF,q14,hh⟩=>gC ?_ hh) (fun a w hh=>⟨([]:List Rat),0,none,0,0,hL,rfl,gJ [0] hh⟩)
 rw [cV.eq_2] at hF
 refine go ?_ ?_
 refine aJ hF rfl (fun h25 hF=>?_) (fun h25 hF=>?_)
 ·refine go ?_ ?_
  refine aS ?_
  obtain⟨v26,h27,hF⟩:=aZ hF
  obtain⟨v28,h29,hF⟩:=bF hF cY
  obtain⟨v30,h31,hF⟩:=bF hF zU
  refine go ?_ ?_
  refine aQ (oM (C:=cQ) (xs:=[.tmp 20]) (ps:=[.va (eQ v30)]) (zs:=[v30]) rfl tyS24 rfl ⟨⟨trivial,rfl⟩,trivial⟩ rfl) zU1 ?_
  obtain⟨x32,h33,hF⟩:=aZ hF
  refine nH 0 rfl tyS24 rfl rfl q14 rfl rfl h33 (fun b34 c35 H36 e37=>?_)
  cases e37
  obtain⟨v39,h40,hF⟩:=aZ hF
  refine go ?_ ?_
  exact aM (fun a w hh=>⟨x32,v39,b34,c35,(n13+[v30].length),hF,(eJ h33 q14),gJ [0] hh⟩)
 refine cR ?_
 obtain rfl:=pZ hF
 exact qZ Jj24 ⟨x10,b11,c12,n13,hRl23,q14,rfl,rfl⟩ [0]
def rE (K:Nat):Option Bool:=
 some true
def jU (K:Nat) (a0:List Rat):Nat→Int→Option (LR Bool Unit)
 |0,_=>none
 |k+1,x2=>bif(decide (x2<(a0.length:Int))) then((bL a0 x2).bind fun v6=>(aEI v6).bind fun v9=>bif(!v9) then(some (.ret false)) else((aT (x2+1)).bind fun v12=>jU K a0 k v12)) else(some (.go ()))
def o6 (K:Nat) (a0:List Rat):Option Bool:=
 (jU K a0 K 0).bind fun o=>match o with| .ret r=>some r| .go _=>rE K
theorem aAy {K:Nat} {a0:List Rat} {r:Bool} (hF:o6 K a0=some r):Ct Tryz.prog 149 [.vc (pS cQ a0)] (.vc (pB r)):=by
 unfold o6 at hF
 refine aG Tryz.func149 rfl (by kernel_rfl) Tryz.ntmps149 rfl (fun w0 M0=>?_)
 refine go ?_ ?_
 refine aS (bV (fun H E=>rE K=some r∧H=[]∧E=[]) ?_ (fun Jj4=>?_))
 ·rintro _ _ ⟨hF,rfl,rfl⟩
  unfold rE at hF
  exact cF
 obtain⟨ol3,hL,hRl3⟩:=aZ hF
 refine gB (fun k a w=>∃(x2:Int),jU K a0 k x2=some ol3∧hs _ [] [(5,.vc (pS cQ a0)),(6,.vc (pI .i64 (a0.length:Int))),(7,.vc (pI .i64 x2))] a w) K (fun a w ⟨_,hF,_⟩=>by cases hF) (fun k a w ⟨x2,hF,hh⟩=>gC ?_ hh) (fun a w hh=>⟨0,hL,gJ [] hh⟩)
 rw [jU.eq_2] at hF
 refine go ?_ ?_
 refine aJ hF rfl (fun h5 hF=>?_) (fun h5 hF=>?_)
 ·refine go ?_ ?_
  refine aS ?_
  obtain⟨v6,h7,hF⟩:=aZ hF
  refine go ?_ ?_
  refine aO rfl tyZ32q (fun b8=>?_)
  obtain⟨v9,h10,hF⟩:=bF hF vB
  refine go ?_ ?_
  refine aJ hF rfl (fun h11 hF=>?_) (fun h11 hF=>?_)
  ·exact cF
  obtain⟨v12,h13,hF⟩:=aZ hF
  refine go ?_ ?_
  exact aM (fun a w hh=>⟨v12,hF,gJ [] hh⟩)
 refine cR ?_
 obtain rfl:=pZ hF
 exact qZ Jj4 ⟨hRl3,rfl,rfl⟩ []
def qL (K:Nat):Option Bool:=
 some true
def jA (K:Nat) (a0:List (List Rat)) (a1:List Rat):Nat→Int→Option (LR Bool Unit)
 |0,_=>none
 |k+1,x7=>bif(decide (x7<(a0.length:Int))) then((bL a0 x7).bind fun v11=>bif((v11.length:Int) != (a1.length:Int)) then(some (.ret false)) else((o6 K v11).bind fun v14=>bif(!v14) then(some (.ret false)) else((aT (x7+1)).bind fun v17=>jA K a0 a1 k v17))) else(some (.go ()))
def qE (K:Nat) (a0:List (List Rat)) (a1:List Rat):Option Bool:=
 bif((a0.length:Int) != (a1.length:Int)) then(some false) else(bif(decide (32<(a0.length:Int))) then(some false) else((o6 K a1).bind fun v3=>bif(!v3) then(some false) else((jA K a0 a1 K 0).bind fun o=>match o with| .ret r=>some r| .go _=>qL K)))
theorem aDh {K:Nat} {a0:List (List Rat)} {a1:List Rat} {r:Bool} (hF:qE K a0 a1=some r):Ct Tryz.prog 85 [.vc (pS (kK cQ) a0),.vc (pS cQ a1)] (.vc (pB r)):=by
 unfold qE at hF
 refine aG Tryz.func85 rfl (by kernel_rfl) Tryz.ntmps85 rfl (fun w0 M0=>?_)
 refine go ?_ ?_
 refine eW hF (fun h1 hF=>?_) (fun h1 hF=>?_)
 ·refine go ?_ ?_
  refine oU rfl ?_
  exact cF
 refine go ?_ ?_
 refine eW hF (fun h2 hF=>?_) (fun h2 hF=>?_)
 ·refine go ?_ ?_
  refine oU rfl ?_
  exact cF
 obtain⟨v3,h4,hF⟩:=bF hF aAy
 refine go ?_ ?_
 refine aJ hF rfl (fun h5 hF=>?_) (fun h5 hF=>?_)
 ·exact cF
 refine go ?_ ?_
 refine aS (bV (fun H E=>qL K=some r∧H=[]∧E=[]) ?_ (fun Jj9=>?_))
 ·rintro _ _ ⟨hF,rfl,rfl⟩
  unfold qL at hF
  exact cF
 obtain⟨ol8,hL,hRl8⟩:=aZ hF
 refine gB (fun k a w=>∃(x7:Int),jA K a0 a1 k x7=some ol8∧hs _ [] [(1,.vc (pS cQ a1)),(22,.vc (pS (kK cQ) a0)),(23,.vc (pI .i64 (a0.length:Int))),(24,.vc (pI .i64 x7))] a w) K (fun a w ⟨_,hF,_⟩=>by cases hF) (fun k a w ⟨x7,hF,hh⟩=>gC ?_ hh) (fun a w hh=>⟨0,hL,gJ [] hh⟩)
 rw [jA.eq_2] at hF
 refine go ?_ ?_
 refine aJ hF rfl (fun h10 hF=>?_) (fun h10 hF=>?_)
 ·refine go ?_ ?_
  refine aS ?_
  obtain⟨v11,h12,hF⟩:=aZ hF
  refine go ?_ ?_
  refine eW hF (fun h13 hF=>?_) (fun h13 hF=>?_)
  ·refine go ?_ ?_
   refine oU rfl ?_
   exact cF
  obtain⟨v14,h15,hF⟩:=bF hF aAy
  refine go ?_ ?_
  refine aJ hF rfl (fun h16 hF=>?_) (fun h16 hF=>?_)
  ·exact cF
  obtain⟨v17,h18,hF⟩:=aZ hF
  refine go ?_ ?_
  exact aM (fun a w hh=>⟨v17,hF,gJ [] hh⟩)
 refine cR ?_
 obtain rfl:=pZ hF
 exact qZ Jj9 ⟨hRl8,rfl,rfl⟩ []
def oG (K:Nat):Option Bool:=
 some false
def fZ (K:Nat) (a0:List Rat):Nat→Int→Option (LR Bool Unit)
 |0,_=>none
 |k+1,x2=>bif(decide (x2<(a0.length:Int))) then((bL a0 x2).bind fun v6=>(zN v6).bind fun v9=>bif(decide (v9<0)) then(some (.ret true)) else((aT (x2+1)).bind fun v12=>fZ K a0 k v12)) else(some (.go ()))
def nL (K:Nat) (a0:List Rat):Option Bool:=
 (fZ K a0 K 0).bind fun o=>match o with| .ret r=>some r| .go _=>oG K
theorem aBM {K:Nat} {a0:List Rat} {r:Bool} (hF:nL K a0=some r):Ct Tryz.prog 87 [.vc (pS cQ a0)] (.vc (pB r)):=by
 unfold nL at hF
 refine aG Tryz.func87 rfl (by kernel_rfl) Tryz.ntmps87 rfl (fun w0 M0=>?_)
 refine go ?_ ?_
 refine aS (bV (fun H E=>oG K=some r∧H=[]∧E=[]) ?_ (fun Jj4=>?_))
 ·rintro _ _ ⟨hF,rfl,rfl⟩
  unfold oG at hF
  exact cF
 obtain⟨ol3,hL,hRl3⟩:=aZ hF
 refine gB (fun k a w=>∃(x2:Int),fZ K a0 k x2=some ol3∧hs _ [] [(5,.vc (pS cQ a0)),(6,.vc (pI .i64 (a0.length:Int))),(7,.vc (pI .i64 x2))] a w) K (fun a w ⟨_,hF,_⟩=>by cases hF) (fun k a w ⟨x2,hF,hh⟩=>gC ?_ hh) (fun a w hh=>⟨0,hL,gJ [] hh⟩)
 rw [fZ.eq_2] at hF
 refine go ?_ ?_
 refine aJ hF rfl (fun h5 hF=>?_) (fun h5 hF=>?_)
 ·refine go ?_ ?_
  refine aS ?_
  obtain⟨v6,h7,hF⟩:=aZ hF
  refine go ?_ ?_
  refine aO rfl tyZ32q (fun b8=>?_)
  obtain⟨v9,h10,hF⟩:=bF hF lN
  refine go ?_ ?_
  refine aJ hF rfl (fun h11 hF=>?_) (fun h11 hF=>?_)
  ·exact cF
  obtain⟨v12,h13,hF⟩:=aZ hF
  refine go ?_ ?_
  exact aM (fun a w hh=>⟨v12,hF,gJ [] hh⟩)
 refine cR ?_
 obtain rfl:=pZ hF
 exact qZ Jj4 ⟨hRl3,rfl,rfl⟩ []
def mX (K:Nat) (a1:List Rat) (x59:List Int) (x65:List Nat) (x71:List (List Rat)):Option (Int×(List Nat)×(List Int)×(List (List Rat))):=
 some ((a1.length:Int),x65,x59,x71)
def mA (K:Nat) (a1:List Rat) (x40:List Int) (x46:List Nat) (x52:List (List Rat)) (x58:Int) (recl77:(List Int)→(List Nat)→(List (List Rat))→Int→Option ((List Int)×(List Nat)×(List (List Rat)))) (x110:List Rat):Option ((List Int)×(List Nat)×(List (List Rat))):=
 (aT (2*(a1.length:Int))).bind fun v118=>(qof (-1) 1).bind fun v120=>(bL x110 v118).bind fun v122=>(oO x110 v118 v120).bind fun x124=>(aT (2*(a1.length:Int))).bind fun v127=>(aT (v127+1)).bind fun v129=>(bL a1 x58).bind fun v131=>(bL x124 v129).bind fun v133=>(oO x124 v129 v131).bind fun x135=>(qR x46 [x52.length]).bind fun x139=>(qR x40 [x58]).bind fun x146=>(aT (x58+1)).bind fun v153=>recl77 x146 x139 (x52++[x135]) v153
def fB (K:Nat) (a0:List (List Rat)) (a1:List Rat) (x58:Int):Nat→(List Rat)→Int→Option (List Rat)
 |0,_,_=>none
 |k+1,x103,x109=>bif(decide (x109<(a1.length:Int))) then((aT ((a1.length:Int)+x109)).bind fun v156=>(bL a0 x58).bind fun v158=>(bL v158 x109).bind fun v160=>(aEz v160).bind fun v162=>(bL x103 v156).bind fun v164=>(oO x103 v156 v162).bind fun x166=>(aT (x109+1)).bind fun v169=>fB K a0 a1 x58 k x166 v169) else(some x103)
def eG (K:Nat) (a0:List (List Rat)) (a1:List Rat):Nat→(List Int)→(List Nat)→(List (List Rat))→Int→Option ((List Int)×(List Nat)×(List (List Rat)))
 |0,_,_,_,_=>none
 |k+1,x40,x46,x52,x58=>bif(decide (x58<(a1.length:Int))) then((aT (2*(a1.length:Int))).bind fun v80=>(aT (v80+2)).bind fun v82=>(yJ v82 0).bind fun x84=>(qof 1 1).bind fun v89=>(bL x84 x58).bind fun v91=>(oO x84 x58 v89).bind fun x93=>(fB K a0 a1 x58 K x93 0).bind fun x110=>mA K a1 x40 x46 x52 x58 (eG K a0 a1 k) x110) else(some (x40,x46,x52))
def nB (K:Nat) (a0:List (List Rat)) (a1:List Rat):Option (Int×(List Nat)×(List Int)×(List (List Rat))):=
 (eG K a0 a1 K ([]:List Int) ([]:List Nat) ([]:List (List Rat)) 0).bind fun(x59,x65,x71)=>mX K a1 x59 x65 x71
theorem aBn {K:Nat} {a0:List (List Rat)} {a1:List Rat} {r:Int×(List Nat)×(List Int)×(List (List Rat))} (hF:nB K a0 a1=some r):CtO Tryz.prog 86 [] [.vc (pS (kK cQ) a0),.vc (pS cQ a1)] (fun Ho q=>∃b1171 b1175 c1176 n1177 b1180 c1181 n1182 g1185 N1186,r.2.1.length=n1177∧r.2.2.1.length=n1182∧r.2.2.2.length=N1186∧iE g1185 r.2.2.2∧(∀k∈r.2.1,k<N1186)∧Ho=([⟨some b1171,1,138,3,1,([pI .i64 r.1]++[pO b1175 n1177 c1176]++[pO b1180 n1182 c1181])⟩,hO (cH g1185) b1175 c1176 24 n1177 r.2.1,hO cI b1180 c1181 3 n1182 r.2.2.1]++f8 cQ 32 g1185 r.2.2.2)∧q=.vc (pP (some b1171) 0)):=by
 unfold nB at hF
 refine aG Tryz.func86 rfl (by kernel_rfl) Tryz.ntmps86 rfl (fun w0 M0=>?_)
 refine aK (aR (aQ (bB (p:=.any) (.inr rfl)) ⟨fun _=>trivial,trivial⟩ ?_))
 refine bT (aU (aK (aR (lH ?_))))
 refine aQ (uN rfl tyS24) zU1 ?_
 refine aDY ?_
 refine bT (aU (aK (aR (lH ?_))))
 refine aLv cQ 32 ?_
 refine aCc (cH ([]:List u7)) 24 ?_
 refine aCc cI 3 ?_
 refine aQ (dY (is:=[0]) (xs:=[.tmp 12]) (ps:=[.vc (pI .i64 (a1.length:Int))]) rfl tyB138_o1_o2q rfl rfl ⟨trivial,trivial⟩ rfl) zU1 ?_
 refine cC rfl rfl trivial (fun b20=>?_)
 refine go ?_ ?_
 refine aS (bV (fun H E=>∃(x59:List Int),∃(x65:List Nat),∃(x71:List (List Rat)),∃(b60:Option Nat),∃(c61:Nat),∃(n62:Nat),∃(b66:Option Nat),∃(c67:Nat),∃(n68:Nat),∃(g72:List u7),∃(N73:Nat),mX K a1 x59 x65 x71=some r∧x59.length=n62∧x65.length=n68∧x71.length=N73∧iE g72 x71∧(∀k∈x65,k<N73)∧H=([⟨some b20,1,138,3,1,([pI .i64 (a1.length:Int)]++[pO b66 n68 c67]++[pO b60 n62 c61])⟩,hO cI b60 c61 3 n62 x59,hO (cH g72) b66 c67 24 n68 x65]++f8 cQ 32 g72 x71)∧E=[(6,.vc (pP (some b20) 0))]) ?_ (fun Jj78=>?_))
 ·rintro _ _ ⟨x59,x65,x71,b60,c61,n62,b66,c67,n68,g72,N73,hF,q63,q69,q74,q75,q76,rfl,rfl⟩
  unfold mX at hF
  refine go ?_ ?_
  refine sT (sS ?_)
  obtain rfl:=pZ hF
  exact aAj (.inl rfl) Tryz.results86 (.tmp rfl .nil) rfl 3 [0,2,1] rfl rfl (by decide) ⟨b20,b66,c67,n68,b60,c61,n62,g72,N73,q69,q63,q74,q75,q76,rfl,rfl⟩
 obtain⟨⟨x59',x65',x71'⟩,hL,hRl77⟩:=aZ hF
 refine gB (fun k a w=>∃(x40:List Int),∃(x46:List Nat),∃(x52:List (List Rat)),∃(x58:Int),∃(b41:Option Nat),∃(c42:Nat),∃(n43:Nat),∃(b47:Option Nat),∃(c48:Nat),∃(n49:Nat),∃(g53:List u7),∃(N54:Nat),eG K a0 a1 k x40 x46 x52 x58=some (x59',x65',x71')∧x40.length=n43∧x46.length=n49∧x52.length=N54∧iE g53 x52∧(∀k∈x46,k<N54)∧hs _ ([⟨some b20,1,138,3,1,([pI .i64 (a1.length:Int)]++[pO b47 n49 c48]++[pO b41 n43 c42])⟩,hO cI b41 c42 3 n43 x40,hO (cH g53) b47 c48 24 n49 x46]++f8 cQ 32 g53 x52) [(0,.vc (pS (kK cQ) a0)),(1,.vc (pS cQ a1)),(5,.vc (pI .i64 (a1.length:Int))),(6,.vc (pP (some b20) 0)),(15,.vc (pI .i64 (a1.length:Int))),(16,.vc (pI .i64 x58))] a w) K (fun a w ⟨_,_,_,_,_,_,_,_,_,_,_,_,hF,_,_,_,_,_,_⟩=>by cases hF) (fun k a w ⟨x40,x46,x52,x58,b41,c42,n43,b47,c48,n49,g53,N54,hF,q44,q50,q55,q56,q57,hh⟩=>gC ?_ hh) (fun a w hh=>⟨([]:List Int),([]:List Nat),([]:List (List Rat)),0,none,0,0,none,0,0,([]:List u7),0,hL,rfl,rfl,(rfl),aE1,(by simp),bR 3 [0,1,2] rfl rfl (by decide) (by exact⟨rfl,rfl,rfl,rfl,rfl,rfl,trivial⟩) hh⟩)
 rw [eG.eq_2] at hF
 refine go ?_ ?_
 refine aJ hF rfl (fun h79 hF=>?_) (fun h79 hF=>?_)
 ·refine go ?_ ?_
  refine aS ?_
  obtain⟨v80,h81,v82,h83,x84,h85,hF⟩:=bn3 hF
  refine go ?_ ?_
  refine uV (C:=cQ) rfl tyS24 rfl tyZ32q rfl h85 (fun b86=>?_)
  obtain⟨v89,h90,hF⟩:=bF hF xE
  obtain⟨v91,h92,x93,h94,hF⟩:=wP hF
  refine go ?_ ?_
  refine aS (bV (fun H E=>∃(x110:List Rat),mA K a1 x40 x46 x52 x58 (eG K a0 a1 k) x110=some (x59',x65',x71')∧x110.length=x84.length∧H=([hO cQ b86 x84.length 32 x84.length x110,⟨some b20,1,138,3,1,([pI .i64 (a1.length:Int)]++[pO b47 n49 c48]++[pO b41 n43 c42])⟩,hO cI b41 c42 3 n43 x40,hO (cH g53) b47 c48 24 n49 x46]++f8 cQ 32 g53 x52)∧E=[(0,.vc (pS (kK cQ) a0)),(1,.vc (pS cQ a1)),(5,.vc (pI .i64 (a1.length:Int))),(6,.vc (pP (some b20) 0)),(7,.vc (pI .i64 x58)),(8,.vc (pO b86 x84.length x84.length)),(15,.vc (pI .i64 (a1.length:Int))),(16,.vc (pI .i64 x58))]) ?_ (fun Jj117=>?_))
  ·rintro _ _ ⟨x110,hF,q114,rfl,rfl⟩
   unfold mA at hF
   have hF:=sE h81 hF
   obtain⟨v120,h121,hF⟩:=bF hF xE
   obtain⟨v122,h123,x124,h125,hF⟩:=wP hF
   have hF:=sE h81 hF
   obtain⟨v129,h130,v131,h132,v133,h134,x135,h136,hF⟩:=bn4 hF
   refine go ?_ ?_
   refine aQ (aSm (rs:=x52) rfl tyS74 q56.1 (show([hO cQ b86 x84.length 32 x84.length x135,⟨some b20,1,138,3,1,([pI .i64 (a1.length:Int)]++[pO b47 n49 c48]++[pO b41 n43 c42])⟩,hO cI b41 c42 3 n43 x40,hO (cH (g53++[(b86,x84.length,x84.length)])) b47 c48 24 n49 x46]++f8 cQ 32 g53 x52)=([hO cQ b86 x84.length 32 x84.length x135,⟨some b20,1,138,3,1,([pI .i64 (a1.length:Int)]++[pO b47 n49 c48]++[pO b41 n43 c42])⟩,hO cI b41 c42 3 n43 x40,hO (cH g53) b47 c48 24 n49 x46]++f8 cQ 32 g53 x52) from by rw [aIq (N:=x52.length) (b86,x84.length,x84.length) q56.1 (aDO q55 q57)])) zU1 ?_
   refine aEB (g:=(b86,x84.length,x84.length)) 0 4 rfl rfl rfl q56 ?_
   refine aRY 8 rfl (aOT (N:=x52.length) (b86,x84.length,x84.length) q56.1) ?_
   obtain⟨x139,h140,hF⟩:=aZ hF
   refine nH 2 rfl tyS74 rfl rfl q50 rfl rfl h140 (fun b141 c142 H143 e144=>?_)
   cases e144
   refine go ?_ ?_
   refine aQ (oM (C:=cI) (xs:=[.tmp 74]) (ps:=[.vc (pI .i64 x58)]) (zs:=[x58]) rfl tyS22 rfl ⟨⟨trivial,rfl⟩,trivial⟩ rfl) zU1 ?_
   obtain⟨x146,h147,hF⟩:=aZ hF
   refine nH 1 rfl tyS22 rfl rfl q44 rfl rfl h147 (fun b148 c149 H150 e151=>?_)
   cases e151
   obtain⟨v153,h154,hF⟩:=aZ hF
   refine go ?_ ?_
   exact aM (fun a w hh=>⟨x146,x139,(x52++[x135]),v153,b148,c149,(n43+[x58].length),b141,c142,(n49+[x52.length].length),(g53++[(b86,x84.length,x84.length)]),(N54+1),hF,(eJ h147 q44),(eJ h140 q50),(aEC q55),(aAG q56 (bK h136 (bK h125 q114))),(aOv q57 q55 h140),bR 3 [0,1,2] rfl rfl (by decide) (by exact⟨rfl,rfl,rfl,rfl,rfl,rfl,trivial⟩) hh⟩)
  obtain⟨x110',hL,hRl116⟩:=aZ hF
  refine gB (fun k a w=>∃(x103:List Rat),∃(x109:Int),fB K a0 a1 x58 k x103 x109=some x110'∧x103.length=x84.length∧hs _ ([hO cQ b86 x84.length 32 x84.length x103,⟨some b20,1,138,3,1,([pI .i64 (a1.length:Int)]++[pO b47 n49 c48]++[pO b41 n43 c42])⟩,hO cI b41 c42 3 n43 x40,hO (cH g53) b47 c48 24 n49 x46]++f8 cQ 32 g53 x52) [(0,.vc (pS (kK cQ) a0)),(1,.vc (pS cQ a1)),(5,.vc (pI .i64 (a1.length:Int))),(6,.vc (pP (some b20) 0)),(7,.vc (pI .i64 x58)),(8,.vc (pO b86 x84.length x84.length)),(15,.vc (pI .i64 (a1.length:Int))),(16,.vc (pI .i64 x58)),(27,.vc (pI .i64 (a1.length:Int))),(28,.vc (pI .i64 x109))] a w) K (fun a w ⟨_,_,hF,_,_⟩=>by cases hF) (fun k a w ⟨x103,x109,hF,q107,hh⟩=>gC ?_ hh) (fun a w hh=>⟨x93,0,hL,(bK h94 rfl),bR 4 [0,1,2,3] rfl rfl (by decide) (by exact⟨rfl,rfl,rfl,rfl,rfl,rfl,rfl,rfl,rfl,rfl,trivial⟩) hh⟩)
  rw [fB.eq_2] at hF
  refine go ?_ ?_
  refine aJ hF rfl (fun h155 hF=>?_) (fun h155 hF=>?_)
  ·refine go ?_ ?_
   refine aS ?_
   obtain⟨v156,h157,v158,h159,v160,h161,hF⟩:=bn3 hF
   obtain⟨v162,h163,hF⟩:=bF hF tL
   obtain⟨v164,h165,x166,h167,v169,h170,hF⟩:=bn3 hF
   refine go ?_ ?_
   exact aM (fun a w hh=>⟨x166,v169,hF,(bK h167 q107),bR 4 [0,1,2,3] rfl rfl (by decide) (by exact⟨rfl,rfl,rfl,rfl,rfl,rfl,rfl,rfl,rfl,rfl,trivial⟩) hh⟩)
  refine cR ?_
  obtain rfl:=pZ hF
  exact lD Jj117 ⟨x103,hRl116,q107,rfl,rfl⟩ 4 [0,1,2,3] rfl rfl ⟨rfl,rfl,rfl,rfl,rfl,rfl,rfl,rfl,trivial⟩
 refine cR ?_
 obtain⟨rfl,rfl,rfl⟩:=sm3 hF
 exact lD Jj78 ⟨x40,x46,x52,b41,c42,n43,b47,c48,n49,g53,N54,hRl77,q44,q50,q55,q56,q57,rfl,rfl⟩ 3 [0,1,2] rfl rfl zU1
def lI (K:Nat) (x69:List Rat) (x75:List Rat):Option aW:=
 some (⟨x75,x69,0⟩:aW)
def bP (K:Nat) (a0:Int) (a1:List Nat) (a2:List Int) (a3:List (List Rat)):Nat→(List Rat)→(List Rat)→Int→Option ((List Rat)×(List Rat))
 |0,_,_,_=>none
 |k+1,x56,x62,x68=>bif(decide (x68<(a2.length:Int))) then((bL a2 x68).bind fun v84=>(bL a1 x68).bind fun v88=>(aT (2*a0)).bind fun v90=>(aT (v90+1)).bind fun v92=>(bL (a3.getD v88 []) v92).bind fun v94=>bif(decide (v84<a0)) then((bL x56 v84).bind fun v97=>(oO x56 v84 v94).bind fun x99=>(aT (x68+1)).bind fun v102=>bP K a0 a1 a2 a3 k x99 x62 v102) else((aT (2*a0)).bind fun v104=>bif(decide (v84<v104)) then((aT (v84-a0)).bind fun v109=>(bL x62 v109).bind fun v111=>(oO x62 v109 v94).bind fun x113=>(aT (x68+1)).bind fun v116=>bP K a0 a1 a2 a3 k x56 x113 v116) else((aT (x68+1)).bind fun v118=>bP K a0 a1 a2 a3 k x56 x62 v118))) else(some (x56,x62))
def eU (K:Nat) (a0:Int) (a1:List Nat) (a2:List Int) (a3:List (List Rat)):Option aW:=
 (yJ a0 0).bind fun x23=>(yJ a0 0).bind fun x27=>(bP K a0 a1 a2 a3 K x27 x23 0).bind fun(x69,x75)=>lI K x69 x75
theorem rI {K:Nat} {a0:Int} {a1:List Nat} {a2:List Int} {a3:List (List Rat)} {r:aW} (hF:eU K a0 a1 a2 a3=some r) {p0:Nat} {b4:Option Nat} {c5 n6:Nat} {b9:Option Nat} {c10 n11:Nat} {g14:List u7} {N15:Nat} (q7:a1.length=n6) (q12:a2.length=n11) (q16:a3.length=N15) (q17:iE g14 a3) (q18:∀k∈a1,k<N15):CtO Tryz.prog 88 ([⟨some p0,1,138,3,1,([pI .i64 a0]++[pO b4 n6 c5]++[pO b9 n11 c10])⟩,hO (cH g14) b4 c5 24 n6 a1,hO cI b9 c10 3 n11 a2]++f8 cQ 32 g14 a3) [.vc (pP (some p0) 0)] (fun Ho q=>Ho=([⟨some p0,1,138,3,1,([pI .i64 a0]++[pO b4 n6 c5]++[pO b9 n11 c10])⟩,hO (cH g14) b4 c5 24 n6 a1,hO cI b9 c10 3 n11 a2]++f8 cQ 32 g14 a3)∧q=.va (aW.enc r)):=by
 unfold eU at hF
 refine aG Tryz.func88 rfl (by kernel_rfl) Tryz.ntmps88 rfl (fun w0 M0=>?_)
 refine aK (aR (aO rfl tyZ78q (fun b20=>?_)))
 obtain⟨x23,h24,hF⟩:=aZ hF
 have hF:=sE h24 hF
 refine go ?_ ?_
 refine sF (HsM [(0,fun G21=>([⟨some b20,1,78,3,1,([pS cQ ([]:List Rat)]++[pS cQ ([]:List Rat)]++[pI .i64 0])⟩,⟨some p0,1,138,3,1,([pI .i64 a0]++[pO b4 n6 c5]++[pO b9 n11 c10])⟩,hO (cH g14) b4 c5 24 n6 a1,hO cI b9 c10 3 n11 a2]++f8 cQ 32 g14 a3)),(1,fun G21=>([hO cQ ((G21 4).1) x23.length 32 x23.length x23,⟨some b20,1,78,3,1,([pS cQ ([]:List Rat)]++[pS cQ ([]:List Rat)]++[pI .i64 0])⟩,⟨some p0,1,138,3,1,([pI .i64 a0]++[pO b4 n6 c5]++[pO b9 n11 c10])⟩,hO (cH g14) b4 c5 24 n6 a1,hO cI b9 c10 3 n11 a2]++f8 cQ 32 g14 a3)),(2,fun G21=>([hO cQ ((G21 9).1) x23.length 32 x23.length x23,⟨some b20,1,78,3,1,([pS cQ ([]:List Rat)]++[pS cQ ([]:List Rat)]++[pI .i64 0])⟩,⟨some p0,1,138,3,1,([pI .i64 a0]++[pO b4 n6 c5]++[pO b9 n11 c10])⟩,hO (cH g14) b4 c5 24 n6 a1,hO cI b9 c10 3 n11 a2]++f8 cQ 32 g14 a3)),(3,fun G21=>([hO cQ ((G21 9).1) x23.length 32 x23.length x23,hO cQ ((G21 4).1) x23.length 32 x23.length x23,⟨some b20,1,78,3,1,([pS cQ ([]:List Rat)]++[pS cQ ([]:List Rat)]++[pI .i64 0])⟩,⟨some p0,1,138,3,1,([pI .i64 a0]++[pO b4 n6 c5]++[pO b9 n11 c10])⟩,hO (cH g14) b4 c5 24 n6 a1,hO cI b9 c10 3 n11 a2]++f8 cQ 32 g14 a3)),(7,fun G21=>([hO cQ (dB (G21 10).2) x23.length 32 x23.length x23,hO cQ ((G21 10).1) x23.length 32 x23.length x23,⟨some b20,1,78,3,1,([pS cQ ([]:List Rat)]++[pS cQ ([]:List Rat)]++[pI .i64 0])⟩,⟨some p0,1,138,3,1,([pI .i64 a0]++[pO b4 n6 c5]++[pO b9 n11 c10])⟩,hO (cH g14) b4 c5 24 n6 a1,hO cI b9 c10 3 n11 a2]++f8 cQ 32 g14 a3))]) [4,9,10] [0,1,3,7,15,0,32,96,224,480,1023,0,4095] 12 1 [.v (.vc (pP (some p0) 0)),.v (.vc (pP (some p0) 0)),.v (.vc (pP (some p0) 0)),.v (.vc (pI .i64 a0)),.g (fun b _=>.vc (pO b x23.length x23.length)),.v (.vc (pP (some p0) 0)),.v (.vc (pP (some p0) 0)),.v (.vc (pP (some p0) 0)),.v (.vc (pI .i64 a0)),.g (fun b _=>.vc (pO b x23.length x23.length)),.g (fun b c=>.va ([pO b x23.length x23.length]++[pO (dB c) x23.length x23.length]++[pI .i64 0])),.a 78 ([pS cQ ([]:List Rat)]++[pS cQ ([]:List Rat)]++[pI .i64 0])] bC ⟨⟨rfl,.run (L:=[0,2]) ⟨fun G21 A=>bB (.inl rfl),fun G21 A=>bB (.inl rfl),trivial⟩ (fun G21=>zU1)⟩,⟨rfl,.run (L:=[0,2]) ⟨fun G21 A=>aAE rfl,fun G21 A=>aAE rfl,trivial⟩ (fun G21=>zU1)⟩,⟨rfl,.run (L:=[0,2]) ⟨fun G21 A=>iU (off:=0) (k:=0) rfl tyF138_0,fun G21 A=>iU (off:=0) (k:=0) rfl tyF138_0,trivial⟩ (fun G21=>zU1)⟩,⟨rfl,.run (L:=[0,2]) ⟨fun G21 A=>fX 1 1 rfl rfl rfl rfl (.one tyO3),fun G21 A=>fX 2 1 rfl rfl rfl rfl (.one tyO3),trivial⟩ (fun G21=>zU1)⟩,⟨rfl,.hvy [0,2] ⟨fun G21 A=>jB (C:=cQ) rfl tyS24 rfl tyZ32q h24,fun G21 A=>tE (R:=f8 cQ 32 g14 a3) [1,0,2,3,4,5] (jB (C:=cQ) rfl tyS24 rfl tyZ32q h24) (fun b_ c_=>⟨[hO cQ (b_) x23.length 32 x23.length x23,hO cQ ((G21 9).1) x23.length 32 x23.length x23,⟨some b20,1,78,3,1,([pS cQ ([]:List Rat)]++[pS cQ ([]:List Rat)]++[pI .i64 0])⟩,⟨some p0,1,138,3,1,([pI .i64 a0]++[pO b4 n6 c5]++[pO b9 n11 c10])⟩,hO (cH g14) b4 c5 24 n6 a1,hO cI b9 c10 3 n11 a2],_,rfl,rfl,rfl⟩),trivial⟩ (fun G21=>zU1)⟩,⟨rfl,.run (L:=[0,1]) ⟨fun G21 A=>bB (.inl rfl),fun G21 A=>bB (.inl rfl),trivial⟩ (fun G21=>zU1)⟩,⟨rfl,.run (L:=[0,1]) ⟨fun G21 A=>aAE rfl,fun G21 A=>aAE rfl,trivial⟩ (fun G21=>zU1)⟩,⟨rfl,.run (L:=[0,1]) ⟨fun G21 A=>iU (off:=0) (k:=0) rfl tyF138_0,fun G21 A=>iU (off:=0) (k:=0) rfl tyF138_0,trivial⟩ (fun G21=>zU1)⟩,⟨rfl,.run (L:=[0,1]) ⟨fun G21 A=>fX 1 1 rfl rfl rfl rfl (.one tyO3),fun G21 A=>fX 2 1 rfl rfl rfl rfl (.one tyO3),trivial⟩ (fun G21=>zU1)⟩,⟨rfl,.hvy [0,1] ⟨fun G21 A=>jB (C:=cQ) rfl tyS24 rfl tyZ32q h24,fun G21 A=>jB (C:=cQ) rfl tyS24 rfl tyZ32q h24,trivial⟩ (fun G21=>zU1)⟩,⟨rfl,.hvy [3] ⟨fun G21 A=>aSR (Post:=fun b_ x_=>([hO cQ x_ x23.length 32 x23.length x23,hO cQ b_ x23.length 32 x23.length x23,⟨some b20,1,78,3,1,([pS cQ ([]:List Rat)]++[pS cQ ([]:List Rat)]++[pI .i64 0])⟩,⟨some p0,1,138,3,1,([pI .i64 a0]++[pO b4 n6 c5]++[pO b9 n11 c10])⟩,hO (cH g14) b4 c5 24 n6 a1,hO cI b9 c10 3 n11 a2]++f8 cQ 32 g14 a3)++A) (out:=fun b_ x_=>.va ([pO b_ x23.length x23.length]++[pO x_ x23.length x23.length]++[pI .i64 0])) ((G21 4).1) ((G21 9).1) (dY (is:=[0,1]) (xs:=[.tmp 11,.tmp 16]) (ps:=[.vc (pO ((G21 4).1) x23.length x23.length),.vc (pO ((G21 9).1) x23.length x23.length)]) rfl tyB78q rfl rfl ⟨trivial,trivial,trivial⟩ rfl),trivial⟩ (fun G21=>zU2)⟩,⟨rfl,.alc tyZ78q⟩,trivial⟩ (fun bs22 G21=>?_)
 refine go ?_ ?_
 refine aS (bV (fun H E=>∃(x69:List Rat),∃(x75:List Rat),lI K x69 x75=some r∧x69.length=x23.length∧x75.length=x23.length∧H=([⟨some (bs22 11),1,78,3,1,([pO ((G21 10).1) x23.length x23.length]++[pO (dB (G21 10).2) x23.length x23.length]++[pI .i64 0])⟩,hO cQ (dB (G21 10).2) x23.length 32 x23.length x69,hO cQ ((G21 10).1) x23.length 32 x23.length x75,⟨some b20,1,78,3,1,([pS cQ ([]:List Rat)]++[pS cQ ([]:List Rat)]++[pI .i64 0])⟩,⟨some p0,1,138,3,1,([pI .i64 a0]++[pO b4 n6 c5]++[pO b9 n11 c10])⟩,hO (cH g14) b4 c5 24 n6 a1,hO cI b9 c10 3 n11 a2]++f8 cQ 32 g14 a3)∧E=[(2,.vc (pP (some b20) 0)),(3,.vc (pP (some (bs22 11)) 0))]) ?_ (fun Jj82=>?_))
 ·rintro _ _ ⟨x69,x75,hF,q73,q79,rfl,rfl⟩
  unfold lI at hF
  refine aU (aK (aR (aBB 2 0 0 rfl q79 rfl rfl rfl rfl rfl ?_)))
  refine aBB 1 0 1 rfl q73 rfl rfl rfl rfl rfl ?_
  refine go ?_ ?_
  refine sT (sS ?_)
  obtain rfl:=pZ hF
  exact aAj (.inl rfl) Tryz.results88 (aIP 1 3 rfl rfl rfl rfl (.agg tyA78) .nil) rfl 5 [2,3,4] rfl rfl (by decide) ⟨rfl,rfl⟩
 obtain⟨⟨x69',x75'⟩,hL,hRl81⟩:=aZ hF
 refine gB (fun k a w=>∃(x56:List Rat),∃(x62:List Rat),∃(x68:Int),bP K a0 a1 a2 a3 k x56 x62 x68=some (x69',x75')∧x56.length=x23.length∧x62.length=x23.length∧hs _ ([⟨some (bs22 11),1,78,3,1,([pO ((G21 10).1) x23.length x23.length]++[pO (dB (G21 10).2) x23.length x23.length]++[pI .i64 0])⟩,hO cQ (dB (G21 10).2) x23.length 32 x23.length x56,hO cQ ((G21 10).1) x23.length 32 x23.length x62,⟨some b20,1,78,3,1,([pS cQ ([]:List Rat)]++[pS cQ ([]:List Rat)]++[pI .i64 0])⟩,⟨some p0,1,138,3,1,([pI .i64 a0]++[pO b4 n6 c5]++[pO b9 n11 c10])⟩,hO (cH g14) b4 c5 24 n6 a1,hO cI b9 c10 3 n11 a2]++f8 cQ 32 g14 a3) [(0,.vc (pP (some p0) 0)),(2,.vc (pP (some b20) 0)),(3,.vc (pP (some (bs22 11)) 0)),(21,.vc (pO b9 n11 c10)),(22,.vc (pI .i64 (a2.length:Int))),(23,.vc (pI .i64 x68))] a w) K (fun a w ⟨_,_,_,hF,_,_,_⟩=>by cases hF) (fun k a w ⟨x56,x62,x68,hF,q60,q66,hh⟩=>gC ?_ hh) (fun a w hh=>⟨x23,x23,0,hL,rfl,rfl,bR 7 [0,1,2,3,4,5,6] rfl rfl (by decide) (by exact⟨rfl,rfl,rfl,rfl,rfl,rfl,trivial⟩) hh⟩)
 rw [bP.eq_2] at hF
 refine go ?_ ?_
 refine aJ hF rfl (fun h83 hF=>?_) (fun h83 hF=>?_)
 ·refine go ?_ ?_
  refine aS ?_
  obtain⟨v84,h85,v88,h89,v90,h91,v92,h93,hF⟩:=bn4 hF
  obtain⟨v94,h95,hF⟩:=aZ hF
  refine go ?_ ?_
  refine gT [0,1,3,7,0,31,63,0,128,384,896,1920,3968,8191,16383,0,65535] 16 1 [.v (.vc (pP (some p0) 0)),.v (.vc (pP (some p0) 0)),.v (.vc (pP (some p0) 1)),.v (.vc (pO b4 n6 c5)),.v (.vc (pI .i64 x68)),.v (.vc (pE b4 x68 (cH g14).n 0)),.v (.vc (pO (gX g14 v88).1 (gX g14 v88).2.1 (gX g14 v88).2.2)),.v (.vc (pP (some p0) 0)),.v (.vc (pP (some p0) 0)),.v (.vc (pP (some p0) 0)),.v (.vc (pI .i64 a0)),.v (.vc (pI .i64 v90)),.v (.vc (pI .i64 v92)),.v (.vc (pE (gX g14 v88).1 v92 cQ.n 0)),.v (.va (eQ v94)),.a 32 (eQ 0)] bC ⟨d0 (bB (.inl rfl)) zU1,d0 (aAE rfl) zU1,d0 (iU (off:=0) (k:=1) rfl tyF138_1) zU1,d0 (fX 4 1 rfl rfl rfl rfl (.one tyO74)) zU1,d0 (bB (.inl rfl)) zU1,d0 (gN (C:=(cH g14)) 5 rfl tyS74 rfl q7 (aN h89).1 (aN h89).2.1) zU2,d0 (lE (C:=(cH g14)) (k:=1) 5 rfl rfl h89 rfl (.one tyO24) rfl) zU1,d0 (bB (.inl rfl)) zU1,d0 (aAE rfl) zU1,d0 (iU (off:=0) (k:=0) rfl tyF138_0) zU1,d0 (fX 4 1 rfl rfl rfl rfl (.one tyO3)) zU1,d0 (aLt rfl h91) ⟨lY _ _,rfl,trivial⟩,d0 (xJ rfl h93) ⟨rfl,lY _ _,trivial⟩,d0 (gN (7+v88) rfl tyS24 (iC 7 rfl q17 q16 (q18 _ (aV h89))) (gZ q17 q16 (q18 _ (aV h89))) (aN h95).1 (aN h95).2.1) zU2,d0 (lE (k:=4) (7+v88) rfl (iC 7 rfl q17 q16 (q18 _ (aV h89))) h95 rfl (.agg tyA32) rfl) zU1,⟨rfl,.alc tyZ32q⟩,trivial⟩ (fun bs87 G86=>?_)
  refine go ?_ ?_
  refine aS (go ?_ ?_)
  refine aJ hF rfl (fun h96 hF=>?_) (fun h96 hF=>?_)
  ·obtain⟨v97,h98,x99,h100,v102,h103,hF⟩:=bn3 hF
   refine go ?_ ?_
   exact aM (fun a w hh=>⟨x99,x62,v102,hF,(bK h100 q60),q66,bR 8 [1,2,3,4,5,6,7] rfl rfl (by decide) (by exact⟨rfl,rfl,rfl,rfl,rfl,rfl,trivial⟩) hh⟩)
  have hF:=sE h91 hF
  refine go ?_ ?_
  refine aJ hF rfl (fun h106 hF=>?_) (fun h106 hF=>?_)
  ·obtain⟨v109,h110,hF⟩:=aZ hF
   obtain⟨v111,h112,hF⟩:=aZ hF
   refine dr [0,1,0,0,8,24,56,124,0,511,1023] 10 1 ?_ (fun bs108 G107=>?_)
   obtain⟨x113,h114,v116,h117,hF⟩:=wP hF
   refine go ?_ ?_
   exact aM (fun a w hh=>⟨x56,x113,v116,hF,q60,(bK h114 q66),bR 8 [1,2,3,4,5,6,7] rfl rfl (by decide) (by exact⟨rfl,rfl,rfl,rfl,rfl,rfl,trivial⟩) hh⟩)
  obtain⟨v118,h119,hF⟩:=aZ hF
  refine go ?_ ?_
  exact aM (fun a w hh=>⟨x56,x62,v118,hF,q60,q66,bR 8 [1,2,3,4,5,6,7] rfl rfl (by decide) (by exact⟨rfl,rfl,rfl,rfl,rfl,rfl,trivial⟩) hh⟩)
 refine cR ?_
 obtain⟨rfl,rfl⟩:=sm2 hF
 exact lD Jj82 ⟨x56,x62,hRl81,q60,q66,rfl,rfl⟩ 7 [0,1,2,3,4,5,6] rfl rfl zU2
def jC (K:Nat):Option Bool:=
 some false
def d9 (K:Nat) (a0:Int) (a1:Rat) (a2:Int) (a3:Rat) (a5:List Nat) (a7:List (List Rat)) (x23:Int) (recl24:Int→Option (LR Bool Unit)) (x28:Int):Option (LR Bool Unit):=
 (bL a5 a0).bind fun v32=>(bL (a7.getD v32 []) x28).bind fun v34=>(aFz v34 a1).bind fun v36=>(bL a5 a2).bind fun v38=>(bL (a7.getD v38 []) x28).bind fun v40=>(aFz v40 a3).bind fun v42=>(aPT v36 v42).bind fun v44=>bif(v44 != 0) then(some (.ret (decide (v44<0)))) else((aT (x23+1)).bind fun v47=>recl24 v47)
def a9 (K:Nat) (a0:Int) (a1:Rat) (a2:Int) (a3:Rat) (a4:Int) (a5:List Nat) (a7:List (List Rat)):Nat→Int→Option (LR Bool Unit)
 |0,_=>none
 |k+1,x23=>bif(decide (x23<a4)) then(bif(decide (x23<0)) then((aT (2*a4)).bind fun v50=>(aT (v50+1)).bind fun v52=>d9 K a0 a1 a2 a3 a5 a7 x23 (a9 K a0 a1 a2 a3 a4 a5 a7 k) v52) else(d9 K a0 a1 a2 a3 a5 a7 x23 (a9 K a0 a1 a2 a3 a4 a5 a7 k) x23)) else(some (.go ()))
def eE (K:Nat) (a0:Int) (a1:Rat) (a2:Int) (a3:Rat) (a4:Int) (a5:List Nat) (a6:List Int) (a7:List (List Rat)):Option Bool:=
 (a9 K a0 a1 a2 a3 a4 a5 a7 K (-1)).bind fun o=>match o with| .ret r=>some r| .go _=>jC K
theorem sN {K:Nat} {a0:Int} {a1:Rat} {a2:Int} {a3:Rat} {a4:Int} {a5:List Nat} {a6:List Int} {a7:List (List Rat)} {r:Bool} (hF:eE K a0 a1 a2 a3 a4 a5 a6 a7=some r) {p0:Nat} {b4:Option Nat} {c5 n6:Nat} {b9:Option Nat} {c10 n11:Nat} {g14:List u7} {N15:Nat} (q7:a5.length=n6) (q12:a6.length=n11) (q16:a7.length=N15) (q17:iE g14 a7) (q18:∀k∈a5,k<N15):CtO Tryz.prog 90 ([⟨some p0,1,138,3,1,([pI .i64 a4]++[pO b4 n6 c5]++[pO b9 n11 c10])⟩,hO (cH g14) b4 c5 24 n6 a5,hO cI b9 c10 3 n11 a6]++f8 cQ 32 g14 a7) [.vc (pP (some p0) 0),.vc (pI .i64 a0),.va (eQ a1),.vc (pI .i64 a2),.va (eQ a3)] (fun Ho q=>Ho=([⟨some p0,1,138,3,1,([pI .i64 a4]++[pO b4 n6 c5]++[pO b9 n11 c10])⟩,hO (cH g14) b4 c5 24 n6 a5,hO cI b9 c10 3 n11 a6]++f8 cQ 32 g14 a7)∧q=.vc (pB r)):=by
 unfold eE at hF
 refine aG Tryz.func90 rfl (by kernel_rfl) Tryz.ntmps90 rfl (fun w0 M0=>?_)
 refine aK (aR (cC rfl rfl trivial (fun b20=>?_)))
 refine cC rfl rfl trivial (fun b21=>?_)
 refine go ?_ ?_
 refine aS (bV (fun H E=>jC K=some r∧H=([⟨some p0,1,138,3,1,([pI .i64 a4]++[pO b4 n6 c5]++[pO b9 n11 c10])⟩,hO (cH g14) b4 c5 24 n6 a5,hO cI b9 c10 3 n11 a6]++f8 cQ 32 g14 a7)∧E=[]) ?_ (fun Jj25=>?_))
 ·rintro _ _ ⟨hF,rfl,rfl⟩
  unfold jC at hF
  refine go ?_ ?_
  refine sT (sS ?_)
  obtain rfl:=pZ hF
  exact aAj (.inl rfl) Tryz.results90 (.tmp rfl .nil) rfl 3 [0,1,2] rfl rfl (by decide) ⟨rfl,rfl⟩
 obtain⟨ol24,hL,hRl24⟩:=aZ hF
 refine gB (fun k a w=>∃(x23:Int),a9 K a0 a1 a2 a3 a4 a5 a7 k x23=some ol24∧hs _ ([⟨some b21,1,32,4,1,(eQ a3)⟩,⟨some b20,1,32,4,1,(eQ a1)⟩,⟨some p0,1,138,3,1,([pI .i64 a4]++[pO b4 n6 c5]++[pO b9 n11 c10])⟩,hO (cH g14) b4 c5 24 n6 a5,hO cI b9 c10 3 n11 a6]++f8 cQ 32 g14 a7) [(0,.vc (pP (some p0) 0)),(1,.vc (pI .i64 a0)),(3,.vc (pI .i64 a2)),(7,.vc (pP (some b20) 0)),(9,.vc (pP (some b21) 0)),(11,.vc (pI .i64 x23))] a w) K (fun a w ⟨_,hF,_⟩=>by cases hF) (fun k a w ⟨x23,hF,hh⟩=>gC ?_ hh) (fun a w hh=>⟨(-1),hL,bR 5 [0,1,2,3,4] rfl rfl (by decide) (by exact⟨rfl,rfl,rfl,rfl,rfl,rfl,trivial⟩) hh⟩)
 rw [a9.eq_2] at hF
 refine go ?_ ?_
 refine aJ hF rfl (fun h26 hF=>?_) (fun h26 hF=>?_)
 ·refine go ?_ ?_
  refine aS (aK (aR (lH ?_)))
  refine aDY ?_
  refine bT (aU (aK (xZ (fun H E=>∃(x28:Int),d9 K a0 a1 a2 a3 a5 a7 x23 (a9 K a0 a1 a2 a3 a4 a5 a7 k) x28=some ol24∧H=([⟨some b21,1,32,4,1,(eQ a3)⟩,⟨some b20,1,32,4,1,(eQ a1)⟩,⟨some p0,1,138,3,1,([pI .i64 a4]++[pO b4 n6 c5]++[pO b9 n11 c10])⟩,hO (cH g14) b4 c5 24 n6 a5,hO cI b9 c10 3 n11 a6]++f8 cQ 32 g14 a7)∧E=[(0,.vc (pP (some p0) 0)),(1,.vc (pI .i64 a0)),(3,.vc (pI .i64 a2)),(7,.vc (pP (some b20) 0)),(9,.vc (pP (some b21) 0)),(11,.vc (pI .i64 x23)),(12,.vc (pI .i64 x28))]) ?_ (fun Jj29=>?_))))
  ·rintro _ _ ⟨x28,hF,rfl,rfl⟩
   unfold d9 at hF
   refine aK ?_
   obtain⟨v32,h33,hF⟩:=aZ hF
   obtain⟨v34,h35,hF⟩:=aZ hF
   obtain⟨v36,h37,hF⟩:=bF hF yY
   obtain⟨v38,h39,hF⟩:=aZ hF
   obtain⟨v40,h41,hF⟩:=aZ hF
   obtain⟨v42,h43,hF⟩:=bF hF yY
   obtain⟨v44,h45,hF⟩:=bF hF aGv
   refine gT (0::1::3::7::0::31::63::0::255::511::0::2047::0::4096::12288::28672::0::126976::258048::0::1044480::2093056::0::8388607::16777215::33554431::[]) 26 0 (.v (.vc (pP (some p0) 0))::.v (.vc (pP (some p0) 0))::.v (.vc (pP (some p0) 1))::.v (.vc (pO b4 n6 c5))::.v (.vc (pI .i64 a0))::.v (.vc (pE b4 a0 (cH g14).n 0))::.v (.vc (pO (gX g14 v32).1 (gX g14 v32).2.1 (gX g14 v32).2.2))::.v (.vc (pI .i64 x28))::.v (.vc (pE (gX g14 v32).1 x28 cQ.n 0))::.v (.va (eQ v34))::.v (.va (eQ a1))::.v (.va (eQ v36))::.v (.vc (pP (some p0) 0))::.v (.vc (pP (some p0) 0))::.v (.vc (pP (some p0) 1))::.v (.vc (pO b4 n6 c5))::.v (.vc (pI .i64 a2))::.v (.vc (pE b4 a2 (cH g14).n 0))::.v (.vc (pO (gX g14 v38).1 (gX g14 v38).2.1 (gX g14 v38).2.2))::.v (.vc (pI .i64 x28))::.v (.vc (pE (gX g14 v38).1 x28 cQ.n 0))::.v (.va (eQ v40))::.v (.va (eQ a3))::.v (.va (eQ v42))::.v (.vc (pI .i64 v44))::.v (.vc (pI .i64 v44))::[]) bC ⟨d0 (bB (.inl rfl)) zU1,d0 (aAE rfl) zU1,d0 (iU (off:=0) (k:=1) rfl tyF138_1) zU1,d0 (fX 2 1 rfl rfl rfl rfl (.one tyO74)) zU1,d0 (bB (.inl rfl)) zU1,d0 (gN (C:=(cH g14)) 3 rfl tyS74 rfl q7 (aN h33).1 (aN h33).2.1) zU2,d0 (lE (C:=(cH g14)) (k:=1) 3 rfl rfl h33 rfl (.one tyO24) rfl) zU1,d0 (bB (.inl rfl)) zU1,d0 (gN (5+v32) rfl tyS24 (iC 5 rfl q17 q16 (q18 _ (aV h33))) (gZ q17 q16 (q18 _ (aV h33))) (aN h35).1 (aN h35).2.1) zU2,d0 (lE (k:=4) (5+v32) rfl (iC 5 rfl q17 q16 (q18 _ (aV h33))) h35 rfl (.agg tyA32) rfl) zU1,d0 (fX 1 4 rfl rfl rfl rfl (.agg tyA32)) zU1,d0 (cS rfl h37 rfl) zU2,d0 (bB (.inl rfl)) zU1,d0 (aAE rfl) zU1,d0 (iU (off:=0) (k:=1) rfl tyF138_1) zU1,d0 (fX 2 1 rfl rfl rfl rfl (.one tyO74)) zU1,d0 (bB (.inl rfl)) zU1,d0 (gN (C:=(cH g14)) 3 rfl tyS74 rfl q7 (aN h39).1 (aN h39).2.1) zU2,d0 (lE (C:=(cH g14)) (k:=1) 3 rfl rfl h39 rfl (.one tyO24) rfl) zU1,d0 (bB (.inl rfl)) zU1,d0 (gN (5+v38) rfl tyS24 (iC 5 rfl q17 q16 (q18 _ (aV h39))) (gZ q17 q16 (q18 _ (aV h39))) (aN h41).1 (aN h41).2.1) zU2,d0 (lE (k:=4) (5+v38) rfl (iC 5 rfl q17 q16 (q18 _ (aV h39))) h41 rfl (.agg tyA32) rfl) zU1,d0 (fX 0 4 rfl rfl rfl rfl (.agg tyA32)) zU1,d0 (cS rfl h43 rfl) zU2,d0 (cS rfl h45 rfl) zU2,d0 (bB (.inr rfl)) zU1,trivial⟩ (fun bs31 G30=>?_)
   refine go ?_ ?_
   refine aJ hF rfl (fun h46 hF=>?_) (fun h46 hF=>?_)
   ·refine go ?_ ?_
    refine sT (sS ?_)
    obtain rfl:=pZ hF
    obtain rfl:=pZ hRl24
    exact aAj (.inl rfl) Tryz.results90 (.tmp rfl .nil) rfl 5 [2,3,4] rfl rfl (by decide) ⟨rfl,rfl⟩
   obtain⟨v47,h48,hF⟩:=aZ hF
   refine go ?_ ?_
   exact aM (fun a w hh=>⟨v47,hF,bR 5 [0,1,2,3,4] rfl rfl (by decide) (by exact⟨rfl,rfl,rfl,rfl,rfl,rfl,trivial⟩) hh⟩)
  refine go ?_ ?_
  refine aJ hF rfl (fun h49 hF=>?_) (fun h49 hF=>?_)
  ·refine aR (lH ?_)
   refine aQ (aAE rfl) zU1 ?_
   refine aQ (iU (off:=0) (k:=0) rfl tyF138_0) zU1 ?_
   refine aQ (fX 2 1 rfl rfl rfl rfl (.one tyO3)) zU1 ?_
   obtain⟨v50,h51,hF⟩:=aZ hF
   refine aQ (aLt rfl h51) ⟨lY _ _,rfl,trivial⟩ ?_
   obtain⟨v52,h53,hF⟩:=aZ hF
   refine aQ (xJ rfl h53) ⟨rfl,lY _ _,trivial⟩ ?_
   refine aDY ?_
   refine bT ?_
   exact lD Jj29 ⟨v52,hF,rfl,rfl⟩ 5 [0,1,2,3,4] rfl rfl ⟨rfl,rfl,rfl,rfl,rfl,rfl,rfl,trivial⟩
  refine iP ?_
  exact lD Jj29 ⟨x23,hF,rfl,rfl⟩ 5 [0,1,2,3,4] rfl rfl ⟨rfl,rfl,rfl,rfl,rfl,rfl,rfl,trivial⟩
 refine cR ?_
 obtain rfl:=pZ hF
 exact lD Jj25 ⟨hRl24,rfl,rfl⟩ 5 [2,3,4] rfl rfl trivial
def iR (K:Nat) (a0:Int) (a1:Int) (a4:List Int) (x57:List Nat) (x71:List (List Rat)):Option (Int×(List Nat)×(List Int)×(List (List Rat))):=
 (bL a4 a0).bind fun v77=>(bL a4 a0).bind fun v79=>(oO a4 a0 a1).bind fun x81=>some (v77,x57,x81,x71)
def iJ (K:Nat) (x70:Int) (recl75:(List (List Rat))→Int→Option (List (List Rat))) (x108:List (List Rat)):Option (List (List Rat)):=
 (aT (x70+1)).bind fun v114=>recl75 x108 v114
def dG (K:Nat) (a5:List (List Rat)) (x66:List (List Rat)) (v85:Nat) (v87:Rat):Nat→(List (List Rat))→Int→Option (List (List Rat))
 |0,_,_=>none
 |k+1,x103,x107=>bif(decide (x107<((x66.getD v85 []).length:Int))) then((bL (x103.getD v85 []) x107).bind fun v119=>(bL (x103.getD a5.length []) x107).bind fun v121=>(zR v87 v121).bind fun v123=>(aEl v119 v123).bind fun v125=>(bL (x103.getD v85 []) x107).bind fun v127=>(oO (x103.getD v85 []) x107 v125).bind fun x129=>(aT (x107+1)).bind fun v132=>dG K a5 x66 v85 v87 k (x103.set v85 x129) v132) else(some x103)
def bJ (K:Nat) (a0:Int) (a1:Int) (a5:List (List Rat)) (x57:List Nat):Nat→(List (List Rat))→Int→Option (List (List Rat))
 |0,_,_=>none
 |k+1,x66,x70=>bif(decide (x70<(x57.length:Int))) then((bL x57 x70).bind fun v85=>(bL (x66.getD v85 []) a1).bind fun v87=>bif(x70==a0) then((aT (x70+1)).bind fun v91=>bJ K a0 a1 a5 x57 k x66 v91) else((zN v87).bind fun v93=>bif(v93==0) then((aT (x70+1)).bind fun v96=>bJ K a0 a1 a5 x57 k x66 v96) else((dG K a5 x66 v85 v87 K x66 0).bind fun x108=>iJ K x70 (bJ K a0 a1 a5 x57 k) x108))) else(some x66)
def iQ (K:Nat) (a0:Int) (a1:Int) (a3:List Nat) (a4:List Int) (a5:List (List Rat)) (x47:List Rat):Option (Int×(List Nat)×(List Int)×(List (List Rat))):=
 (bL a3 a0).bind fun v55=>(oO a3 a0 a5.length).bind fun x57=>(bJ K a0 a1 a5 x57 K (a5++[x47]) 0).bind fun x71=>iR K a0 a1 a4 x57 x71
def dJ (K:Nat) (a5:List (List Rat)) (x22:List Rat) (v27:Nat) (v30:Rat):Nat→(List Rat)→Int→Option (List Rat)
 |0,_,_=>none
 |k+1,x40,x46=>bif(decide (x46<((cpL x22 (a5.getD v27 [])).length:Int))) then((bL x40 x46).bind fun v137=>(aFz v137 v30).bind fun v139=>(bL x40 x46).bind fun v141=>(oO x40 x46 v139).bind fun x143=>(aT (x46+1)).bind fun v146=>dJ K a5 x22 v27 v30 k x143 v146) else(some x40)
def iG (K:Nat) (a0:Int) (a1:Int) (a2:Int) (a3:List Nat) (a4:List Int) (a5:List (List Rat)):Option (Int×(List Nat)×(List Int)×(List (List Rat))):=
 (bL a3 a0).bind fun v20=>(yJ ((a5.getD v20 []).length:Int) 0).bind fun x22=>(bL a3 a0).bind fun v27=>(bL (cpL x22 (a5.getD v27 [])) a1).bind fun v30=>(dJ K a5 x22 v27 v30 K (cpL x22 (a5.getD v27 [])) 0).bind fun x47=>iQ K a0 a1 a3 a4 a5 x47
theorem yL {K:Nat} {a0:Int} {a1:Int} {a2:Int} {a3:List Nat} {a4:List Int} {a5:List (List Rat)} {r:Int×(List Nat)×(List Int)×(List (List Rat))} (hF:iG K a0 a1 a2 a3 a4 a5=some r) {p0:Nat} {b4:Option Nat} {c5 n6:Nat} {b9:Option Nat} {c10 n11:Nat} {g14:List u7} {N15:Nat} (q7:a3.length=n6) (q12:a4.length=n11) (q16:a5.length=N15) (q17:iE g14 a5) (q18:∀k∈a3,k<N15):CtO Tryz.prog 91 ([⟨some p0,1,138,3,1,([pI .i64 a2]++[pO b4 n6 c5]++[pO b9 n11 c10])⟩,hO (cH g14) b4 c5 24 n6 a3,hO cI b9 c10 3 n11 a4]++f8 cQ 32 g14 a5) [.vc (pP (some p0) 0),.vc (pI .i64 a0),.vc (pI .i64 a1)] (fun Ho q=>∃b1148 c1149 n1150 g1155 N1156,r.2.1.length=n1150∧r.2.2.1.length=n11∧r.2.2.2.length=N1156∧iE g1155 r.2.2.2∧(∀k∈r.2.1,k<N1156)∧Ho=([⟨some p0,1,138,3,1,([pI .i64 a2]++[pO b1148 n1150 c1149]++[pO b9 n11 c10])⟩,hO (cH g1155) b1148 c1149 24 n1150 r.2.1,hO cI b9 c10 3 n11 r.2.2.1]++f8 cQ 32 g1155 r.2.2.2)∧q=.vc (pI .i64 r.1)):=by
 unfold iG at hF
 refine aG Tryz.func91 rfl (by kernel_rfl) Tryz.ntmps91 rfl (fun w0 M0=>?_)
 obtain⟨v20,h21,hF⟩:=aZ hF
 refine go ?_ ?_
 refine aQ (aEd (C:=cQ) (xs:=(a5.getD v20 [])) (T:=32) rfl tyS24 (gZ q17 q16 (q18 _ (aV h21)))) zU1 ?_
 obtain⟨x22,h23,hF⟩:=aZ hF
 refine uV (C:=cQ) rfl tyS24 rfl tyZ32q rfl h23 (fun b24=>?_)
 have hF:=sE h21 hF
 refine go ?_ ?_
 refine aQ (aUG 0 (4+v20) rfl tyS24 rfl rfl (aAH 4 rfl q17 q16 (q18 _ (aV h21))) (gZ q17 q16 (q18 _ (aV h21))) rfl) zU2 ?_
 obtain⟨v30,h31,hF⟩:=aZ hF
 refine go ?_ ?_
 refine aQ (gN (C:=cQ) 0 rfl tyS24 rfl (aEf rfl) (aN h31).1 (aN h31).2.1) zU2 ?_
 refine aQ (lE (k:=4) 0 rfl rfl h31 rfl (.agg tyA32) rfl) zU1 ?_
 refine aO rfl tyZ32q (fun b32=>?_)
 refine go ?_ ?_
 refine aQ (aEd (C:=cQ) (xs:=(cpL x22 (a5.getD v20 []))) (T:=32) rfl tyS24 (aEf rfl)) zU1 ?_
 refine go ?_ ?_
 refine aS (bV (fun H E=>∃(x47:List Rat),iQ K a0 a1 a3 a4 a5 x47=some r∧x47.length=x22.length∧H=([hO cQ b24 x22.length 32 x22.length x47,⟨some p0,1,138,3,1,([pI .i64 a2]++[pO b4 n6 c5]++[pO b9 n11 c10])⟩,hO (cH g14) b4 c5 24 n6 a3,hO cI b9 c10 3 n11 a4]++f8 cQ 32 g14 a5)∧E=[(0,.vc (pP (some p0) 0)),(1,.vc (pI .i64 a0)),(2,.vc (pI .i64 a1)),(7,.vc (pO b24 x22.length x22.length))]) ?_ (fun Jj54=>?_))
 ·rintro _ _ ⟨x47,hF,q51,rfl,rfl⟩
  unfold iQ at hF
  refine aU (aK (aR (lH ?_)))
  refine aQ (aAE rfl) zU1 ?_
  refine aQ (iU (off:=0) (k:=1) rfl tyF138_1) zU1 ?_
  refine aQ (fX 1 1 rfl rfl rfl rfl (.one tyO74)) zU1 ?_
  refine lH ?_
  refine lH ?_
  have hF:=sE h21 hF
  refine aQ (gN (C:=(cH g14)) 2 rfl tyS74 rfl q7 (aN h21).1 (aN h21).2.1) zU2 ?_
  obtain⟨x57,h58,hF⟩:=aZ hF
  refine aRc (show([hO cQ b24 x22.length 32 x22.length x47,⟨some p0,1,138,3,1,([pI .i64 a2]++[pO b4 n6 c5]++[pO b9 n11 c10])⟩,hO (cH (g14++[(b24,x22.length,x22.length)])) b4 c5 24 n6 a3,hO cI b9 c10 3 n11 a4]++f8 cQ 32 g14 a5)=([hO cQ b24 x22.length 32 x22.length x47,⟨some p0,1,138,3,1,([pI .i64 a2]++[pO b4 n6 c5]++[pO b9 n11 c10])⟩,hO (cH g14) b4 c5 24 n6 a3,hO cI b9 c10 3 n11 a4]++f8 cQ 32 g14 a5) from by rw [aIq (N:=a5.length) (b24,x22.length,x22.length) q17.1 (aDO q16 q18)]) ?_
  refine mR (xV (C:=cH (g14++[(b24,x22.length,x22.length)])) (z':=a5.length) 2 rfl rfl h21 h58 tyO24.s (hq:=aKh (b24,x22.length,x22.length) q17.1)) zU2 ?_
  refine aEB (g:=(b24,x22.length,x22.length)) 0 4 rfl rfl rfl q17 ?_
  refine aRY 7 rfl (aOT (N:=a5.length) (b24,x22.length,x22.length) q17.1) ?_
  refine go ?_ ?_
  refine aS (bV (fun H E=>∃(x71:List (List Rat)),iR K a0 a1 a4 x57 x71=some r∧x71.length=(N15+1)∧iE (g14++[(b24,x22.length,x22.length)]) x71∧H=([⟨some p0,1,138,3,1,([pI .i64 a2]++[pO b4 n6 c5]++[pO b9 n11 c10])⟩,hO (cH (g14++[(b24,x22.length,x22.length)])) b4 c5 24 n6 x57,hO cI b9 c10 3 n11 a4]++f8 cQ 32 (g14++[(b24,x22.length,x22.length)]) x71)∧E=[(0,.vc (pP (some p0) 0)),(1,.vc (pI .i64 a0)),(2,.vc (pI .i64 a1))]) ?_ (fun Jj76=>?_))
  ·rintro _ _ ⟨x71,hF,q72,q73,rfl,rfl⟩
   unfold iR at hF
   obtain⟨v77,h78,hF⟩:=aZ hF
   have hF:=sE h78 hF
   obtain⟨x81,h82,hF⟩:=aZ hF
   refine go ?_ ?_
   refine sT (sS ?_)
   obtain rfl:=pZ hF
   exact aAj (.inl rfl) Tryz.results91 (.tmp rfl .nil) rfl 3 [0,1,2] rfl rfl (by decide) ⟨b4,c5,n6,(g14++[(b24,x22.length,x22.length)]),(N15+1),(bK h58 q7),(bK h82 q12),q72,q73,(uJ q18 h58 q16),rfl,rfl⟩
  obtain⟨x71',hL,hRl75⟩:=aZ hF
  refine gB (fun k a w=>∃(x66:List (List Rat)),∃(x70:Int),bJ K a0 a1 a5 x57 k x66 x70=some x71'∧x66.length=(N15+1)∧iE (g14++[(b24,x22.length,x22.length)]) x66∧hs _ ([⟨some p0,1,138,3,1,([pI .i64 a2]++[pO b4 n6 c5]++[pO b9 n11 c10])⟩,hO (cH (g14++[(b24,x22.length,x22.length)])) b4 c5 24 n6 x57,hO cI b9 c10 3 n11 a4]++f8 cQ 32 (g14++[(b24,x22.length,x22.length)]) x66) [(0,.vc (pP (some p0) 0)),(1,.vc (pI .i64 a0)),(2,.vc (pI .i64 a1)),(7,.vc (pO (gX (g14++[(b24,x22.length,x22.length)]) a5.length).1 (gX (g14++[(b24,x22.length,x22.length)]) a5.length).2.1 (gX (g14++[(b24,x22.length,x22.length)]) a5.length).2.2)),(62,.vc (pO b4 n6 c5)),(63,.vc (pI .i64 (x57.length:Int))),(64,.vc (pI .i64 x70))] a w) K (fun a w ⟨_,_,hF,_,_,_⟩=>by cases hF) (fun k a w ⟨x66,x70,hF,q67,q68,hh⟩=>gC ?_ hh) (fun a w hh=>⟨(a5++[x47]),0,hL,(aEC q16),(aAG q17 q51),bR 3 [0,1,2] rfl rfl (by decide) (by exact⟨rfl,rfl,rfl,rfl,rfl,rfl,rfl,trivial⟩) hh⟩)
  rw [bJ.eq_2] at hF
  refine go ?_ ?_
  refine aJ hF rfl (fun h84 hF=>?_) (fun h84 hF=>?_)
  ·refine go ?_ ?_
   refine aS ?_
   obtain⟨v85,h86,v87,h88,hF⟩:=wP hF
   refine go ?_ ?_
   refine aQ (gN (3+v85) rfl tyS24 (aAH 3 rfl q68 q67 ((uJ q18 h58 q16) _ (aV h86))) (gZ q68 q67 ((uJ q18 h58 q16) _ (aV h86))) (aN h88).1 (aN h88).2.1) zU2 ?_
   refine aQ (lE (k:=4) (3+v85) rfl (aAH 3 rfl q68 q67 ((uJ q18 h58 q16) _ (aV h86))) h88 rfl (.agg tyA32) rfl) zU1 ?_
   refine aO rfl tyZ32q (fun b89=>?_)
   refine go ?_ ?_
   refine eW hF (fun h90 hF=>?_) (fun h90 hF=>?_)
   ·refine go ?_ ?_
    refine oU rfl ?_
    refine cR ?_
    obtain⟨v91,h92,hF⟩:=aZ hF
    refine go ?_ ?_
    exact aM (fun a w hh=>⟨x66,v91,hF,q67,q68,bR 4 [1,2,3] rfl rfl (by decide) (by exact⟨rfl,rfl,rfl,rfl,rfl,rfl,rfl,trivial⟩) hh⟩)
   obtain⟨v93,h94,hF⟩:=bF hF lN
   refine go ?_ ?_
   refine aJ hF rfl (fun h95 hF=>?_) (fun h95 hF=>?_)
   ·refine cR ?_
    obtain⟨v96,h97,hF⟩:=aZ hF
    refine go ?_ ?_
    exact aM (fun a w hh=>⟨x66,v96,hF,q67,q68,bR 4 [1,2,3] rfl rfl (by decide) (by exact⟨rfl,rfl,rfl,rfl,rfl,rfl,rfl,trivial⟩) hh⟩)
   refine go ?_ ?_
   refine aQ (aEd (C:=cQ) (xs:=(x66.getD v85 [])) (T:=32) rfl tyS24 (gZ q68 q67 ((uJ q18 h58 q16) _ (aV h86)))) zU1 ?_
   refine go ?_ ?_
   refine aS (bV (fun H E=>∃(x108:List (List Rat)),iJ K x70 (bJ K a0 a1 a5 x57 k) x108=some x71'∧x108.length=(N15+1)∧iE (g14++[(b24,x22.length,x22.length)]) x108∧H=([⟨some p0,1,138,3,1,([pI .i64 a2]++[pO b4 n6 c5]++[pO b9 n11 c10])⟩,hO (cH (g14++[(b24,x22.length,x22.length)])) b4 c5 24 n6 x57,hO cI b9 c10 3 n11 a4]++f8 cQ 32 (g14++[(b24,x22.length,x22.length)]) x108)∧E=[(0,.vc (pP (some p0) 0)),(1,.vc (pI .i64 a0)),(2,.vc (pI .i64 a1)),(7,.vc (pO (gX (g14++[(b24,x22.length,x22.length)]) a5.length).1 (gX (g14++[(b24,x22.length,x22.length)]) a5.length).2.1 (gX (g14++[(b24,x22.length,x22.length)]) a5.length).2.2)),(62,.vc (pO b4 n6 c5)),(63,.vc (pI .i64 (x57.length:Int))),(64,.vc (pI .i64 x70)),(77,.va (eQ v87)),(78,.vc (pI .i64 v93)),(79,.vc (pB (v93==0)))]) ?_ (fun Jj113=>?_))
   ·rintro _ _ ⟨x108,hF,q109,q110,rfl,rfl⟩
    unfold iJ at hF
    obtain⟨v114,h115,hF⟩:=aZ hF
    refine go ?_ ?_
    exact aM (fun a w hh=>⟨x108,v114,hF,q109,q110,bR 3 [0,1,2] rfl rfl (by decide) (by exact⟨rfl,rfl,rfl,rfl,rfl,rfl,rfl,trivial⟩) hh⟩)
   obtain⟨x108',hL,hRl112⟩:=aZ hF
   refine gB (fun k a w=>∃(x103:List (List Rat)),∃(x107:Int),dG K a5 x66 v85 v87 k x103 x107=some x108'∧x103.length=(N15+1)∧iE (g14++[(b24,x22.length,x22.length)]) x103∧hs _ ([⟨some b89,1,32,4,1,(eQ v87)⟩,⟨some p0,1,138,3,1,([pI .i64 a2]++[pO b4 n6 c5]++[pO b9 n11 c10])⟩,hO (cH (g14++[(b24,x22.length,x22.length)])) b4 c5 24 n6 x57,hO cI b9 c10 3 n11 a4]++f8 cQ 32 (g14++[(b24,x22.length,x22.length)]) x103) [(0,.vc (pP (some p0) 0)),(1,.vc (pI .i64 a0)),(2,.vc (pI .i64 a1)),(7,.vc (pO (gX (g14++[(b24,x22.length,x22.length)]) a5.length).1 (gX (g14++[(b24,x22.length,x22.length)]) a5.length).2.1 (gX (g14++[(b24,x22.length,x22.length)]) a5.length).2.2)),(11,.vc (pO (gX (g14++[(b24,x22.length,x22.length)]) v85).1 (gX (g14++[(b24,x22.length,x22.length)]) v85).2.1 (gX (g14++[(b24,x22.length,x22.length)]) v85).2.2)),(12,.vc (pP (some b89) 0)),(62,.vc (pO b4 n6 c5)),(63,.vc (pI .i64 (x57.length:Int))),(64,.vc (pI .i64 x70)),(77,.va (eQ v87)),(78,.vc (pI .i64 v93)),(79,.vc (pB (v93==0))),(82,.vc (pI .i64 ((x66.getD v85 []).length:Int))),(83,.vc (pI .i64 x107))] a w) K (fun a w ⟨_,_,hF,_,_,_⟩=>by cases hF) (fun k a w ⟨x103,x107,hF,q104,q105,hh⟩=>gC ?_ hh) (fun a w hh=>⟨x66,0,hL,q67,q68,bR 4 [0,1,2,3] rfl rfl (by decide) (by exact⟨rfl,rfl,rfl,rfl,rfl,rfl,rfl,rfl,rfl,rfl,rfl,rfl,rfl,rfl,trivial⟩) hh⟩)
   rw [dG.eq_2] at hF
   refine go ?_ ?_
   refine aJ hF rfl (fun h116 hF=>?_) (fun h116 hF=>?_)
   ·refine go ?_ ?_
    refine aS ?_
    obtain⟨v119,h120,v121,h122,hF⟩:=wP hF
    obtain⟨v123,h124,hF⟩:=bF hF mI
    obtain⟨v125,h126,hF⟩:=bF hF zA
    have hF:=sE h120 hF
    refine go ?_ ?_
    refine gT [0,0,0,0,12,28,0,0,0,384,896,1984,4092,8191,16383] 14 1 [.v (.vc (pO (gX (g14++[(b24,x22.length,x22.length)]) v85).1 (gX (g14++[(b24,x22.length,x22.length)]) v85).2.1 (gX (g14++[(b24,x22.length,x22.length)]) v85).2.2)),.v (.vc (pI .i64 x107)),.v (.vc (pO (gX (g14++[(b24,x22.length,x22.length)]) v85).1 (gX (g14++[(b24,x22.length,x22.length)]) v85).2.1 (gX (g14++[(b24,x22.length,x22.length)]) v85).2.2)),.v (.vc (pI .i64 x107)),.v (.vc (pE (gX (g14++[(b24,x22.length,x22.length)]) v85).1 x107 cQ.n 0)),.v (.va (eQ v119)),.v (.va (eQ v87)),.v (.vc (pO (gX (g14++[(b24,x22.length,x22.length)]) a5.length).1 (gX (g14++[(b24,x22.length,x22.length)]) a5.length).2.1 (gX (g14++[(b24,x22.length,x22.length)]) a5.length).2.2)),.v (.vc (pI .i64 x107)),.v (.vc (pE (gX (g14++[(b24,x22.length,x22.length)]) a5.length).1 x107 cQ.n 0)),.v (.va (eQ v121)),.v (.va (eQ v123)),.v (.va (eQ v125)),.v (.vc (pE (gX (g14++[(b24,x22.length,x22.length)]) v85).1 x107 cQ.n 0))] bC ⟨d0 (bB (.inl rfl)) zU1,d0 (bB (.inl rfl)) zU1,d0 (bB (.inl rfl)) zU1,d0 (bB (.inl rfl)) zU1,d0 (gN (4+v85) rfl tyS24 (iC 4 rfl q105 q104 ((uJ q18 h58 q16) _ (aV h86))) (gZ q105 q104 ((uJ q18 h58 q16) _ (aV h86))) (aN h120).1 (aN h120).2.1) zU2,d0 (lE (k:=4) (4+v85) rfl (iC 4 rfl q105 q104 ((uJ q18 h58 q16) _ (aV h86))) h120 rfl (.agg tyA32) rfl) zU1,d0 (fX 0 4 rfl rfl rfl rfl (.agg tyA32)) zU1,d0 (bB (.inl rfl)) zU1,d0 (bB (.inl rfl)) zU1,d0 (gN (4+a5.length) rfl tyS24 (iC 4 rfl q105 q104 (aIt q16)) (gZ q105 q104 (aIt q16)) (aN h122).1 (aN h122).2.1) zU2,d0 (lE (k:=4) (4+a5.length) rfl (iC 4 rfl q105 q104 (aIt q16)) h122 rfl (.agg tyA32) rfl) zU1,d0 (cS rfl h124 rfl) zU2,d0 (cS rfl h126 rfl) zU2,d0 (gN (4+v85) rfl tyS24 (iC 4 rfl q105 q104 ((uJ q18 h58 q16) _ (aV h86))) (gZ q105 q104 ((uJ q18 h58 q16) _ (aV h86))) (aN h120).1 (aN h120).2.1) zU2,trivial⟩ (fun bs118 G117=>?_)
    obtain⟨x129,h130,hF⟩:=aZ hF
    refine mR (xV (H':=([⟨some b89,1,32,4,1,(eQ v87)⟩,⟨some p0,1,138,3,1,([pI .i64 a2]++[pO b4 n6 c5]++[pO b9 n11 c10])⟩,hO (cH (g14++[(b24,x22.length,x22.length)])) b4 c5 24 n6 x57,hO cI b9 c10 3 n11 a4]++f8 cQ 32 (g14++[(b24,x22.length,x22.length)]) (x103.set v85 x129))) (4+v85) rfl (aAH 4 rfl q105 q104 ((uJ q18 h58 q16) _ (aV h86))) h120 h130 tyA32.s (hH:=stN 4 rfl q105 q104 ((uJ q18 h58 q16) _ (aV h86)))) zU2 ?_
    obtain⟨v132,h133,hF⟩:=aZ hF
    refine go ?_ ?_
    exact aM (fun a w hh=>⟨(x103.set v85 x129),v132,hF,(uG q104),(yW q105 q104 ((uJ q18 h58 q16) _ (aV h86)) (bK h130 rfl)),bR 4 [0,1,2,3] rfl rfl (by decide) (by exact⟨rfl,rfl,rfl,rfl,rfl,rfl,rfl,rfl,rfl,rfl,rfl,rfl,rfl,rfl,trivial⟩) hh⟩)
   refine cR ?_
   obtain rfl:=pZ hF
   exact lD Jj113 ⟨x103,hRl112,q104,q105,rfl,rfl⟩ 4 [1,2,3] rfl rfl ⟨rfl,rfl,rfl,rfl,rfl,rfl,rfl,rfl,rfl,rfl,trivial⟩
  refine cR ?_
  obtain rfl:=pZ hF
  exact lD Jj76 ⟨x66,hRl75,q67,q68,rfl,rfl⟩ 3 [0,1,2] rfl rfl ⟨rfl,rfl,rfl,trivial⟩
 obtain⟨x47',hL,hRl53⟩:=aZ hF
 refine gB (fun k a w=>∃(x40:List Rat),∃(x46:Int),dJ K a5 x22 v20 v30 k x40 x46=some x47'∧x40.length=x22.length∧hs _ ([⟨some b32,1,32,4,1,(eQ v30)⟩,hO cQ b24 x22.length 32 x22.length x40,⟨some p0,1,138,3,1,([pI .i64 a2]++[pO b4 n6 c5]++[pO b9 n11 c10])⟩,hO (cH g14) b4 c5 24 n6 a3,hO cI b9 c10 3 n11 a4]++f8 cQ 32 g14 a5) [(0,.vc (pP (some p0) 0)),(1,.vc (pI .i64 a0)),(2,.vc (pI .i64 a1)),(7,.vc (pO b24 x22.length x22.length)),(8,.vc (pP (some b32) 0)),(38,.vc (pI .i64 ((cpL x22 (a5.getD v20 [])).length:Int))),(39,.vc (pI .i64 x46))] a w) K (fun a w ⟨_,_,hF,_,_⟩=>by cases hF) (fun k a w ⟨x40,x46,hF,q44,hh⟩=>gC ?_ hh) (fun a w hh=>⟨(cpL x22 (a5.getD v20 [])),0,hL,(aEf rfl),bR 5 [0,1,2,3,4] rfl rfl (by decide) (by exact⟨rfl,rfl,rfl,rfl,rfl,rfl,rfl,trivial⟩) hh⟩)
 rw [dJ.eq_2] at hF
 refine go ?_ ?_
 refine aJ hF rfl (fun h134 hF=>?_) (fun h134 hF=>?_)
 ·refine go ?_ ?_
  refine aS ?_
  obtain⟨v137,h138,hF⟩:=aZ hF
  obtain⟨v139,h140,hF⟩:=bF hF yY
  have hF:=sE h138 hF
  refine go ?_ ?_
  refine dr [0,0,0,0,12,28,0,124,255,511] 9 1 ?_ (fun bs136 G135=>?_)
  obtain⟨x143,h144,v146,h147,hF⟩:=wP hF
  refine go ?_ ?_
  exact aM (fun a w hh=>⟨x143,v146,hF,(bK h144 q44),bR 5 [0,1,2,3,4] rfl rfl (by decide) (by exact⟨rfl,rfl,rfl,rfl,rfl,rfl,rfl,trivial⟩) hh⟩)
 refine cR ?_
 obtain rfl:=pZ hF
 exact lD Jj54 ⟨x40,hRl53,q44,rfl,rfl⟩ 5 [1,2,3,4] rfl rfl ⟨rfl,rfl,rfl,rfl,trivial⟩
def tN (K:Nat):Option (aW×Int):=
 none
def o5 (K:Nat) (x86:Int) (v90:Int×(List Nat)×(List Int)×(List (List Rat))) (x116:Int) (recl87:(List Nat)→(List Int)→(List (List Rat))→Int→Int→Int→Option (LR (aW×Int) Unit)) (x122:Int):Option (LR (aW×Int) Unit):=
 bif(decide (x122<0)) then(some (.ret ((⟨([]:List Rat),([]:List Rat),0⟩:aW),15))) else((aT (x86+1)).bind fun v126=>recl87 v90.2.1 v90.2.2.1 v90.2.2.2 x122 x116 v126)
def dR (K:Nat) (v6:Int×(List Nat)×(List Int)×(List (List Rat))) (v90:Int×(List Nat)×(List Int)×(List (List Rat))) (x116:Int):Nat→Int→Int→Option Int
 |0,_,_=>none
 |k+1,x120,x121=>bif(decide (x121<(v90.2.1.length:Int))) then((bL v90.2.1 x121).bind fun v129=>(bL (v90.2.2.2.getD v129 []) x116).bind fun v133=>(zN v133).bind fun v135=>bif(decide (0<v135)) then(bif(decide (x120<0)) then((aT (x121+1)).bind fun v139=>dR K v6 v90 x116 k x121 v139) else((bL (v90.2.2.2.getD v129 []) x116).bind fun v141=>(bL v90.2.1 x120).bind fun v143=>(bL (v90.2.2.2.getD v143 []) x116).bind fun v145=>(eE K x121 v141 x120 v145 v6.1 v90.2.1 v90.2.2.1 v90.2.2.2).bind fun v147=>bif v147 then((aT (x121+1)).bind fun v150=>dR K v6 v90 x116 k x121 v150) else((aT (x121+1)).bind fun v152=>dR K v6 v90 x116 k x120 v152))) else((aT (x121+1)).bind fun v154=>dR K v6 v90 x116 k x120 v154)) else(some x120)
def jI (K:Nat) (v6:Int×(List Nat)×(List Int)×(List (List Rat))) (x86:Int) (v90:Int×(List Nat)×(List Int)×(List (List Rat))) (recl87:(List Nat)→(List Int)→(List (List Rat))→Int→Int→Int→Option (LR (aW×Int) Unit)) (x116:Int):Option (LR (aW×Int) Unit):=
 (dR K v6 v90 x116 K (-1) 0).bind fun x122=>o5 K x86 v90 x116 recl87 x122
def dL (K:Nat) (a2:Int) (v6:Int×(List Nat)×(List Int)×(List (List Rat))):Nat→(List Nat)→(List Int)→(List (List Rat))→Int→Int→Int→Option (LR (aW×Int) Unit)
 |0,_,_,_,_,_,_=>none
 |k+1,x66,x72,x78,x84,x85,x86=>bif(x86==a2) then(some (.ret ((⟨([]:List Rat),([]:List Rat),0⟩:aW),16))) else((iG K x84 x85 v6.1 x66 x72 x78).bind fun v90=>(aT (2*v6.1)).bind fun v105=>bif(v90.1==v105) then((eU K v6.1 v90.2.1 v90.2.2.1 v90.2.2.2).bind fun v108=>(aT (x86+1)).bind fun v111=>some (.ret ((⟨v108.z,v108.w,v111⟩:aW),0))) else((aT (v90.1+v6.1)).bind fun v113=>bif(decide (v6.1≤v90.1)) then((aT (v90.1-v6.1)).bind fun v157=>jI K v6 x86 v90 (dL K a2 v6 k) v157) else(jI K v6 x86 v90 (dL K a2 v6 k) v113)))
def pQ (K:Nat) (a2:Int) (v6:Int×(List Nat)×(List Int)×(List (List Rat))) (x40:Int):Option (aW×Int):=
 (aT (2*v6.1)).bind fun v43=>(dL K a2 v6 K v6.2.1 v6.2.2.1 v6.2.2.2 x40 v43 0).bind fun o=>match o with| .ret r=>some r| .go _=>tN K
def fT (K:Nat) (v6:Int×(List Nat)×(List Int)×(List (List Rat))) (v33:Rat):Nat→Int→Int→Option Int
 |0,_,_=>none
 |k+1,x38,x39=>bif(decide (x39<v6.1)) then((eE K x39 v33 x38 v33 v6.1 v6.2.1 v6.2.2.1 v6.2.2.2).bind fun v160=>bif v160 then((aT (x39+1)).bind fun v163=>fT K v6 v33 k x39 v163) else((aT (x39+1)).bind fun v165=>fT K v6 v33 k x38 v165)) else(some x38)
def nZ (K:Nat) (a0:List (List Rat)) (a1:List Rat) (a2:Int):Option (aW×Int):=
 (qE K a0 a1).bind fun v2=>bif(!v2) then(some ((⟨([]:List Rat),([]:List Rat),0⟩:aW),1)) else(bif(decide (a2<0)) then(some ((⟨([]:List Rat),([]:List Rat),0⟩:aW),1)) else((nB K a0 a1).bind fun v6=>(nL K a1).bind fun v28=>bif(!v28) then((eU K v6.1 v6.2.1 v6.2.2.1 v6.2.2.2).bind fun v31=>some (v31,0)) else((qof 1 1).bind fun v33=>(fT K v6 v33 K 0 0).bind fun x40=>pQ K a2 v6 x40)))
theorem aDe {K:Nat} {a0:List (List Rat)} {a1:List Rat} {a2:Int} {r:aW×Int} (hF:nZ K a0 a1 a2=some r):Ct Tryz.prog 32 [.vc (pS (kK cQ) a0),.vc (pS cQ a1),.vc (pI .i64 a2)] (.t2 (.va (aW.enc r.1)) (.vc (pI .i64 r.2))):=by
 unfold nZ at hF
 refine aG Tryz.func32 rfl (by kernel_rfl) Tryz.ntmps32 rfl (fun w0 M0=>?_)
 refine aK (aR (aO rfl tyZ78q (fun b1=>?_)))
 obtain⟨v2,h3,hF⟩:=bF hF aDh
 refine go ?_ ?_
 refine eW hF (fun h4 hF=>?_) (fun h4 hF=>?_)
 ·refine go ?_ ?_
  refine oU rfl ?_
  refine aK (aR (aQ (dY (is:=[]) (xs:=[]) (ps:=[]) rfl tyB78q rfl rfl trivial rfl) trivial ?_))
  exact cF
 refine go ?_ ?_
 refine aJ hF rfl (fun h5 hF=>?_) (fun h5 hF=>?_)
 ·refine aK (aR (aQ (dY (is:=[]) (xs:=[]) (ps:=[]) rfl tyB78q rfl rfl trivial rfl) trivial ?_))
  exact cF
 obtain⟨v6,h7,hF⟩:=aZ hF
 refine go ?_ ?_
 refine aFO [] [0] rfl (aBn h7) zU2 rfl rfl (by decide) ?_
 rintro _ _ ⟨b8,b12,c13,n14,b17,c18,n19,g22,N23,q15,q20,q24,q25,q26,rfl,rfl⟩
 refine s8 (p8 [⟨some b8,1,138,3,1,([pI .i64 v6.1]++[pO b12 n14 c13]++[pO b17 n19 c18])⟩,hO (cH g22) b12 c13 24 n14 v6.2.1,hO cI b17 c18 3 n19 v6.2.2.1] (f8 cQ 32 g22 v6.2.2.2) [⟨some b1,1,78,3,1,([pS cQ ([]:List Rat)]++[pS cQ ([]:List Rat)]++[pI .i64 0])⟩]) ?_
 obtain⟨v28,h29,hF⟩:=bF hF aBM
 refine go ?_ ?_
 refine aJ hF rfl (fun h30 hF=>?_) (fun h30 hF=>?_)
 ·obtain⟨v31,h32,hF⟩:=aZ hF
  refine go ?_ ?_
  refine aFN 4 [0,1,2] [3] rfl (rI h32 q15 q20 q24 q25 q26) zU1 rfl rfl rfl (by decide) ?_
  rintro _ _ ⟨rfl,rfl⟩
  refine s8 (p8 [⟨some b8,1,138,3,1,([pI .i64 v6.1]++[pO b12 n14 c13]++[pO b17 n19 c18])⟩,hO (cH g22) b12 c13 24 n14 v6.2.1,hO cI b17 c18 3 n19 v6.2.2.1] (f8 cQ 32 g22 v6.2.2.2) [⟨some b1,1,78,3,1,([pS cQ ([]:List Rat)]++[pS cQ ([]:List Rat)]++[pI .i64 0])⟩]) ?_
  exact cF
 obtain⟨v33,h34,hF⟩:=bF hF xE
 refine go ?_ ?_
 refine aO rfl tyZ32q (fun b35=>?_)
 refine go ?_ ?_
 refine aS (bV (fun H E=>∃(x40:Int),pQ K a2 v6 x40=some r∧H=([⟨some b8,1,138,3,1,([pI .i64 v6.1]++[pO b12 n14 c13]++[pO b17 n19 c18])⟩,hO (cH g22) b12 c13 24 n14 v6.2.1,hO cI b17 c18 3 n19 v6.2.2.1,⟨some b1,1,78,3,1,([pS cQ ([]:List Rat)]++[pS cQ ([]:List Rat)]++[pI .i64 0])⟩]++f8 cQ 32 g22 v6.2.2.2)∧E=[(2,.vc (pI .i64 a2)),(6,.vc (pP (some b1) 0)),(8,.vc (pP (some b8) 0)),(10,.vc (pI .i64 x40))]) ?_ (fun Jj42=>?_))
 ·rintro _ _ ⟨x40,hF,rfl,rfl⟩
  unfold pQ at hF
  obtain⟨v43,h44,hF⟩:=aZ hF
  refine go ?_ ?_
  refine aS (bV (fun H E=>tN K=some r∧H=[]∧E=[]) ?_ (fun Jj88=>?_))
  ·rintro _ _ ⟨hF,rfl,rfl⟩
   unfold tN at hF
   cases hF
  obtain⟨ol87,hL,hRl87⟩:=aZ hF
  refine gB (fun k a w=>∃(x66:List Nat),∃(x72:List Int),∃(x78:List (List Rat)),∃(x84:Int),∃(x85:Int),∃(x86:Int),∃(b67:Option Nat),∃(c68:Nat),∃(n69:Nat),∃(g79:List u7),∃(N80:Nat),dL K a2 v6 k x66 x72 x78 x84 x85 x86=some ol87∧x66.length=n69∧x72.length=n19∧x78.length=N80∧iE g79 x78∧(∀k∈x66,k<N80)∧hs _ ([⟨some b8,1,138,3,1,([pI .i64 v6.1]++[pO b67 n69 c68]++[pO b17 n19 c18])⟩,hO (cH g79) b67 c68 24 n69 x66,hO cI b17 c18 3 n19 x72,⟨some b1,1,78,3,1,([pS cQ ([]:List Rat)]++[pS cQ ([]:List Rat)]++[pI .i64 0])⟩]++f8 cQ 32 g79 x78) [(2,.vc (pI .i64 a2)),(6,.vc (pP (some b1) 0)),(8,.vc (pP (some b8) 0)),(10,.vc (pI .i64 x84)),(12,.vc (pI .i64 x85)),(13,.vc (pI .i64 x86))] a w) K (fun a w ⟨_,_,_,_,_,_,_,_,_,_,_,hF,_,_,_,_,_,_⟩=>by cases hF) (fun k a w ⟨x66,x72,x78,x84,x85,x86,b67,c68,n69,g79,N80,hF,q70,q76,q81,q82,q83,hh⟩=>gC ?_ hh) (fun a w hh=>⟨v6.2.1,v6.2.2.1,v6.2.2.2,x40,v43,0,b12,c13,n14,g22,N23,hL,q15,q20,q24,q25,q26,bR 4 [0,1,2,3] rfl rfl (by decide) (by exact⟨rfl,rfl,rfl,rfl,rfl,rfl,trivial⟩) hh⟩)
  rw [dL.eq_2] at hF
  refine aK (aS (go ?_ ?_))
  refine aJ hF rfl (fun h89 hF=>?_) (fun h89 hF=>?_)
  ·refine aK (aR (aQ (dY (is:=[]) (xs:=[]) (ps:=[]) rfl tyB78q rfl rfl trivial rfl) trivial ?_))
   exact cF
  obtain⟨v90,h91,hF⟩:=aZ hF
  refine go ?_ ?_
  refine aFN 4 [0,1,2] [3] rfl (yL h91 q70 q76 q81 q82 q83) ⟨rfl,rfl,rfl,trivial⟩ rfl rfl rfl (by decide) ?_
  rintro _ _ ⟨b92,c93,n94,g99,N100,q95,q97,q101,q102,q103,rfl,rfl⟩
  refine s8 (p8 [⟨some b8,1,138,3,1,([pI .i64 v6.1]++[pO b92 n94 c93]++[pO b17 n19 c18])⟩,hO (cH g99) b92 c93 24 n94 v90.2.1,hO cI b17 c18 3 n19 v90.2.2.1] (f8 cQ 32 g99 v90.2.2.2) [⟨some b1,1,78,3,1,([pS cQ ([]:List Rat)]++[pS cQ ([]:List Rat)]++[pI .i64 0])⟩]) ?_
  have hF:=sE h44 hF
  refine go ?_ ?_
  refine aJ hF rfl (fun h107 hF=>?_) (fun h107 hF=>?_)
  ·obtain⟨v108,h109,hF⟩:=aZ hF
   refine go ?_ ?_
   refine aFN 4 [0,1,2] [3] rfl (rI h109 q95 q97 q101 q102 q103) zU1 rfl rfl rfl (by decide) ?_
   rintro _ _ ⟨rfl,rfl⟩
   refine s8 (p8 [⟨some b8,1,138,3,1,([pI .i64 v6.1]++[pO b92 n94 c93]++[pO b17 n19 c18])⟩,hO (cH g99) b92 c93 24 n94 v90.2.1,hO cI b17 c18 3 n19 v90.2.2.1] (f8 cQ 32 g99 v90.2.2.2) [⟨some b1,1,78,3,1,([pS cQ ([]:List Rat)]++[pS cQ ([]:List Rat)]++[pI .i64 0])⟩]) ?_
   refine aO rfl tyZ78q (fun b110=>?_)
   obtain⟨v111,h112,hF⟩:=aZ hF
   exact cF
  refine iP (aU (aK (aR (lH ?_))))
  refine lH ?_
  refine aQ (aAE rfl) zU1 ?_
  refine aQ (iU (off:=0) (k:=0) rfl tyF138_0) zU1 ?_
  refine aQ (fX 0 1 rfl rfl rfl rfl (.one tyO3)) zU1 ?_
  obtain⟨v113,h114,hF⟩:=aZ hF
  refine aQ (xJ rfl h114) zU2 ?_
  refine aDY ?_
  refine bT (aU (aK (xZ (fun H E=>∃(x116:Int),jI K v6 x86 v90 (dL K a2 v6 k) x116=some ol87∧H=([⟨some b8,1,138,3,1,([pI .i64 v6.1]++[pO b92 n94 c93]++[pO b17 n19 c18])⟩,hO (cH g99) b92 c93 24 n94 v90.2.1,hO cI b17 c18 3 n19 v90.2.2.1,⟨some b1,1,78,3,1,([pS cQ ([]:List Rat)]++[pS cQ ([]:List Rat)]++[pI .i64 0])⟩]++f8 cQ 32 g99 v90.2.2.2)∧E=[(2,.vc (pI .i64 a2)),(6,.vc (pP (some b1) 0)),(8,.vc (pP (some b8) 0)),(12,.vc (pI .i64 x116)),(13,.vc (pI .i64 x86))]) ?_ (fun Jj117=>?_))))
  ·rintro _ _ ⟨x116,hF,rfl,rfl⟩
   unfold jI at hF
   refine go ?_ ?_
   refine aS (bV (fun H E=>∃(x122:Int),o5 K x86 v90 x116 (dL K a2 v6 k) x122=some ol87∧H=([⟨some b8,1,138,3,1,([pI .i64 v6.1]++[pO b92 n94 c93]++[pO b17 n19 c18])⟩,hO (cH g99) b92 c93 24 n94 v90.2.1,hO cI b17 c18 3 n19 v90.2.2.1,⟨some b1,1,78,3,1,([pS cQ ([]:List Rat)]++[pS cQ ([]:List Rat)]++[pI .i64 0])⟩]++f8 cQ 32 g99 v90.2.2.2)∧E=[(2,.vc (pI .i64 a2)),(6,.vc (pP (some b1) 0)),(8,.vc (pP (some b8) 0)),(10,.vc (pI .i64 x122)),(12,.vc (pI .i64 x116)),(13,.vc (pI .i64 x86))]) ?_ (fun Jj124=>?_))
   ·rintro _ _ ⟨x122,hF,rfl,rfl⟩
    unfold o5 at hF
    refine go ?_ ?_
    refine aJ hF rfl (fun h125 hF=>?_) (fun h125 hF=>?_)
    ·refine aK (aR (aQ (dY (is:=[]) (xs:=[]) (ps:=[]) rfl tyB78q rfl rfl trivial rfl) trivial ?_))
     exact cF
    obtain⟨v126,h127,hF⟩:=aZ hF
    refine go ?_ ?_
    exact aM (fun a w hh=>⟨v90.2.1,v90.2.2.1,v90.2.2.2,x122,x116,v126,b92,c93,n94,g99,N100,hF,q95,q97,q101,q102,q103,bR 4 [0,1,2,3] rfl rfl (by decide) (by exact⟨rfl,rfl,rfl,rfl,rfl,rfl,trivial⟩) hh⟩)
   obtain⟨x122',hL,hRl123⟩:=aZ hF
   refine gB (fun k a w=>∃(x120:Int),∃(x121:Int),dR K v6 v90 x116 k x120 x121=some x122'∧hs _ ([⟨some b8,1,138,3,1,([pI .i64 v6.1]++[pO b92 n94 c93]++[pO b17 n19 c18])⟩,hO (cH g99) b92 c93 24 n94 v90.2.1,hO cI b17 c18 3 n19 v90.2.2.1,⟨some b1,1,78,3,1,([pS cQ ([]:List Rat)]++[pS cQ ([]:List Rat)]++[pI .i64 0])⟩]++f8 cQ 32 g99 v90.2.2.2) [(2,.vc (pI .i64 a2)),(6,.vc (pP (some b1) 0)),(8,.vc (pP (some b8) 0)),(10,.vc (pI .i64 x120)),(12,.vc (pI .i64 x116)),(13,.vc (pI .i64 x86)),(100,.vc (pO b92 n94 c93)),(101,.vc (pI .i64 (v90.2.1.length:Int))),(102,.vc (pI .i64 x121))] a w) K (fun a w ⟨_,_,hF,_⟩=>by cases hF) (fun k a w ⟨x120,x121,hF,hh⟩=>gC ?_ hh) (fun a w hh=>⟨(-1),0,hL,bR 4 [0,1,2,3] rfl rfl (by decide) (by exact⟨rfl,rfl,rfl,rfl,rfl,rfl,rfl,rfl,rfl,trivial⟩) hh⟩)
   rw [dR.eq_2] at hF
   refine go ?_ ?_
   refine aJ hF rfl (fun h128 hF=>?_) (fun h128 hF=>?_)
   ·refine go ?_ ?_
    refine aS ?_
    obtain⟨v129,h130,v133,h134,hF⟩:=wP hF
    obtain⟨v135,h136,hF⟩:=bF hF lN
    refine go ?_ ?_
    rcases Bool.eq_false_or_eq_true (decide (0<v135)) with h137|h137
    ·have hF:=aAU h137 hF
     rcases Bool.eq_false_or_eq_true (decide (x120<0)) with h138|h138
     ·have hF:=aAU h138 hF
      refine gT (0::0::3::7::15::31::63::127::255::511::1023::1023::1023::1023::13311::29695::1023::1023::132095::394239::918527::1023::4064255::8258559::1023::33424383::66978815::134217727::268435455::536870911::[]) 27 3 (.v (.vc (pO (gX g99 v129).1 (gX g99 v129).2.1 (gX g99 v129).2.2))::.v (.vc (pI .i64 x116))::.v (.vc (pE (gX g99 v129).1 x116 cQ.n 0))::.v (.va (eQ v133))::.v (.vc (pI .i64 v135))::.v (.vc (pB (decide (0<v135))))::.v (.vc (pB true))::.v (.vc (pI .i64 x120))::.v (.vc (pB (decide (x120<0))))::.v (.vc (pB true))::.v .un::.v .un::.v .un::.v .un::.v .un::.v .un::.v .un::.v .un::.v .un::.v .un::.v .un::.v .un::.v .un::.v .un::.v .un::.v .un::.v .un::[]) bC ⟨d0 (bB (.inl rfl)) zU1,d0 (bB (.inl rfl)) zU1,d0 (gN (4+v129) rfl tyS24 (iC 4 rfl q102 q101 (q103 _ (aV h130))) (gZ q102 q101 (q103 _ (aV h130))) (aN h134).1 (aN h134).2.1) zU2,d0 (lE (k:=4) (4+v129) rfl (iC 4 rfl q102 q101 (q103 _ (aV h130))) h134 rfl (.agg tyA32) rfl) zU1,d0 (cS rfl h136 rfl) zU1,d0 (aND rfl) ⟨rfl,lY _ _,trivial⟩,d0 (jK (bB (.inl rfl)) h137) zU1,g0 (bB (.inl rfl)) zU1,g0 (aNB rfl) ⟨rfl,lY _ _,trivial⟩,g0 (jK (bB (.inl rfl)) h138) zU1,⟨rfl,.skipN⟩,⟨rfl,.skipN⟩,⟨rfl,.skipN⟩,⟨rfl,.skipN⟩,⟨rfl,.skipN⟩,⟨rfl,.skipN⟩,⟨rfl,.skipN⟩,⟨rfl,.skipN⟩,⟨rfl,.skipN⟩,⟨rfl,.skipN⟩,⟨rfl,.skipN⟩,⟨rfl,.skipN⟩,⟨rfl,.skipN⟩,⟨rfl,.skipN⟩,⟨rfl,.skipN⟩,⟨rfl,.skipN⟩,⟨rfl,.skipN⟩,trivial⟩ (fun bs132 G131=>?_)
      refine go ?_ ?_
      refine oU rfl ?_
      obtain⟨v139,h140,hF⟩:=aZ hF
      refine go ?_ ?_
      exact aM (fun a w hh=>⟨x121,v139,hF,bR 4 [0,1,2,3] rfl rfl (by decide) (by exact⟨rfl,rfl,rfl,rfl,rfl,rfl,rfl,rfl,rfl,trivial⟩) hh⟩)
     have hF:=aA2 h138 hF
     have hF:=sE h134 hF
     obtain⟨v143,h144,hF⟩:=aZ hF
     obtain⟨v145,h146,hF⟩:=aZ hF
     refine gT (0::0::3::7::15::31::63::127::255::511::1023::1023::1023::1023::13311::29695::1023::1023::132095::394239::918527::1023::4064255::8258559::1023::33424383::66978815::134217727::268435455::536870911::[]) 27 3 (.v (.vc (pO (gX g99 v129).1 (gX g99 v129).2.1 (gX g99 v129).2.2))::.v (.vc (pI .i64 x116))::.v (.vc (pE (gX g99 v129).1 x116 cQ.n 0))::.v (.va (eQ v133))::.v (.vc (pI .i64 v135))::.v (.vc (pB (decide (0<v135))))::.v (.vc (pB true))::.v (.vc (pI .i64 x120))::.v (.vc (pB (decide (x120<0))))::.v (.vc (pB false))::.v (.vc (pP (some b8) 0))::.v (.vc (pI .i64 x121))::.v (.vc (pO (gX g99 v129).1 (gX g99 v129).2.1 (gX g99 v129).2.2))::.v (.vc (pI .i64 x116))::.v (.vc (pE (gX g99 v129).1 x116 cQ.n 0))::.v (.va (eQ v133))::.v (.vc (pI .i64 x120))::.v (.vc (pP (some b8) 0))::.v (.vc (pP (some b8) 0))::.v (.vc (pP (some b8) 1))::.v (.vc (pO b92 n94 c93))::.v (.vc (pI .i64 x120))::.v (.vc (pE b92 x120 (cH g99).n 0))::.v (.vc (pO (gX g99 v143).1 (gX g99 v143).2.1 (gX g99 v143).2.2))::.v (.vc (pI .i64 x116))::.v (.vc (pE (gX g99 v143).1 x116 cQ.n 0))::.v (.va (eQ v145))::[]) bC ⟨d0 (bB (.inl rfl)) zU1,d0 (bB (.inl rfl)) zU1,d0 (gN (4+v129) rfl tyS24 (iC 4 rfl q102 q101 (q103 _ (aV h130))) (gZ q102 q101 (q103 _ (aV h130))) (aN h134).1 (aN h134).2.1) zU2,d0 (lE (k:=4) (4+v129) rfl (iC 4 rfl q102 q101 (q103 _ (aV h130))) h134 rfl (.agg tyA32) rfl) zU1,d0 (cS rfl h136 rfl) zU1,d0 (aND rfl) ⟨rfl,lY _ _,trivial⟩,d0 (jK (bB (.inl rfl)) h137) zU1,g0 (bB (.inl rfl)) zU1,g0 (aNB rfl) ⟨rfl,lY _ _,trivial⟩,g0 (jK (bB (.inl rfl)) h138) zU1,g0 (bB (.inl rfl)) zU1,g0 (bB (.inl rfl)) zU1,g0 (bB (.inl rfl)) zU1,g0 (bB (.inl rfl)) zU1,g0 (gN (4+v129) rfl tyS24 (iC 4 rfl q102 q101 (q103 _ (aV h130))) (gZ q102 q101 (q103 _ (aV h130))) (aN h134).1 (aN h134).2.1) zU2,g0 (lE (k:=4) (4+v129) rfl (iC 4 rfl q102 q101 (q103 _ (aV h130))) h134 rfl (.agg tyA32) rfl) zU1,g0 (bB (.inl rfl)) zU1,g0 (bB (.inl rfl)) zU1,g0 (aAE rfl) zU1,g0 (iU (off:=0) (k:=1) rfl tyF138_1) zU1,g0 (fX 0 1 rfl rfl rfl rfl (.one tyO74)) zU1,g0 (bB (.inl rfl)) zU1,g0 (gN (C:=(cH g99)) 1 rfl tyS74 rfl q95 (aN h144).1 (aN h144).2.1) zU2,g0 (lE (C:=(cH g99)) (k:=1) 1 rfl rfl h144 rfl (.one tyO24) rfl) zU1,g0 (bB (.inl rfl)) zU1,g0 (gN (4+v143) rfl tyS24 (iC 4 rfl q102 q101 (q103 _ (aV h144))) (gZ q102 q101 (q103 _ (aV h144))) (aN h146).1 (aN h146).2.1) zU2,g0 (lE (k:=4) (4+v143) rfl (iC 4 rfl q102 q101 (q103 _ (aV h144))) h146 rfl (.agg tyA32) rfl) zU1,trivial⟩ (fun bs132 G131=>?_)
     obtain⟨v147,h148,hF⟩:=aZ hF
     refine aAa (aNh 4 [0,1,2] [3] [0,1,2,3] rfl (sN h148 q95 q97 q101 q102 q103) rfl rfl rfl rfl (by decide) (by decide) rfl) ⟨rfl,rfl,rfl,rfl,rfl,trivial⟩ ?_
     refine go ?_ ?_
     refine aJ hF rfl (fun h149 hF=>?_) (fun h149 hF=>?_)
     ·obtain⟨v150,h151,hF⟩:=aZ hF
      refine go ?_ ?_
      exact aM (fun a w hh=>⟨x121,v150,hF,bR 4 [0,1,2,3] rfl rfl (by decide) (by exact⟨rfl,rfl,rfl,rfl,rfl,rfl,rfl,rfl,rfl,trivial⟩) hh⟩)
     obtain⟨v152,h153,hF⟩:=aZ hF
     refine go ?_ ?_
     exact aM (fun a w hh=>⟨x120,v152,hF,bR 4 [0,1,2,3] rfl rfl (by decide) (by exact⟨rfl,rfl,rfl,rfl,rfl,rfl,rfl,rfl,rfl,trivial⟩) hh⟩)
    have hF:=aA2 h137 hF
    refine gT (0::0::3::7::15::31::63::127::255::511::1023::1023::1023::1023::13311::29695::1023::1023::132095::394239::918527::1023::4064255::8258559::1023::33424383::66978815::134217727::268435455::536870911::[]) 27 3 (.v (.vc (pO (gX g99 v129).1 (gX g99 v129).2.1 (gX g99 v129).2.2))::.v (.vc (pI .i64 x116))::.v (.vc (pE (gX g99 v129).1 x116 cQ.n 0))::.v (.va (eQ v133))::.v (.vc (pI .i64 v135))::.v (.vc (pB (decide (0<v135))))::.v (.vc (pB false))::.v .un::.v .un::.v .un::.v .un::.v .un::.v .un::.v .un::.v .un::.v .un::.v .un::.v .un::.v .un::.v .un::.v .un::.v .un::.v .un::.v .un::.v .un::.v .un::.v .un::[]) bC ⟨d0 (bB (.inl rfl)) zU1,d0 (bB (.inl rfl)) zU1,d0 (gN (4+v129) rfl tyS24 (iC 4 rfl q102 q101 (q103 _ (aV h130))) (gZ q102 q101 (q103 _ (aV h130))) (aN h134).1 (aN h134).2.1) zU2,d0 (lE (k:=4) (4+v129) rfl (iC 4 rfl q102 q101 (q103 _ (aV h130))) h134 rfl (.agg tyA32) rfl) zU1,d0 (cS rfl h136 rfl) zU1,d0 (aND rfl) ⟨rfl,lY _ _,trivial⟩,d0 (jK (bB (.inl rfl)) h137) zU1,⟨rfl,.skipN⟩,⟨rfl,.skipN⟩,⟨rfl,.skipN⟩,⟨rfl,.skipU⟩,⟨rfl,.skipU⟩,⟨rfl,.skipU⟩,⟨rfl,.skipU⟩,⟨rfl,.skipU⟩,⟨rfl,.skipU⟩,⟨rfl,.skipU⟩,⟨rfl,.skipU⟩,⟨rfl,.skipU⟩,⟨rfl,.skipU⟩,⟨rfl,.skipU⟩,⟨rfl,.skipU⟩,⟨rfl,.skipU⟩,⟨rfl,.skipU⟩,⟨rfl,.skipU⟩,⟨rfl,.skipU⟩,⟨rfl,.skipU⟩,trivial⟩ (fun bs132 G131=>?_)
    refine go ?_ ?_
    refine yC rfl ?_
    obtain⟨v154,h155,hF⟩:=aZ hF
    refine go ?_ ?_
    exact aM (fun a w hh=>⟨x120,v154,hF,bR 4 [0,1,2,3] rfl rfl (by decide) (by exact⟨rfl,rfl,rfl,rfl,rfl,rfl,rfl,rfl,rfl,trivial⟩) hh⟩)
   refine cR ?_
   obtain rfl:=pZ hF
   exact lD Jj124 ⟨x120,hRl123,rfl,rfl⟩ 4 [0,1,2,3] rfl rfl ⟨rfl,rfl,rfl,rfl,rfl,rfl,trivial⟩
  refine go ?_ ?_
  refine aJ hF rfl (fun h156 hF=>?_) (fun h156 hF=>?_)
  ·refine aR (lH ?_)
   refine lH ?_
   refine aQ (aAE rfl) zU1 ?_
   refine aQ (iU (off:=0) (k:=0) rfl tyF138_0) zU1 ?_
   refine aQ (fX 0 1 rfl rfl rfl rfl (.one tyO3)) zU1 ?_
   obtain⟨v157,h158,hF⟩:=aZ hF
   refine aQ (aEw rfl h158) zU2 ?_
   refine aDY ?_
   refine bT ?_
   exact lD Jj117 ⟨v157,hF,rfl,rfl⟩ 4 [0,1,2,3] rfl rfl ⟨rfl,rfl,rfl,rfl,rfl,trivial⟩
  refine iP ?_
  exact lD Jj117 ⟨v113,hF,rfl,rfl⟩ 4 [0,1,2,3] rfl rfl ⟨rfl,rfl,rfl,rfl,rfl,trivial⟩
 obtain⟨x40',hL,hRl41⟩:=aZ hF
 refine gB (fun k a w=>∃(x38:Int),∃(x39:Int),fT K v6 v33 k x38 x39=some x40'∧hs _ ([⟨some b35,1,32,4,1,(eQ v33)⟩,⟨some b8,1,138,3,1,([pI .i64 v6.1]++[pO b12 n14 c13]++[pO b17 n19 c18])⟩,hO (cH g22) b12 c13 24 n14 v6.2.1,hO cI b17 c18 3 n19 v6.2.2.1,⟨some b1,1,78,3,1,([pS cQ ([]:List Rat)]++[pS cQ ([]:List Rat)]++[pI .i64 0])⟩]++f8 cQ 32 g22 v6.2.2.2) [(2,.vc (pI .i64 a2)),(6,.vc (pP (some b1) 0)),(8,.vc (pP (some b8) 0)),(9,.vc (pP (some b35) 0)),(10,.vc (pI .i64 x38)),(39,.vc (pI .i64 v6.1)),(40,.vc (pI .i64 x39))] a w) K (fun a w ⟨_,_,hF,_⟩=>by cases hF) (fun k a w ⟨x38,x39,hF,hh⟩=>gC ?_ hh) (fun a w hh=>⟨0,0,hL,bR 5 [0,1,2,3,4] rfl rfl (by decide) (by exact⟨rfl,rfl,rfl,rfl,rfl,rfl,rfl,trivial⟩) hh⟩)
 rw [fT.eq_2] at hF
 refine go ?_ ?_
 refine aJ hF rfl (fun h159 hF=>?_) (fun h159 hF=>?_)
 ·refine go ?_ ?_
  refine aS ?_
  obtain⟨v160,h161,hF⟩:=aZ hF
  refine go ?_ ?_
  refine aFN 5 [1,2,3] [0,4] rfl (sN h161 q15 q20 q24 q25 q26) ⟨rfl,rfl,rfl,rfl,rfl,trivial⟩ rfl rfl rfl (by decide) ?_
  rintro _ _ ⟨rfl,rfl⟩
  refine s8 (p8 [⟨some b8,1,138,3,1,([pI .i64 v6.1]++[pO b12 n14 c13]++[pO b17 n19 c18])⟩,hO (cH g22) b12 c13 24 n14 v6.2.1,hO cI b17 c18 3 n19 v6.2.2.1] (f8 cQ 32 g22 v6.2.2.2) [⟨some b35,1,32,4,1,(eQ v33)⟩,⟨some b1,1,78,3,1,([pS cQ ([]:List Rat)]++[pS cQ ([]:List Rat)]++[pI .i64 0])⟩]) ?_
  refine bT (aU (aJ hF rfl (fun h162 hF=>?_) (fun h162 hF=>?_)))
  ·obtain⟨v163,h164,hF⟩:=aZ hF
   refine go ?_ ?_
   exact aM (fun a w hh=>⟨x39,v163,hF,bR 5 [3,0,1,2,4] rfl rfl (by decide) (by exact⟨rfl,rfl,rfl,rfl,rfl,rfl,rfl,trivial⟩) hh⟩)
  obtain⟨v165,h166,hF⟩:=aZ hF
  refine go ?_ ?_
  exact aM (fun a w hh=>⟨x38,v165,hF,bR 5 [3,0,1,2,4] rfl rfl (by decide) (by exact⟨rfl,rfl,rfl,rfl,rfl,rfl,rfl,trivial⟩) hh⟩)
 refine cR ?_
 obtain rfl:=pZ hF
 exact lD Jj42 ⟨x38,hRl41,rfl,rfl⟩ 5 [1,2,3,4] rfl rfl ⟨rfl,rfl,rfl,rfl,trivial⟩
def m5 (K:Nat):Option Int:=
 some (-1)
def eH (K:Nat) (a0:List aA) (a1:(aA→Option Bool)):Nat→Int→Option (LR Int Unit)
 |0,_=>none
 |k+1,x2=>bif(decide (x2<(a0.length:Int))) then((bL a0 x2).bind fun v6=>(a1 v6).bind fun v8=>bif v8 then(some (.ret x2)) else((aT (x2+1)).bind fun v11=>eH K a0 a1 k v11)) else(some (.go ()))
def mJ (K:Nat) (a0:List aA) (a1:(aA→Option Bool)):Option Int:=
 (eH K a0 a1 K 0).bind fun o=>match o with| .ret r=>some r| .go _=>m5 K
theorem aBw {K:Nat} {a0:List aA} {a1:(aA→Option Bool)} {r:Int} (hF:mJ K a0 a1=some r):Ct Tryz.prog 116 [.vc (pS aA.cod a0),.vc (pFn Tryz.prog (fun x:aA=>[.va (aA.enc x)]) (fun r:Bool=>.vc (pB r)) a1)] (.vc (pI .i64 r)):=by
 unfold mJ at hF
 refine aG Tryz.func116 rfl (by kernel_rfl) Tryz.ntmps116 rfl (fun w0 M0=>?_)
 refine go ?_ ?_
 refine aS (bV (fun H E=>m5 K=some r∧H=[]∧E=[]) ?_ (fun Jj4=>?_))
 ·rintro _ _ ⟨hF,rfl,rfl⟩
  unfold m5 at hF
  exact cF
 obtain⟨ol3,hL,hRl3⟩:=aZ hF
 refine gB (fun k a w=>∃(x2:Int),eH K a0 a1 k x2=some ol3∧hs _ [] [(0,.vc (pS aA.cod a0)),(1,.vc (pFn Tryz.prog (fun x:aA=>[.va (aA.enc x)]) (fun r:Bool=>.vc (pB r)) a1)),(7,.vc (pI .i64 (a0.length:Int))),(8,.vc (pI .i64 x2))] a w) K (fun a w ⟨_,hF,_⟩=>by cases hF) (fun k a w ⟨x2,hF,hh⟩=>gC ?_ hh) (fun a w hh=>⟨0,hL,gJ [] hh⟩)
 rw [eH.eq_2] at hF
 refine go ?_ ?_
 refine aJ hF rfl (fun h5 hF=>?_) (fun h5 hF=>?_)
 ·refine go ?_ ?_
  refine aS ?_
  obtain⟨v6,h7,v8,h9,hF⟩:=wP hF
  refine go ?_ ?_
  refine aQ (aC7 (pre:=fun x:aA=>[.va (aA.enc x)]) (post:=fun r:Bool=>.vc (pB r)) (x:=v6) (r:=v8) rfl h9 rfl) zU2 ?_
  refine bT (aU (aJ hF rfl (fun h10 hF=>?_) (fun h10 hF=>?_)))
  ·exact cF
  obtain⟨v11,h12,hF⟩:=aZ hF
  refine go ?_ ?_
  exact aM (fun a w hh=>⟨v11,hF,gJ [] hh⟩)
 refine cR ?_
 obtain rfl:=pZ hF
 exact qZ Jj4 ⟨hRl3,rfl,rfl⟩ []
def fN (K:Nat) (a0:List aA) (a1:(aA→Option Bool)):Option Bool:=
 (mJ K a0 a1).bind fun v1=>some (decide (0≤v1))
theorem u6 {K:Nat} {a0:List aA} {a1:(aA→Option Bool)} {r:Bool} (hF:fN K a0 a1=some r):Ct Tryz.prog 57 [.vc (pS aA.cod a0),.vc (pFn Tryz.prog (fun x:aA=>[.va (aA.enc x)]) (fun r:Bool=>.vc (pB r)) a1)] (.vc (pB r)):=by
 unfold fN at hF
 refine aG Tryz.func57 rfl (by kernel_rfl) Tryz.ntmps57 rfl (fun w0 M0=>?_)
 obtain⟨v1,h2,hF⟩:=bF hF aBw
 exact cF
def mW (K:Nat):Option Int:=
 some (-1)
def fL (K:Nat) (a0:List Rat) (a1:(Rat→Option Bool)):Nat→Int→Option (LR Int Unit)
 |0,_=>none
 |k+1,x2=>bif(decide (x2<(a0.length:Int))) then((bL a0 x2).bind fun v6=>(a1 v6).bind fun v8=>bif v8 then(some (.ret x2)) else((aT (x2+1)).bind fun v11=>fL K a0 a1 k v11)) else(some (.go ()))
def pN (K:Nat) (a0:List Rat) (a1:(Rat→Option Bool)):Option Int:=
 (fL K a0 a1 K 0).bind fun o=>match o with| .ret r=>some r| .go _=>mW K
theorem aBm {K:Nat} {a0:List Rat} {a1:(Rat→Option Bool)} {r:Int} (hF:pN K a0 a1=some r):Ct Tryz.prog 164 [.vc (pS cQ a0),.vc (pFn Tryz.prog (fun x:Rat=>[.va (eQ x)]) (fun r:Bool=>.vc (pB r)) a1)] (.vc (pI .i64 r)):=by
 unfold pN at hF
 refine aG Tryz.func164 rfl (by kernel_rfl) Tryz.ntmps164 rfl (fun w0 M0=>?_)
 refine go ?_ ?_
 refine aS (bV (fun H E=>mW K=some r∧H=[]∧E=[]) ?_ (fun Jj4=>?_))
 ·rintro _ _ ⟨hF,rfl,rfl⟩
  unfold mW at hF
  exact cF
 obtain⟨ol3,hL,hRl3⟩:=aZ hF
 refine gB (fun k a w=>∃(x2:Int),fL K a0 a1 k x2=some ol3∧hs _ [] [(0,.vc (pS cQ a0)),(1,.vc (pFn Tryz.prog (fun x:Rat=>[.va (eQ x)]) (fun r:Bool=>.vc (pB r)) a1)),(7,.vc (pI .i64 (a0.length:Int))),(8,.vc (pI .i64 x2))] a w) K (fun a w ⟨_,hF,_⟩=>by cases hF) (fun k a w ⟨x2,hF,hh⟩=>gC ?_ hh) (fun a w hh=>⟨0,hL,gJ [] hh⟩)
 rw [fL.eq_2] at hF
 refine go ?_ ?_
 refine aJ hF rfl (fun h5 hF=>?_) (fun h5 hF=>?_)
 ·refine go ?_ ?_
  refine aS ?_
  obtain⟨v6,h7,v8,h9,hF⟩:=wP hF
  refine go ?_ ?_
  refine aQ (aC7 (pre:=fun x:Rat=>[.va (eQ x)]) (post:=fun r:Bool=>.vc (pB r)) (x:=v6) (r:=v8) rfl h9 rfl) zU2 ?_
  refine bT (aU (aJ hF rfl (fun h10 hF=>?_) (fun h10 hF=>?_)))
  ·exact cF
  obtain⟨v11,h12,hF⟩:=aZ hF
  refine go ?_ ?_
  exact aM (fun a w hh=>⟨v11,hF,gJ [] hh⟩)
 refine cR ?_
 obtain rfl:=pZ hF
 exact qZ Jj4 ⟨hRl3,rfl,rfl⟩ []
def mU (K:Nat) (a0:List Rat) (a1:(Rat→Option Bool)):Option Bool:=
 (pN K a0 a1).bind fun v1=>some (decide (0≤v1))
theorem aAw {K:Nat} {a0:List Rat} {a1:(Rat→Option Bool)} {r:Bool} (hF:mU K a0 a1=some r):Ct Tryz.prog 117 [.vc (pS cQ a0),.vc (pFn Tryz.prog (fun x:Rat=>[.va (eQ x)]) (fun r:Bool=>.vc (pB r)) a1)] (.vc (pB r)):=by
 unfold mU at hF
 refine aG Tryz.func117 rfl (by kernel_rfl) Tryz.ntmps117 rfl (fun w0 M0=>?_)
 obtain⟨v1,h2,hF⟩:=bF hF aBm
 exact cF
def sR (a0:Rat):Option Bool:=
 (aEI a0).bind fun v2=>some (!v2)
theorem aFv {a0:Rat} {r:Bool} (hF:sR a0=some r):Ct Tryz.prog 118 [.va (eQ a0)] (.vc (pB r)):=by
 unfold sR at hF
 refine aG Tryz.func118 rfl (by kernel_rfl) Tryz.ntmps118 rfl (fun w0 M0=>?_)
 refine aK (aR (cC rfl rfl trivial (fun b1=>?_)))
 obtain⟨v2,h3,hF⟩:=bF hF vB
 exact cF
def vE (K:Nat) (a0:List Rat):Option Bool:=
 (mU K a0 (sR)).bind fun v1=>some (!v1)
theorem aDw {K:Nat} {a0:List Rat} {r:Bool} (hF:vE K a0=some r):Ct Tryz.prog 60 [.vc (pS cQ a0)] (.vc (pB r)):=by
 unfold vE at hF
 refine aG Tryz.func60 rfl (by kernel_rfl) Tryz.ntmps60 rfl (fun w0 M0=>?_)
 obtain⟨v1,h2,hF⟩:=bF hF aAw
 refine go ?_ ?_
 refine aQ (cS rfl h2 rfl) ⟨rfl,(aU0 (P:=Tryz.prog) (φ:=(sR)) (pre:=fun x:Rat=>[.va (eQ x)]) (post:=fun r:Bool=>.vc (pB r)) (fun x r h=>aFv h)),trivial⟩ ?_
 exact cF
def xO (K:Nat) (x7:Rat):Option Rat:=
 some x7
def l4 (K:Nat) (a0:List aE) (a1:List Rat):Nat→Rat→Int→Option Rat
 |0,_,_=>none
 |k+1,x5,x6=>bif(decide (x6<(a0.length:Int))) then((bL a0 x6).bind fun v11=>bif(decide (0≤v11.dof)) then(bif(decide (v11.dof<(a1.length:Int))) then((bL a1 v11.dof).bind fun v18=>(zR v11.k v18).bind fun v20=>(aAJ x5 v20).bind fun v22=>(aT (x6+1)).bind fun v24=>l4 K a0 a1 k v22 v24) else((aT (x6+1)).bind fun v26=>l4 K a0 a1 k x5 v26)) else((aT (x6+1)).bind fun v28=>l4 K a0 a1 k x5 v28)) else(some x5)
def jQ (K:Nat) (a0:List aE) (a1:List Rat):Option Rat:=
 (l4 K a0 a1 K 0 0).bind fun x7=>xO K x7
theorem n9 {K:Nat} {a0:List aE} {a1:List Rat} {r:Rat} (hF:jQ K a0 a1=some r):Ct Tryz.prog 59 [.vc (pS aE.cod a0),.vc (pS cQ a1)] (.va (eQ r)):=by
 unfold jQ at hF
 refine aG Tryz.func59 rfl (by kernel_rfl) Tryz.ntmps59 rfl (fun w0 M0=>?_)
 refine aK (aR (aO rfl tyZ32q (fun b1=>?_)))
 refine go ?_ ?_
 refine aO rfl tyZ32q (fun b2=>?_)
 refine go ?_ ?_
 refine aS (bV (fun H E=>∃(x7:Rat),xO K x7=some r∧H=[⟨some b2,1,32,4,1,(eQ x7)⟩,⟨some b1,1,32,4,1,(eQ 0)⟩]∧E=[(4,.vc (pP (some b1) 0)),(5,.vc (pP (some b2) 0))]) ?_ (fun Jj9=>?_))
 ·rintro _ _ ⟨x7,hF,rfl,rfl⟩
  unfold xO at hF
  exact cF
 obtain⟨x7',hL,hRl8⟩:=aZ hF
 refine gB (fun k a w=>∃(x5:Rat),∃(x6:Int),l4 K a0 a1 k x5 x6=some x7'∧hs _ [⟨some b2,1,32,4,1,(eQ x5)⟩,⟨some b1,1,32,4,1,(eQ 0)⟩] [(1,.vc (pS cQ a1)),(4,.vc (pP (some b1) 0)),(5,.vc (pP (some b2) 0)),(8,.vc (pS aE.cod a0)),(9,.vc (pI .i64 (a0.length:Int))),(10,.vc (pI .i64 x6))] a w) K (fun a w ⟨_,_,hF,_⟩=>by cases hF) (fun k a w ⟨x5,x6,hF,hh⟩=>gC ?_ hh) (fun a w hh=>⟨0,0,hL,gJ [0,1] hh⟩)
 rw [l4.eq_2] at hF
 refine go ?_ ?_
 refine aJ hF rfl (fun h10 hF=>?_) (fun h10 hF=>?_)
 ·refine go ?_ ?_
  refine aS ?_
  obtain⟨v11,h12,hF⟩:=aZ hF
  refine go ?_ ?_
  refine aO rfl tyZ104q (fun b13=>?_)
  refine go ?_ ?_
  refine eW hF (fun h14 hF=>?_) (fun h14 hF=>?_)
  ·refine go ?_ ?_
   refine aJ hF rfl (fun h15 hF=>?_) (fun h15 hF=>?_)
   ·obtain⟨v18,h19,hF⟩:=aZ hF
    obtain⟨v20,h21,hF⟩:=bF hF mI
    obtain⟨v22,h23,hF⟩:=bF hF uR
    refine dr [0,0,2,0,0,16,56,120,254,511,1023] 10 1 ?_ (fun bs17 G16=>?_)
    obtain⟨v24,h25,hF⟩:=aZ hF
    refine go ?_ ?_
    exact aM (fun a w hh=>⟨v22,v24,hF,gJ [1,2] hh⟩)
   obtain⟨v26,h27,hF⟩:=aZ hF
   refine go ?_ ?_
   exact aM (fun a w hh=>⟨x5,v26,hF,gJ [1,2] hh⟩)
  refine go ?_ ?_
  refine yC rfl ?_
  obtain⟨v28,h29,hF⟩:=aZ hF
  refine go ?_ ?_
  exact aM (fun a w hh=>⟨x5,v28,hF,gJ [1,2] hh⟩)
 refine cR ?_
 obtain rfl:=pZ hF
 exact qZ Jj9 ⟨x5,hRl8,rfl,rfl⟩ [0,1]
def vF (K:Nat):Option Bool:=
 some true
def lO (K:Nat) (a0:List aE) (a1:Int):Nat→Int→Option (LR Bool Unit)
 |0,_=>none
 |k+1,x2=>bif(decide (x2<(a0.length:Int))) then((bL a0 x2).bind fun v6=>bif(decide (v6.dof<0)) then(some (.ret false)) else(bif(decide (a1≤v6.dof)) then(some (.ret false)) else(bif(decide (0<x2)) then((aT (x2-1)).bind fun v14=>(bL a0 v14).bind fun v16=>bif(decide (v6.dof≤v16.dof)) then(some (.ret false)) else((aEI v6.k).bind fun v19=>bif(!v19) then(some (.ret false)) else((aT (x2+1)).bind fun v22=>lO K a0 a1 k v22))) else((aEI v6.k).bind fun v24=>bif(!v24) then(some (.ret false)) else((aT (x2+1)).bind fun v27=>lO K a0 a1 k v27))))) else(some (.go ()))
def tU (K:Nat) (a0:List aE) (a1:Int):Option Bool:=
 (lO K a0 a1 K 0).bind fun o=>match o with| .ret r=>some r| .go _=>vF K
theorem aCr {K:Nat} {a0:List aE} {a1:Int} {r:Bool} (hF:tU K a0 a1=some r):Ct Tryz.prog 97 [.vc (pS aE.cod a0),.vc (pI .i64 a1)] (.vc (pB r)):=by
 unfold tU at hF
 refine aG Tryz.func97 rfl (by kernel_rfl) Tryz.ntmps97 rfl (fun w0 M0=>?_)
 refine go ?_ ?_
 refine aS (bV (fun H E=>vF K=some r∧H=[]∧E=[]) ?_ (fun Jj4=>?_))
 ·rintro _ _ ⟨hF,rfl,rfl⟩
  unfold vF at hF
  exact cF
 obtain⟨ol3,hL,hRl3⟩:=aZ hF
 refine gB (fun k a w=>∃(x2:Int),lO K a0 a1 k x2=some ol3∧hs _ [] [(0,.vc (pS aE.cod a0)),(1,.vc (pI .i64 a1)),(7,.vc (pS aE.cod a0)),(8,.vc (pI .i64 (a0.length:Int))),(9,.vc (pI .i64 x2))] a w) K (fun a w ⟨_,hF,_⟩=>by cases hF) (fun k a w ⟨x2,hF,hh⟩=>gC ?_ hh) (fun a w hh=>⟨0,hL,gJ [] hh⟩)
 rw [lO.eq_2] at hF
 refine go ?_ ?_
 refine aJ hF rfl (fun h5 hF=>?_) (fun h5 hF=>?_)
 ·refine go ?_ ?_
  refine aS ?_
  obtain⟨v6,h7,hF⟩:=aZ hF
  refine go ?_ ?_
  refine aO rfl tyZ104q (fun b8=>?_)
  refine go ?_ ?_
  rcases Bool.eq_false_or_eq_true (decide (v6.dof<0)) with h11|h11
  ·have hF:=aAU h11 hF
   refine drb (0::1::3::7::15::31::15::127::255::511::1023::2047::4095::8191::16383::8191::8191::73727::237567::499711::1023999::2097151::4194303::8388607::16777215::33554431::67108863::134217727::268435455::536870911::[]) 30 0 ?_ (fun bs10 G9=>?_)
   refine bT (aU (oU rfl ?_))
   exact cF
  have hF:=aA2 h11 hF
  rcases Bool.eq_false_or_eq_true (decide (a1≤v6.dof)) with h12|h12
  ·have hF:=aAU h12 hF
   refine drb (0::1::3::7::15::31::15::127::255::511::1023::2047::4095::8191::16383::8191::8191::73727::237567::499711::1023999::2097151::4194303::8388607::16777215::33554431::67108863::134217727::268435455::536870911::[]) 30 0 ?_ (fun bs10 G9=>?_)
   refine bT (aU (oU rfl ?_))
   exact cF
  have hF:=aA2 h12 hF
  rcases Bool.eq_false_or_eq_true (decide (0<x2)) with h13|h13
  ·have hF:=aAU h13 hF
   obtain⟨v14,h15,hF⟩:=aZ hF
   obtain⟨v16,h17,hF⟩:=aZ hF
   rcases Bool.eq_false_or_eq_true (decide (v6.dof≤v16.dof)) with h18|h18
   ·have hF:=aAU h18 hF
    refine drb (0::1::3::7::15::31::15::127::255::511::1023::2047::4095::8191::16383::8191::8191::73727::237567::499711::1023999::2097151::4194303::8388607::16777215::33554431::67108863::134217727::268435455::536870911::[]) 30 0 ?_ (fun bs10 G9=>?_)
    refine bT (aU (oU rfl ?_))
    exact cF
   have hF:=aA2 h18 hF
   obtain⟨v19,h20,hF⟩:=bF hF vB
   refine drb (0::1::3::7::15::31::15::127::255::511::1023::2047::4095::8191::16383::8191::8191::73727::237567::499711::1023999::2097151::4194303::8388607::16777215::33554431::67108863::134217727::268435455::536870911::[]) 30 0 ?_ (fun bs10 G9=>?_)
   refine bT (aU (aJ hF rfl (fun h21 hF=>?_) (fun h21 hF=>?_)))
   ·exact cF
   obtain⟨v22,h23,hF⟩:=aZ hF
   refine go ?_ ?_
   exact aM (fun a w hh=>⟨v22,hF,gJ [] hh⟩)
  have hF:=aA2 h13 hF
  obtain⟨v24,h25,hF⟩:=bF hF vB
  refine drb (0::1::3::7::15::31::15::127::255::511::1023::2047::4095::8191::16383::8191::8191::73727::237567::499711::1023999::2097151::4194303::8388607::16777215::33554431::67108863::134217727::268435455::536870911::[]) 30 0 ?_ (fun bs10 G9=>?_)
  refine bT (aU (aJ hF rfl (fun h26 hF=>?_) (fun h26 hF=>?_)))
  ·exact cF
  obtain⟨v27,h28,hF⟩:=aZ hF
  refine go ?_ ?_
  exact aM (fun a w hh=>⟨v27,hF,gJ [] hh⟩)
 refine cR ?_
 obtain rfl:=pZ hF
 exact qZ Jj4 ⟨hRl3,rfl,rfl⟩ []
def lM (K:Nat) (c0:Int) (c1:aF) (a0:aA):Option Bool:=
 (tU K a0.j c0).bind fun v2=>bif(!v2) then(some true) else((tU K a0.t c0).bind fun v5=>bif(!v5) then(some true) else((aEI a0.mu).bind fun v8=>bif(!v8) then(some true) else((zN a0.mu).bind fun v11=>bif(decide (v11<0)) then(some true) else((jQ K a0.j c1.v).bind fun v14=>(zN v14).bind fun v16=>some (v16 != 0)))))
theorem aCi {K:Nat} {c0:Int} {c1:aF} {a0:aA} {r:Bool} (hF:lM K c0 c1 a0=some r):Ct Tryz.prog 96 [.va (aA.enc a0),.vc (pM (cI.e c0)),.vc (pM (aF.cod.e c1))] (.vc (pB r)):=by
 unfold lM at hF
 refine aG Tryz.func96 rfl (by kernel_rfl) Tryz.ntmps96 rfl (fun w0 M0=>?_)
 refine aK (aR (cC rfl rfl trivial (fun b1=>?_)))
 obtain⟨v2,h3,hF⟩:=bF hF aCr
 refine go ?_ ?_
 refine eW hF (fun h4 hF=>?_) (fun h4 hF=>?_)
 ·exact cF
 obtain⟨v5,h6,hF⟩:=bF hF aCr
 refine go ?_ ?_
 refine eW hF (fun h7 hF=>?_) (fun h7 hF=>?_)
 ·exact cF
 obtain⟨v8,h9,hF⟩:=bF hF vB
 refine go ?_ ?_
 refine eW hF (fun h10 hF=>?_) (fun h10 hF=>?_)
 ·exact cF
 obtain⟨v11,h12,hF⟩:=bF hF lN
 refine go ?_ ?_
 refine eW hF (fun h13 hF=>?_) (fun h13 hF=>?_)
 ·exact cF
 obtain⟨v14,h15,hF⟩:=bF hF n9
 obtain⟨v16,h17,hF⟩:=bF hF lN
 exact cF
def pT (K:Nat) (a0:aF):Option Bool:=
 (fN K a0.rows (lM K (a0.dofs.length:Int) a0)).bind fun v16=>some (!v16)
def iM (K:Nat) (a0:aF):Nat→Int→Option (LR Bool Unit)
 |0,_=>none
 |k+1,x13=>bif(decide (x13<(a0.dofs.length:Int))) then((bL a0.dofs x13).bind fun v19=>(aEI v19.inv).bind fun v22=>bif(!v22) then(some (.ret false)) else((zN v19.inv).bind fun v25=>bif(decide (v25≤0)) then(some (.ret false)) else((aT (x13+1)).bind fun v28=>iM K a0 k v28))) else(some (.go ()))
def qJ (K:Nat) (a0:aF):Option Bool:=
 bif(decide (12<(a0.dofs.length:Int))) then(some false) else(bif((a0.load.length:Int) != (a0.dofs.length:Int)) then(some false) else(bif((a0.v.length:Int) != (a0.dofs.length:Int)) then(some false) else((vE K a0.load).bind fun v6=>bif(!v6) then(some false) else((vE K a0.v).bind fun v9=>bif(!v9) then(some false) else((iM K a0 K 0).bind fun o=>match o with| .ret r=>some r| .go _=>pT K a0)))))
theorem aDd {K:Nat} {a0:aF} {r:Bool} (hF:qJ K a0=some r):Ct Tryz.prog 38 [.va (aF.enc a0)] (.vc (pB r)):=by
 unfold qJ at hF
 refine aG Tryz.func38 rfl (by kernel_rfl) Tryz.ntmps38 rfl (fun w0 M0=>?_)
 refine aK (aR (cC rfl rfl trivial (fun b1=>?_)))
 refine go ?_ ?_
 refine aO rfl tyZ3q (fun b2=>?_)
 refine go ?_ ?_
 refine eW hF (fun h3 hF=>?_) (fun h3 hF=>?_)
 ·refine go ?_ ?_
  refine oU rfl ?_
  exact cF
 refine go ?_ ?_
 refine eW hF (fun h4 hF=>?_) (fun h4 hF=>?_)
 ·refine go ?_ ?_
  refine oU rfl ?_
  exact cF
 refine go ?_ ?_
 refine eW hF (fun h5 hF=>?_) (fun h5 hF=>?_)
 ·refine go ?_ ?_
  refine oU rfl ?_
  exact cF
 obtain⟨v6,h7,hF⟩:=bF hF aDw
 refine go ?_ ?_
 refine eW hF (fun h8 hF=>?_) (fun h8 hF=>?_)
 ·refine go ?_ ?_
  refine oU rfl ?_
  exact cF
 obtain⟨v9,h10,hF⟩:=bF hF aDw
 refine go ?_ ?_
 refine aJ hF rfl (fun h11 hF=>?_) (fun h11 hF=>?_)
 ·exact cF
 refine go ?_ ?_
 refine aS (bV (fun H E=>pT K a0=some r∧H=[⟨some b2,1,3,1,1,[pI .i64 (a0.dofs.length:Int)]⟩,⟨some b1,1,86,4,1,(aF.enc a0)⟩]∧E=[(1,.vc (pP (some b1) 0)),(3,.vc (pP (some b2) 0))]) ?_ (fun Jj15=>?_))
 ·rintro _ _ ⟨hF,rfl,rfl⟩
  unfold pT at hF
  refine aU (aK (aR (aQ (iU (off:=0) (k:=3) rfl tyF86_3) zU1 ?_)))
  refine aQ (fX 1 1 rfl rfl rfl rfl (.one tyO25)) zU1 ?_
  refine yO 0 [(3,0)] rfl zU1 rfl ?_
  refine yO 0 [(1,0),(55,3)] rfl zU2 rfl ?_
  refine aQ (aEL (φ:=(lM K (a0.dofs.length:Int) a0)) (pre:=fun x:aA=>[.va (aA.enc x)]) (post:=fun r:Bool=>.vc (pB r)) (xs:=[.tmp 3,.tmp 1]) (cs:=[pM (cI.e (a0.dofs.length:Int)),pM (aF.cod.e a0)]) rfl rfl (fun x r h=>aCi h)) zU2 ?_
  obtain⟨v16,h17,hF⟩:=bF hF u6
  exact cF
 obtain⟨ol14,hL,hRl14⟩:=aZ hF
 refine gB (fun k a w=>∃(x13:Int),iM K a0 k x13=some ol14∧hs _ [⟨some b2,1,3,1,1,[pI .i64 (a0.dofs.length:Int)]⟩,⟨some b1,1,86,4,1,(aF.enc a0)⟩] [(1,.vc (pP (some b1) 0)),(3,.vc (pP (some b2) 0)),(38,.vc (pS aD.cod a0.dofs)),(39,.vc (pI .i64 (a0.dofs.length:Int))),(40,.vc (pI .i64 x13))] a w) K (fun a w ⟨_,hF,_⟩=>by cases hF) (fun k a w ⟨x13,hF,hh⟩=>gC ?_ hh) (fun a w hh=>⟨0,hL,gJ [0,1] hh⟩)
 rw [iM.eq_2] at hF
 refine go ?_ ?_
 refine aJ hF rfl (fun h18 hF=>?_) (fun h18 hF=>?_)
 ·refine go ?_ ?_
  refine aS ?_
  obtain⟨v19,h20,hF⟩:=aZ hF
  refine go ?_ ?_
  refine aO rfl tyZ36q (fun b21=>?_)
  obtain⟨v22,h23,hF⟩:=bF hF vB
  refine go ?_ ?_
  refine eW hF (fun h24 hF=>?_) (fun h24 hF=>?_)
  ·refine go ?_ ?_
   refine oU rfl ?_
   exact cF
  obtain⟨v25,h26,hF⟩:=bF hF lN
  refine go ?_ ?_
  refine aJ hF rfl (fun h27 hF=>?_) (fun h27 hF=>?_)
  ·exact cF
  obtain⟨v28,h29,hF⟩:=aZ hF
  refine go ?_ ?_
  exact aM (fun a w hh=>⟨v28,hF,gJ [1,2] hh⟩)
 refine cR ?_
 obtain rfl:=pZ hF
 exact qZ Jj15 ⟨hRl14,rfl,rfl⟩ [0,1]
def nO (K:Nat) (a0:aF) (a1:aA):Option Int:=
 (jQ K a1.t a0.v).bind fun v3=>(zN v3).bind fun v5=>some v5
theorem aAb {K:Nat} {a0:aF} {a1:aA} {r:Int} (hF:nO K a0 a1=some r):Ct Tryz.prog 98 [.va (aF.enc a0),.va (aA.enc a1)] (.vc (pI .i64 r)):=by
 unfold nO at hF
 refine aG Tryz.func98 rfl (by kernel_rfl) Tryz.ntmps98 rfl (fun w0 M0=>?_)
 refine aK (aR (cC rfl rfl trivial (fun b1=>?_)))
 refine cC rfl rfl trivial (fun b2=>?_)
 obtain⟨v3,h4,hF⟩:=bF hF n9
 obtain⟨v5,h6,hF⟩:=bF hF lN
 exact cF
def l6 (K:Nat) (x18:List aC):Option (List aC):=
 some x18
def dN (K:Nat) (a0:aF):Nat→(List aC)→Int→Option (List aC)
 |0,_,_=>none
 |k+1,x11,x17=>bif(decide (x17<(a0.rows.length:Int))) then((bL a0.rows x17).bind fun v27=>(qR x11 [(⟨x17,0⟩:aC)]).bind fun x30=>bif(decide (0<(v27.t.length:Int))) then((nO K a0 v27).bind fun v38=>bif(v38==0) then((qR x30 [(⟨x17,1⟩:aC),(⟨x17,2⟩:aC),(⟨x17,3⟩:aC)]).bind fun x41=>(aT (x17+1)).bind fun v48=>dN K a0 k x41 v48) else((aT (x17+1)).bind fun v50=>dN K a0 k x30 v50)) else((aT (x17+1)).bind fun v52=>dN K a0 k x30 v52)) else(some x11)
def kE (K:Nat) (a0:aF):Option (List aC):=
 (dN K a0 K ([]:List aC) 0).bind fun x18=>l6 K x18
theorem xC {K:Nat} {a0:aF} {r:List aC} (hF:kE K a0=some r):Ct Tryz.prog 39 [.va (aF.enc a0)] (.vc (pS aC.cod r)):=by
 unfold kE at hF
 refine aG Tryz.func39 rfl (by kernel_rfl) Tryz.ntmps39 rfl (fun w0 M0=>?_)
 refine aK (aR (cC rfl rfl trivial (fun b1=>?_)))
 refine aQ (bB (.inr rfl)) ⟨dA aC.cod,trivial⟩ ?_
 refine bT (aU (aK (aR (tV aC.cod 91 rfl ?_))))
 refine go ?_ ?_
 refine aS (bV (fun H E=>∃(x18:List aC),∃(b19:Option Nat),∃(c20:Nat),∃(n21:Nat),l6 K x18=some r∧x18.length=n21∧H=[hO aC.cod b19 c20 91 n21 x18]∧E=[(3,.vc (pO b19 n21 c20))]) ?_ (fun Jj25=>?_))
 ·rintro _ _ ⟨x18,b19,c20,n21,hF,q22,rfl,rfl⟩
  unfold l6 at hF
  refine go ?_ ?_
  refine sT (sS (aAd 0 [2,3,39] rfl q22 ⟨rfl,rfl,rfl,trivial⟩ rfl ?_))
  obtain rfl:=pZ hF
  exact rY (.inl rfl) Tryz.results39 (.tmp rfl .nil) rfl rfl
 obtain⟨x18',hL,hRl24⟩:=aZ hF
 refine gB (fun k a w=>∃(x11:List aC),∃(x17:Int),∃(b12:Option Nat),∃(c13:Nat),∃(n14:Nat),dN K a0 k x11 x17=some x18'∧x11.length=n14∧hs _ [hO aC.cod b12 c13 91 n14 x11,⟨some b1,1,86,4,1,(aF.enc a0)⟩] [(1,.vc (pP (some b1) 0)),(3,.vc (pO b12 n14 c13)),(7,.vc (pS aA.cod a0.rows)),(8,.vc (pI .i64 (a0.rows.length:Int))),(9,.vc (pI .i64 x17))] a w) K (fun a w ⟨_,_,_,_,_,hF,_,_⟩=>by cases hF) (fun k a w ⟨x11,x17,b12,c13,n14,hF,q15,hh⟩=>gC ?_ hh) (fun a w hh=>⟨([]:List aC),0,none,0,0,hL,rfl,gJ [0,1] hh⟩)
 rw [dN.eq_2] at hF
 refine go ?_ ?_
 refine aJ hF rfl (fun h26 hF=>?_) (fun h26 hF=>?_)
 ·refine go ?_ ?_
  refine aS ?_
  obtain⟨v27,h28,hF⟩:=aZ hF
  refine go ?_ ?_
  refine aO rfl tyZ49q (fun b29=>?_)
  refine go ?_ ?_
  refine aQ (dY (is:=[0,1]) (xs:=[.tmp 15,.const (.int .i64 (0))]) (ps:=[.vc (pI .i64 x17),.vc (pI .i64 0)]) rfl tyB91q rfl rfl ⟨trivial,trivial,trivial⟩ rfl) ⟨rfl,lY _ _,trivial⟩ ?_
  refine aQ (oM (C:=aC.cod) (xs:=[.tmp 16]) (ps:=[.va ([pI .i64 x17]++[pI .i64 0])]) (zs:=[(⟨x17,0⟩:aC)]) rfl tyS87 rfl ⟨⟨trivial,rfl⟩,trivial⟩ rfl) zU1 ?_
  obtain⟨x30,h31,hF⟩:=aZ hF
  refine nH 1 rfl tyS87 rfl rfl q15 rfl rfl h31 (fun b32 c33 H34 e35=>?_)
  cases e35
  refine go ?_ ?_
  refine eW hF (fun h37 hF=>?_) (fun h37 hF=>?_)
  ·obtain⟨v38,h39,hF⟩:=bF hF aAb
   refine go ?_ ?_
   refine aJ hF rfl (fun h40 hF=>?_) (fun h40 hF=>?_)
   ·refine go ?_ ?_
    refine aQ (dY (is:=[0,1]) (xs:=[.tmp 30,.const (.int .i64 (1))]) (ps:=[.vc (pI .i64 x17),.vc (pI .i64 1)]) rfl tyB91q rfl rfl ⟨trivial,trivial,trivial⟩ rfl) ⟨rfl,lY _ _,trivial⟩ ?_
    refine lH ?_
    refine aQ (dY (is:=[0,1]) (xs:=[.tmp 32,.const (.int .i64 (2))]) (ps:=[.vc (pI .i64 x17),.vc (pI .i64 2)]) rfl tyB91q rfl rfl ⟨trivial,trivial,trivial⟩ rfl) ⟨rfl,lY _ _,trivial⟩ ?_
    refine lH ?_
    refine aQ (dY (is:=[0,1]) (xs:=[.tmp 34,.const (.int .i64 (3))]) (ps:=[.vc (pI .i64 x17),.vc (pI .i64 3)]) rfl tyB91q rfl rfl ⟨trivial,trivial,trivial⟩ rfl) ⟨rfl,lY _ _,trivial⟩ ?_
    refine aQ (oM (C:=aC.cod) (xs:=[.tmp 31,.tmp 33,.tmp 35]) (ps:=[.va ([pI .i64 x17]++[pI .i64 1]),.va ([pI .i64 x17]++[pI .i64 2]),.va ([pI .i64 x17]++[pI .i64 3])]) (zs:=[(⟨x17,1⟩:aC),(⟨x17,2⟩:aC),(⟨x17,3⟩:aC)]) rfl tyS87 rfl ⟨⟨trivial,rfl⟩,⟨trivial,rfl⟩,⟨trivial,rfl⟩,trivial⟩ rfl) ⟨rfl,rfl,rfl,trivial⟩ ?_
    obtain⟨x41,h42,hF⟩:=aZ hF
    refine nH 1 rfl tyS87 rfl rfl (eJ h31 q15) rfl rfl h42 (fun b43 c44 H45 e46=>?_)
    cases e46
    obtain⟨v48,h49,hF⟩:=aZ hF
    refine go ?_ ?_
    exact aM (fun a w hh=>⟨x41,v48,b43,c44,((n14+[(⟨x17,0⟩:aC)].length)+[(⟨x17,1⟩:aC),(⟨x17,2⟩:aC),(⟨x17,3⟩:aC)].length),hF,(eJ h42 (eJ h31 q15)),gJ [1,2] hh⟩)
   obtain⟨v50,h51,hF⟩:=aZ hF
   refine go ?_ ?_
   exact aM (fun a w hh=>⟨x30,v50,b32,c33,(n14+[(⟨x17,0⟩:aC)].length),hF,(eJ h31 q15),gJ [1,2] hh⟩)
  refine go ?_ ?_
  refine yC rfl ?_
  obtain⟨v52,h53,hF⟩:=aZ hF
  refine go ?_ ?_
  exact aM (fun a w hh=>⟨x30,v52,b32,c33,(n14+[(⟨x17,0⟩:aC)].length),hF,(eJ h31 q15),gJ [1,2] hh⟩)
 refine cR ?_
 obtain rfl:=pZ hF
 exact qZ Jj25 ⟨x11,b12,c13,n14,hRl24,q15,rfl,rfl⟩ [0]
def kZ (K:Nat) (a0:aF) (a1:aA) (a2:Rat):Option Rat:=
 (nO K a0 a1).bind fun v7=>(aT (-v7)).bind fun v9=>(qof v9 1).bind fun v11=>(zR a1.mu a2).bind fun v13=>(zR v11 v13).bind fun v15=>some v15
theorem xM {K:Nat} {a0:aF} {a1:aA} {a2:Rat} {r:Rat} (hF:kZ K a0 a1 a2=some r):Ct Tryz.prog 41 [.va (aF.enc a0),.va (aA.enc a1),.va (eQ a2)] (.va (eQ r)):=by
 unfold kZ at hF
 refine aG Tryz.func41 rfl (by kernel_rfl) Tryz.ntmps41 rfl (fun w0 M0=>?_)
 refine aK (aR (cC rfl rfl trivial (fun b1=>?_)))
 refine cC rfl rfl trivial (fun b2=>?_)
 refine cC rfl rfl trivial (fun b3=>?_)
 refine aO rfl tyZ32q (fun b4=>?_)
 obtain⟨v7,h8,hF⟩:=bF hF aAb
 obtain⟨v9,h10,hF⟩:=aZ hF
 obtain⟨v11,h12,hF⟩:=bF hF xE
 obtain⟨v13,h14,hF⟩:=bF hF mI
 obtain⟨v15,h16,hF⟩:=bF hF mI
 refine go ?_ ?_
 refine dr [0,0,3,7,15,0,32,0,255,511,1023] 10 1 ?_ (fun bs6 G5=>?_)
 exact cF
def nR (a0:List Rat):Option (List Rat):=
 (qR ([]:List Rat) a0).bind fun x9=>some x9
theorem zO {a0:List Rat} {r:List Rat} (hF:nR a0=some r):CtO Tryz.prog 103 [] [.vc (pS cQ a0)] (fun Ho q=>∃b18 c19 n17,r.length=n17∧Ho=[hO cQ b18 c19 32 n17 r]∧q=.vc (pO b18 n17 c19)):=by
 unfold nR at hF
 refine aG Tryz.func103 rfl (by kernel_rfl) Tryz.ntmps103 rfl (fun w0 M0=>?_)
 refine aK (aR (tV cQ 32 rfl ?_))
 refine bT (aU (aK (aK (aR (lH ?_)))))
 refine aMl rfl Tryz.underlying24 rfl (fun h3=>?_) ?_
 ·skip
  subst h3
  have hF:some ([]:List Rat)=some r:=by simpa [qR] using hF
  refine bT (aU (oU rfl ?_))
  refine aK (aR (tV cQ 32 rfl ?_))
  refine bT (aU (sT (sS ?_)))
  obtain rfl:=pZ hF
  exact aBR (.inl rfl) Tryz.results103 (.tmp rfl .nil) rfl [0] rfl (by decide) ⟨none,0,0,rfl,rfl,rfl⟩
 refine bT (aU (yC rfl ?_))
 refine go ?_ ?_
 refine aKY (aI9 (C:=cQ) (xs:=[]) (ps:=[]) (zs:=([]:List Rat)) rfl tyS24 rfl trivial rfl) trivial (fun b6 _=>?_)
 refine lH ?_
 obtain⟨x9,h10,hF⟩:=aZ hF
 refine nH 0 rfl tyS24 rfl rfl rfl rfl rfl h10 (fun b11 c12 H13 e14=>?_)
 cases e14
 refine go ?_ ?_
 refine sT (sS ?_)
 obtain rfl:=pZ hF
 exact aBR (.inl rfl) Tryz.results103 (.tmp rfl .nil) rfl [0] rfl (by decide) ⟨b11,c12,(0+a0.length),(eJ h10 rfl),rfl,rfl⟩
def jO (K:Nat) (x46:List Rat):Option (List Rat):=
 some x46
def dQ (K:Nat) (a0:aF):Nat→(List Rat)→Int→Option (List Rat)
 |0,_,_=>none
 |k+1,x39,x45=>bif(decide (x45<(a0.dofs.length:Int))) then((bL a0.dofs x45).bind fun v55=>(bL x39 x45).bind fun v60=>(zR v60 v55.inv).bind fun v62=>(bL x39 x45).bind fun v64=>(oO x39 x45 v62).bind fun x66=>(aT (x45+1)).bind fun v69=>dQ K a0 k x66 v69) else(some x39)
def jL (K:Nat) (a0:aF) (x24:List Rat):Option (List Rat):=
 (dQ K a0 K x24 0).bind fun x46=>jO K x46
def jE (K:Nat) (x23:Int) (recl30:(List Rat)→Int→Option (List Rat)) (x111:List Rat):Option (List Rat):=
 (aT (x23+1)).bind fun v119=>recl30 x111 v119
def cX (K:Nat) (a2:List aI) (x23:Int) (v72:aA):Nat→(List Rat)→Int→Option (List Rat)
 |0,_,_=>none
 |k+1,x104,x110=>bif(decide (x110<(v72.t.length:Int))) then((bL v72.t x110).bind fun v122=>(bL x104 v122.dof).bind fun v127=>(bL a2 x23).bind fun v129=>(zR v122.k v129.f).bind fun v131=>(aAJ v127 v131).bind fun v133=>(bL x104 v122.dof).bind fun v135=>(oO x104 v122.dof v133).bind fun x137=>(aT (x110+1)).bind fun v140=>cX K a2 x23 v72 k x137 v140) else(some x104)
def jN (K:Nat) (a2:List aI) (x23:Int) (v72:aA) (recl30:(List Rat)→Int→Option (List Rat)) (x89:List Rat):Option (List Rat):=
 (cX K a2 x23 v72 K x89 0).bind fun x111=>jE K x23 recl30 x111
def dC (K:Nat) (a2:List aI) (x23:Int) (v72:aA):Nat→(List Rat)→Int→Option (List Rat)
 |0,_,_=>none
 |k+1,x82,x88=>bif(decide (x88<(v72.j.length:Int))) then((bL v72.j x88).bind fun v143=>(bL x82 v143.dof).bind fun v148=>(bL a2 x23).bind fun v150=>(zR v143.k v150.n).bind fun v152=>(aAJ v148 v152).bind fun v154=>(bL x82 v143.dof).bind fun v156=>(oO x82 v143.dof v154).bind fun x158=>(aT (x88+1)).bind fun v161=>dC K a2 x23 v72 k x158 v161) else(some x82)
def cK (K:Nat) (a0:aF) (a2:List aI):Nat→(List Rat)→Int→Option (List Rat)
 |0,_,_=>none
 |k+1,x17,x23=>bif(decide (x23<(a0.rows.length:Int))) then((bL a0.rows x23).bind fun v72=>(dC K a2 x23 v72 K x17 0).bind fun x89=>jN K a2 x23 v72 (cK K a0 a2 k) x89) else(some x17)
def bQ (K:Nat) (a0:aF) (a1:List Rat) (a2:List aI):Option (List Rat):=
 (nR a1).bind fun v2=>(cK K a0 a2 K v2 0).bind fun x24=>jL K a0 x24
theorem dP {K:Nat} {a0:aF} {a1:List Rat} {a2:List aI} {r:List Rat} (hF:bQ K a0 a1 a2=some r):Ct Tryz.prog 42 [.va (aF.enc a0),.vc (pS cQ a1),.vc (pS aI.cod a2)] (.vc (pS cQ r)):=by
 unfold bQ at hF
 refine aG Tryz.func42 rfl (by kernel_rfl) Tryz.ntmps42 rfl (fun w0 M0=>?_)
 refine aK (aR (cC rfl rfl trivial (fun b1=>?_)))
 refine aQ (bB (.inr rfl)) ⟨dA cQ,trivial⟩ ?_
 obtain⟨v2,h3,hF⟩:=aZ hF
 refine go ?_ ?_
 refine aFO [] [0] rfl (zO h3) zU1 rfl rfl (by decide) ?_
 rintro _ _ ⟨b5,c6,n7,q8,rfl,rfl⟩
 refine go ?_ ?_
 refine aS (bV (fun H E=>∃(x24:List Rat),jL K a0 x24=some r∧x24.length=n7∧H=[hO cQ b5 c6 32 n7 x24,⟨some b1,1,86,4,1,(aF.enc a0)⟩]∧E=[(3,.vc (pP (some b1) 0)),(7,.vc (pO b5 n7 c6))]) ?_ (fun Jj31=>?_))
 ·rintro _ _ ⟨x24,hF,q28,rfl,rfl⟩
  unfold jL at hF
  refine go ?_ ?_
  refine aS (bV (fun H E=>∃(x46:List Rat),jO K x46=some r∧x46.length=n7∧H=[hO cQ b5 c6 32 n7 x46]∧E=[(7,.vc (pO b5 n7 c6))]) ?_ (fun Jj53=>?_))
  ·rintro _ _ ⟨x46,hF,q50,rfl,rfl⟩
   unfold jO at hF
   refine go ?_ ?_
   refine sT (sS (aAd 0 [6,7,98] rfl q50 ⟨rfl,rfl,rfl,trivial⟩ rfl ?_))
   obtain rfl:=pZ hF
   exact rY (.inl rfl) Tryz.results42 (.tmp rfl .nil) rfl rfl
  obtain⟨x46',hL,hRl52⟩:=aZ hF
  refine gB (fun k a w=>∃(x39:List Rat),∃(x45:Int),dQ K a0 k x39 x45=some x46'∧x39.length=n7∧hs _ [hO cQ b5 c6 32 n7 x39] [(7,.vc (pO b5 n7 c6)),(80,.vc (pS aD.cod a0.dofs)),(81,.vc (pI .i64 (a0.dofs.length:Int))),(82,.vc (pI .i64 x45))] a w) K (fun a w ⟨_,_,hF,_,_⟩=>by cases hF) (fun k a w ⟨x39,x45,hF,q43,hh⟩=>gC ?_ hh) (fun a w hh=>⟨x24,0,hL,q28,gJ [0] hh⟩)
  rw [dQ.eq_2] at hF
  refine go ?_ ?_
  refine aJ hF rfl (fun h54 hF=>?_) (fun h54 hF=>?_)
  ·refine go ?_ ?_
   refine aS ?_
   obtain⟨v55,h56,hF⟩:=aZ hF
   refine go ?_ ?_
   refine aO rfl tyZ36q (fun b57=>?_)
   obtain⟨v60,h61,hF⟩:=aZ hF
   obtain⟨v62,h63,hF⟩:=bF hF mI
   have hF:=sE h61 hF
   refine go ?_ ?_
   refine dr [0,0,0,0,12,28,0,64,252,511,1023] 10 1 ?_ (fun bs59 G58=>?_)
   obtain⟨x66,h67,v69,h70,hF⟩:=wP hF
   refine go ?_ ?_
   exact aM (fun a w hh=>⟨x66,v69,hF,(bK h67 q43),gJ [1] hh⟩)
  refine cR ?_
  obtain rfl:=pZ hF
  exact qZ Jj53 ⟨x39,hRl52,q43,rfl,rfl⟩ [0]
 obtain⟨x24',hL,hRl30⟩:=aZ hF
 refine gB (fun k a w=>∃(x17:List Rat),∃(x23:Int),cK K a0 a2 k x17 x23=some x24'∧x17.length=n7∧hs _ [hO cQ b5 c6 32 n7 x17,⟨some b1,1,86,4,1,(aF.enc a0)⟩] [(2,.vc (pS aI.cod a2)),(3,.vc (pP (some b1) 0)),(7,.vc (pO b5 n7 c6)),(19,.vc (pS aA.cod a0.rows)),(20,.vc (pI .i64 (a0.rows.length:Int))),(21,.vc (pI .i64 x23))] a w) K (fun a w ⟨_,_,hF,_,_⟩=>by cases hF) (fun k a w ⟨x17,x23,hF,q21,hh⟩=>gC ?_ hh) (fun a w hh=>⟨v2,0,hL,q8,gJ [0,1] hh⟩)
 rw [cK.eq_2] at hF
 refine go ?_ ?_
 refine aJ hF rfl (fun h71 hF=>?_) (fun h71 hF=>?_)
 ·refine go ?_ ?_
  refine aS ?_
  obtain⟨v72,h73,hF⟩:=aZ hF
  refine go ?_ ?_
  refine aO rfl tyZ49q (fun b74=>?_)
  refine go ?_ ?_
  refine aS (bV (fun H E=>∃(x89:List Rat),jN K a2 x23 v72 (cK K a0 a2 k) x89=some x24'∧x89.length=n7∧H=[⟨some b74,1,49,18,1,(aA.enc v72)⟩,hO cQ b5 c6 32 n7 x89,⟨some b1,1,86,4,1,(aF.enc a0)⟩]∧E=[(2,.vc (pS aI.cod a2)),(3,.vc (pP (some b1) 0)),(7,.vc (pO b5 n7 c6)),(8,.vc (pI .i64 x23)),(9,.vc (pP (some b74) 0)),(19,.vc (pS aA.cod a0.rows)),(20,.vc (pI .i64 (a0.rows.length:Int))),(21,.vc (pI .i64 x23))]) ?_ (fun Jj96=>?_))
  ·rintro _ _ ⟨x89,hF,q93,rfl,rfl⟩
   unfold jN at hF
   refine go ?_ ?_
   refine aS (bV (fun H E=>∃(x111:List Rat),jE K x23 (cK K a0 a2 k) x111=some x24'∧x111.length=n7∧H=[hO cQ b5 c6 32 n7 x111,⟨some b1,1,86,4,1,(aF.enc a0)⟩]∧E=[(2,.vc (pS aI.cod a2)),(3,.vc (pP (some b1) 0)),(7,.vc (pO b5 n7 c6)),(19,.vc (pS aA.cod a0.rows)),(20,.vc (pI .i64 (a0.rows.length:Int))),(21,.vc (pI .i64 x23))]) ?_ (fun Jj118=>?_))
   ·rintro _ _ ⟨x111,hF,q115,rfl,rfl⟩
    unfold jE at hF
    obtain⟨v119,h120,hF⟩:=aZ hF
    refine go ?_ ?_
    exact aM (fun a w hh=>⟨x111,v119,hF,q115,gJ [0,1] hh⟩)
   obtain⟨x111',hL,hRl117⟩:=aZ hF
   refine gB (fun k a w=>∃(x104:List Rat),∃(x110:Int),cX K a2 x23 v72 k x104 x110=some x111'∧x104.length=n7∧hs _ [hO cQ b5 c6 32 n7 x104,⟨some b1,1,86,4,1,(aF.enc a0)⟩] [(2,.vc (pS aI.cod a2)),(3,.vc (pP (some b1) 0)),(7,.vc (pO b5 n7 c6)),(8,.vc (pI .i64 x23)),(19,.vc (pS aA.cod a0.rows)),(20,.vc (pI .i64 (a0.rows.length:Int))),(21,.vc (pI .i64 x23)),(53,.vc (pS aE.cod v72.t)),(54,.vc (pI .i64 (v72.t.length:Int))),(55,.vc (pI .i64 x110))] a w) K (fun a w ⟨_,_,hF,_,_⟩=>by cases hF) (fun k a w ⟨x104,x110,hF,q108,hh⟩=>gC ?_ hh) (fun a w hh=>⟨x89,0,hL,q93,gJ [1,2] hh⟩)
   rw [cX.eq_2] at hF
   refine go ?_ ?_
   refine aJ hF rfl (fun h121 hF=>?_) (fun h121 hF=>?_)
   ·refine go ?_ ?_
    refine aS ?_
    obtain⟨v122,h123,hF⟩:=aZ hF
    refine go ?_ ?_
    refine aO rfl tyZ104q (fun b124=>?_)
    obtain⟨v127,h128,v129,h130,hF⟩:=wP hF
    obtain⟨v131,h132,hF⟩:=bF hF mI
    obtain⟨v133,h134,hF⟩:=bF hF uR
    have hF:=sE h128 hF
    refine go ?_ ?_
    refine dr [0,0,2,0,0,16,56,120,0,256,0,0,3072,7168,15360,32512,65528,131071,262143] 18 1 ?_ (fun bs126 G125=>?_)
    obtain⟨x137,h138,v140,h141,hF⟩:=wP hF
    refine go ?_ ?_
    exact aM (fun a w hh=>⟨x137,v140,hF,(bK h138 q108),gJ [1,2] hh⟩)
   refine cR ?_
   obtain rfl:=pZ hF
   exact qZ Jj118 ⟨x104,hRl117,q108,rfl,rfl⟩ [0,1]
  obtain⟨x89',hL,hRl95⟩:=aZ hF
  refine gB (fun k a w=>∃(x82:List Rat),∃(x88:Int),dC K a2 x23 v72 k x82 x88=some x89'∧x82.length=n7∧hs _ [⟨some b74,1,49,18,1,(aA.enc v72)⟩,hO cQ b5 c6 32 n7 x82,⟨some b1,1,86,4,1,(aF.enc a0)⟩] [(2,.vc (pS aI.cod a2)),(3,.vc (pP (some b1) 0)),(7,.vc (pO b5 n7 c6)),(8,.vc (pI .i64 x23)),(9,.vc (pP (some b74) 0)),(19,.vc (pS aA.cod a0.rows)),(20,.vc (pI .i64 (a0.rows.length:Int))),(21,.vc (pI .i64 x23)),(27,.vc (pS aE.cod v72.j)),(28,.vc (pI .i64 (v72.j.length:Int))),(29,.vc (pI .i64 x88))] a w) K (fun a w ⟨_,_,hF,_,_⟩=>by cases hF) (fun k a w ⟨x82,x88,hF,q86,hh⟩=>gC ?_ hh) (fun a w hh=>⟨x17,0,hL,q21,gJ [0,1,2] hh⟩)
  rw [dC.eq_2] at hF
  refine go ?_ ?_
  refine aJ hF rfl (fun h142 hF=>?_) (fun h142 hF=>?_)
  ·refine go ?_ ?_
   refine aS ?_
   obtain⟨v143,h144,hF⟩:=aZ hF
   refine go ?_ ?_
   refine aO rfl tyZ104q (fun b145=>?_)
   obtain⟨v148,h149,v150,h151,hF⟩:=wP hF
   obtain⟨v152,h153,hF⟩:=bF hF mI
   obtain⟨v154,h155,hF⟩:=bF hF uR
   have hF:=sE h149 hF
   refine go ?_ ?_
   refine dr [0,0,2,0,0,16,56,120,0,256,0,0,3072,7168,15360,32512,65528,131071,262143] 18 1 ?_ (fun bs147 G146=>?_)
   obtain⟨x158,h159,v161,h162,hF⟩:=wP hF
   refine go ?_ ?_
   exact aM (fun a w hh=>⟨x158,v161,hF,(bK h159 q86),gJ [1,2,3] hh⟩)
  refine cR ?_
  obtain rfl:=pZ hF
  exact qZ Jj96 ⟨x82,hRl95,q86,rfl,rfl⟩ [0,1,2]
 refine cR ?_
 obtain rfl:=pZ hF
 exact qZ Jj31 ⟨x17,hRl30,q21,rfl,rfl⟩ [0,1]
def gO (c0:List Rat) (a0:Int) (a1:Rat):Option (List Rat):=
 (bL c0 a0).bind fun v8=>(oO c0 a0 a1).bind fun x10=>some x10
theorem qU {c0:List Rat} {a0:Int} {a1:Rat} {r:List Rat} (hF:gO c0 a0 a1=some r) {p0:Nat} {b3:Option Nat} {c4 n2:Nat} (q5:c0.length=n2):CtO Tryz.prog 100 [⟨some p0,1,24,1,1,[pO b3 n2 c4]⟩,hO cQ b3 c4 32 n2 c0] [.vc (pI .i64 a0),.va (eQ a1),.vc (pP (some p0) 0)] (fun Ho q=>∃b15 c16 n14,r.length=n14∧Ho=[⟨some p0,1,24,1,1,[pO b15 n14 c16]⟩,hO cQ b15 c16 32 n14 r]∧q=.any):=by
 unfold gO at hF
 refine aG Tryz.func100 rfl (by kernel_rfl) Tryz.ntmps100 rfl (fun w0 M0=>?_)
 refine aK (aR (cC rfl rfl trivial (fun b7=>?_)))
 obtain⟨v8,h9,x10,h11,hF⟩:=wP hF
 obtain rfl:=pZ hF
 refine go ?_ ?_
 exact aBR (.inr rfl) Tryz.results100 .nil rfl [1,2] rfl (by decide) ⟨b3,c4,n2,(bK h11 q5),rfl,rfl⟩
def pH (a0:List aI):Option (List aI):=
 (qR ([]:List aI) a0).bind fun x9=>some x9
theorem aCh {a0:List aI} {r:List aI} (hF:pH a0=some r):CtO Tryz.prog 101 [] [.vc (pS aI.cod a0)] (fun Ho q=>∃b18 c19 n17,r.length=n17∧Ho=[hO aI.cod b18 c19 70 n17 r]∧q=.vc (pO b18 n17 c19)):=by
 unfold pH at hF
 refine aG Tryz.func101 rfl (by kernel_rfl) Tryz.ntmps101 rfl (fun w0 M0=>?_)
 refine aK (aR (tV aI.cod 70 rfl ?_))
 refine bT (aU (aK (aK (aR (lH ?_)))))
 refine aMl rfl Tryz.underlying50 rfl (fun h3=>?_) ?_
 ·skip
  subst h3
  have hF:some ([]:List aI)=some r:=by simpa [qR] using hF
  refine bT (aU (oU rfl ?_))
  refine aK (aR (tV aI.cod 70 rfl ?_))
  refine bT (aU (sT (sS ?_)))
  obtain rfl:=pZ hF
  exact aBR (.inl rfl) Tryz.results101 (.tmp rfl .nil) rfl [0] rfl (by decide) ⟨none,0,0,rfl,rfl,rfl⟩
 refine bT (aU (yC rfl ?_))
 refine go ?_ ?_
 refine aKY (aI9 (C:=aI.cod) (xs:=[]) (ps:=[]) (zs:=([]:List aI)) rfl tyS50 rfl trivial rfl) trivial (fun b6 _=>?_)
 refine lH ?_
 obtain⟨x9,h10,hF⟩:=aZ hF
 refine nH 0 rfl tyS50 rfl rfl rfl rfl rfl h10 (fun b11 c12 H13 e14=>?_)
 cases e14
 refine go ?_ ?_
 refine sT (sS ?_)
 obtain rfl:=pZ hF
 exact aBR (.inl rfl) Tryz.results101 (.tmp rfl .nil) rfl [0] rfl (by decide) ⟨b11,c12,(0+a0.length),(eJ h10 rfl),rfl,rfl⟩
def gR (c0:(List Nat×List (List Rat))) (c1:Int) (a0:Int) (a1:Rat):Option (List Nat×List (List Rat)):=
 (bL c0.1 a0).bind fun v17=>(bL c0.1 a0).bind fun v19=>(bL (c0.2.getD v19 []) c1).bind fun v21=>(aAJ v21 a1).bind fun v23=>(bL (c0.2.getD v17 []) c1).bind fun v25=>(oO (c0.2.getD v17 []) c1 v23).bind fun x27=>some (c0.1,(c0.2.set v17 x27))
theorem qV {c0:(List Nat×List (List Rat))} {c1:Int} {a0:Int} {a1:Rat} {r:(List Nat×List (List Rat))} (hF:gR c0 c1 a0 a1=some r) {p0:Nat} {b5:Option Nat} {c6 n4:Nat} {g3:List u7} {N9:Nat} (q7:c0.1.length=n4) (q10:c0.2.length=N9) (q11:iE g3 c0.2) (q12:(∀k∈c0.1,k<N9)):CtO Tryz.prog 102 ([⟨some p0,1,74,1,1,[pO b5 n4 c6]⟩,hO (cH g3) b5 c6 24 n4 c0.1]++f8 cQ 32 g3 c0.2) [.vc (pI .i64 a0),.va (eQ a1),.vc (pP (some p0) 0),.vc (pM (cI.e c1))] (fun Ho q=>∃b34 c35 n33 g32 N38,r.1.length=n33∧r.2.length=N38∧iE g32 r.2∧(∀k∈r.1,k<N38)∧Ho=([⟨some p0,1,74,1,1,[pO b34 n33 c35]⟩,hO (cH g32) b34 c35 24 n33 r.1]++f8 cQ 32 g32 r.2)∧q=.any):=by
 unfold gR at hF
 refine aG Tryz.func102 rfl (by kernel_rfl) Tryz.ntmps102 rfl (fun w0 M0=>?_)
 refine aK (aR (cC rfl rfl trivial (fun b14=>?_)))
 refine bT (aU ?_)
 obtain⟨v17,h18,hF⟩:=aZ hF
 have hF:=sE h18 hF
 obtain⟨v21,h22,hF⟩:=aZ hF
 obtain⟨v23,h24,hF⟩:=bF hF uR
 have hF:=sE h22 hF
 refine gT [0,0,3,7,0,0,0,96,224,0,992,2016,0,8160,16383,32767] 15 1 [.v (.vc (pO b5 n4 c6)),.v (.vc (pI .i64 a0)),.v (.vc (pE b5 a0 (cH g3).n 0)),.v (.vc (pO (gX g3 v17).1 (gX g3 v17).2.1 (gX g3 v17).2.2)),.v (.vc (pI .i64 c1)),.v (.vc (pO b5 n4 c6)),.v (.vc (pI .i64 a0)),.v (.vc (pE b5 a0 (cH g3).n 0)),.v (.vc (pO (gX g3 v17).1 (gX g3 v17).2.1 (gX g3 v17).2.2)),.v (.vc (pI .i64 c1)),.v (.vc (pE (gX g3 v17).1 c1 cQ.n 0)),.v (.va (eQ v21)),.v (.va (eQ a1)),.v (.va (eQ v23)),.v (.vc (pE (gX g3 v17).1 c1 cQ.n 0))] bC ⟨d0 (fX 1 1 rfl rfl rfl rfl (.one tyO74)) zU1,d0 (bB (.inl rfl)) zU1,d0 (gN (C:=(cH g3)) 2 rfl tyS74 rfl q7 (aN h18).1 (aN h18).2.1) zU2,d0 (lE (C:=(cH g3)) (k:=1) 2 rfl rfl h18 rfl (.one tyO24) rfl) zU1,d0 (aAP 1 rfl rfl (.one tyO3)) zU1,d0 (fX 1 1 rfl rfl rfl rfl (.one tyO74)) zU1,d0 (bB (.inl rfl)) zU1,d0 (gN (C:=(cH g3)) 2 rfl tyS74 rfl q7 (aN h18).1 (aN h18).2.1) zU2,d0 (lE (C:=(cH g3)) (k:=1) 2 rfl rfl h18 rfl (.one tyO24) rfl) zU1,d0 (aAP 1 rfl rfl (.one tyO3)) zU1,d0 (gN (3+v17) rfl tyS24 (iC 3 rfl q11 q10 (q12 _ (aV h18))) (gZ q11 q10 (q12 _ (aV h18))) (aN h22).1 (aN h22).2.1) zU2,d0 (lE (k:=4) (3+v17) rfl (iC 3 rfl q11 q10 (q12 _ (aV h18))) h22 rfl (.agg tyA32) rfl) zU1,d0 (fX 0 4 rfl rfl rfl rfl (.agg tyA32)) zU1,d0 (cS rfl h24 rfl) zU2,d0 (gN (3+v17) rfl tyS24 (iC 3 rfl q11 q10 (q12 _ (aV h18))) (gZ q11 q10 (q12 _ (aV h18))) (aN h22).1 (aN h22).2.1) zU2,trivial⟩ (fun bs16 G15=>?_)
 obtain⟨x27,h28,hF⟩:=aZ hF
 refine mR (xV (H':=([⟨some b14,1,32,4,1,(eQ a1)⟩,⟨some p0,1,74,1,1,[pO b5 n4 c6]⟩,hO (cH g3) b5 c6 24 n4 c0.1]++f8 cQ 32 g3 (c0.2.set v17 x27))) (3+v17) rfl (aAH 3 rfl q11 q10 (q12 _ (aV h18))) h22 h28 tyA32.s (hH:=stN 3 rfl q11 q10 (q12 _ (aV h18)))) zU2 ?_
 refine bT ?_
 obtain rfl:=pZ hF
 exact aAj (.inr rfl) Tryz.results102 .nil rfl 3 [1,2] rfl rfl (by decide) ⟨b5,c6,n4,g3,N9,q7,(uG q10),(yW q11 q10 (q12 _ (aV h18)) (bK h28 rfl)),q12,rfl,rfl⟩
def kG (K:Nat) (x21:List Rat):Option (List Rat):=
 some x21
def cE (K:Nat) (a0:List Rat) (a1:List aC) (a2:aF):Nat→(List Rat)→Int→Option (List Rat)
 |0,_,_=>none
 |k+1,x14,x20=>bif(decide (x20<(a1.length:Int))) then((bL a1 x20).bind fun v30=>(bL a2.rows v30.row).bind fun v33=>bif(v30.kind==0) then((jQ K v33.j a0).bind fun v37=>(gO x14 x20 v37).bind fun v39=>(aT (x20+1)).bind fun v47=>cE K a0 a1 a2 k v39 v47) else(bif(v30.kind==1) then((jQ K v33.t a0).bind fun v50=>(gO x14 x20 v50).bind fun v52=>(aT (x20+1)).bind fun v60=>cE K a0 a1 a2 k v52 v60) else(bif(v30.kind==2) then((jQ K v33.t a0).bind fun v63=>(aEz v63).bind fun v65=>(gO x14 x20 v65).bind fun v67=>(aT (x20+1)).bind fun v75=>cE K a0 a1 a2 k v67 v75) else((aT (x20+1)).bind fun v77=>cE K a0 a1 a2 k x14 v77)))) else(some x14)
def l8 (K:Nat) (a0:List Rat) (a1:List aC) (a2:aF) (a3:List Rat):Option (List Rat):=
 (cE K a0 a1 a2 K a3 0).bind fun x21=>kG K x21
theorem zV {K:Nat} {a0:List Rat} {a1:List aC} {a2:aF} {a3:List Rat} {r:List Rat} (hF:l8 K a0 a1 a2 a3=some r) {p0:Nat} {p1:Nat} {p2:Nat} {b2:Option Nat} {c3 n4:Nat} (q5:a3.length=n4):CtO Tryz.prog 99 [⟨some p0,1,24,1,1,[pO b2 n4 c3]⟩,⟨some p1,1,87,1,1,[pS aC.cod a1]⟩,⟨some p2,1,86,4,1,(aF.enc a2)⟩,hO cQ b2 c3 32 n4 a3] [.vc (pS cQ a0),.vc (pF 100 [pP (some p0) 0]),.vc (pP (some p1) 0),.vc (pP (some p2) 0)] (fun Ho q=>∃b1079 c1080 n1081,r.length=n1081∧Ho=[⟨some p0,1,24,1,1,[pO b1079 n1081 c1080]⟩,⟨some p1,1,87,1,1,[pS aC.cod a1]⟩,⟨some p2,1,86,4,1,(aF.enc a2)⟩,hO cQ b1079 c1080 32 n1081 r]∧q=.any):=by
 unfold l8 at hF
 refine aG Tryz.func99 rfl (by kernel_rfl) Tryz.ntmps99 rfl (fun w0 M0=>?_)
 refine go ?_ ?_
 refine aS (bV (fun H E=>∃(x21:List Rat),∃(b22:Option Nat),∃(c23:Nat),∃(n24:Nat),kG K x21=some r∧x21.length=n24∧H=[⟨some p0,1,24,1,1,[pO b22 n24 c23]⟩,⟨some p1,1,87,1,1,[pS aC.cod a1]⟩,⟨some p2,1,86,4,1,(aF.enc a2)⟩,hO cQ b22 c23 32 n24 x21]∧E=[]) ?_ (fun Jj28=>?_))
 ·rintro _ _ ⟨x21,b22,c23,n24,hF,q25,rfl,rfl⟩
  unfold kG at hF
  obtain rfl:=pZ hF
  exact aBR (.inr rfl) Tryz.results99 .nil rfl [0,1,2,3] rfl (by decide) ⟨b22,c23,n24,q25,rfl,rfl⟩
 obtain⟨x21',hL,hRl27⟩:=aZ hF
 refine gB (fun k a w=>∃(x14:List Rat),∃(x20:Int),∃(b15:Option Nat),∃(c16:Nat),∃(n17:Nat),cE K a0 a1 a2 k x14 x20=some x21'∧x14.length=n17∧hs _ [⟨some p0,1,24,1,1,[pO b15 n17 c16]⟩,⟨some p1,1,87,1,1,[pS aC.cod a1]⟩,⟨some p2,1,86,4,1,(aF.enc a2)⟩,hO cQ b15 c16 32 n17 x14] [(0,.vc (pS cQ a0)),(1,.vc (pF 100 [pP (some p0) 0])),(3,.vc (pP (some p2) 0)),(9,.vc (pS aC.cod a1)),(10,.vc (pI .i64 (a1.length:Int))),(11,.vc (pI .i64 x20))] a w) K (fun a w ⟨_,_,_,_,_,hF,_,_⟩=>by cases hF) (fun k a w ⟨x14,x20,b15,c16,n17,hF,q18,hh⟩=>gC ?_ hh) (fun a w hh=>⟨a3,0,b2,c3,n4,hL,q5,gJ [0,1,2,3] hh⟩)
 rw [cE.eq_2] at hF
 refine go ?_ ?_
 refine aJ hF rfl (fun h29 hF=>?_) (fun h29 hF=>?_)
 ·refine go ?_ ?_
  refine aS ?_
  obtain⟨v30,h31,hF⟩:=aZ hF
  refine go ?_ ?_
  refine aO rfl tyZ91q (fun b32=>?_)
  obtain⟨v33,h34,hF⟩:=aZ hF
  refine go ?_ ?_
  refine aO rfl tyZ49q (fun b35=>?_)
  refine go ?_ ?_
  refine aS (go ?_ ?_)
  refine aJ hF rfl (fun h36 hF=>?_) (fun h36 hF=>?_)
  ·obtain⟨v37,h38,hF⟩:=bF hF n9
   obtain⟨v39,h40,hF⟩:=aZ hF
   refine go ?_ ?_
   refine aAs (f:=100) (cs:=[pP (some p0) 0]) (pre:=[.vc (pI .i64 x20),.va (eQ v37)]) (xs:=[.tmp 27,.tmp 31]) [2,5] [0,1,3,4] rfl (qU h40 q18) ⟨rfl,rfl,rfl,trivial⟩ rfl rfl (by decide) ?_
   rintro _ _ ⟨b43,c44,n42,q45,rfl,rfl⟩
   obtain⟨v47,h48,hF⟩:=aZ hF
   refine go ?_ ?_
   exact aM (fun a w hh=>⟨v39,v47,b43,c44,n42,hF,q45,gJ [0,4,5,1] hh⟩)
  refine go ?_ ?_
  refine aJ hF rfl (fun h49 hF=>?_) (fun h49 hF=>?_)
  ·obtain⟨v50,h51,hF⟩:=bF hF n9
   obtain⟨v52,h53,hF⟩:=aZ hF
   refine go ?_ ?_
   refine aAs (f:=100) (cs:=[pP (some p0) 0]) (pre:=[.vc (pI .i64 x20),.va (eQ v50)]) (xs:=[.tmp 36,.tmp 40]) [2,5] [0,1,3,4] rfl (qU h53 q18) ⟨rfl,rfl,rfl,trivial⟩ rfl rfl (by decide) ?_
   rintro _ _ ⟨b56,c57,n55,q58,rfl,rfl⟩
   obtain⟨v60,h61,hF⟩:=aZ hF
   refine go ?_ ?_
   exact aM (fun a w hh=>⟨v52,v60,b56,c57,n55,hF,q58,gJ [0,4,5,1] hh⟩)
  refine go ?_ ?_
  refine aJ hF rfl (fun h62 hF=>?_) (fun h62 hF=>?_)
  ·obtain⟨v63,h64,hF⟩:=bF hF n9
   obtain⟨v65,h66,hF⟩:=bF hF tL
   obtain⟨v67,h68,hF⟩:=aZ hF
   refine go ?_ ?_
   refine aAs (f:=100) (cs:=[pP (some p0) 0]) (pre:=[.vc (pI .i64 x20),.va (eQ v65)]) (xs:=[.tmp 45,.tmp 50]) [2,5] [0,1,3,4] rfl (qU h68 q18) ⟨rfl,rfl,rfl,trivial⟩ rfl rfl (by decide) ?_
   rintro _ _ ⟨b71,c72,n70,q73,rfl,rfl⟩
   obtain⟨v75,h76,hF⟩:=aZ hF
   refine go ?_ ?_
   exact aM (fun a w hh=>⟨v67,v75,b71,c72,n70,hF,q73,gJ [0,4,5,1] hh⟩)
  obtain⟨v77,h78,hF⟩:=aZ hF
  refine go ?_ ?_
  exact aM (fun a w hh=>⟨x14,v77,b15,c16,n17,hF,q18,gJ [2,3,4,5] hh⟩)
 refine cR ?_
 obtain rfl:=pZ hF
 exact qZ Jj28 ⟨x14,b15,c16,n17,hRl27,q18,rfl,rfl⟩ [0,1,2,3]
def kC (K:Nat) (x40:List Nat) (x46:List (List Rat)):Option ((List Nat)×(List (List Rat))):=
 some (x40,x46)
def cD (K:Nat) (a0:List Rat) (a1:Int) (a2:List aC) (a3:aF):Nat→(List Nat)→(List (List Rat))→Int→Option ((List Nat)×(List (List Rat)))
 |0,_,_,_=>none
 |k+1,x27,x33,x39=>bif(decide (x39<(a2.length:Int))) then((bL a2 x39).bind fun v55=>(bL a3.rows v55.row).bind fun v58=>bif(v55.kind==0) then((jQ K v58.j a0).bind fun v62=>(gR (x27,x33) a1 x39 v62).bind fun v64=>(aT (x39+1)).bind fun v79=>cD K a0 a1 a2 a3 k v64.1 v64.2 v79) else(bif(v55.kind==1) then((jQ K v58.t a0).bind fun v82=>(gR (x27,x33) a1 x39 v82).bind fun v84=>(aT (x39+1)).bind fun v99=>cD K a0 a1 a2 a3 k v84.1 v84.2 v99) else(bif(v55.kind==2) then((jQ K v58.t a0).bind fun v102=>(aEz v102).bind fun v104=>(gR (x27,x33) a1 x39 v104).bind fun v106=>(aT (x39+1)).bind fun v121=>cD K a0 a1 a2 a3 k v106.1 v106.2 v121) else((aT (x39+1)).bind fun v123=>cD K a0 a1 a2 a3 k x27 x33 v123)))) else(some (x27,x33))
def cN (K:Nat) (a0:List Rat) (a1:Int) (a2:List aC) (a3:aF) (a4:List Nat) (a5:List (List Rat)):Option ((List Nat)×(List (List Rat))):=
 (cD K a0 a1 a2 a3 K a4 a5 0).bind fun(x40,x46)=>kC K x40 x46
theorem fQ {K:Nat} {a0:List Rat} {a1:Int} {a2:List aC} {a3:aF} {a4:List Nat} {a5:List (List Rat)} {r:(List Nat)×(List (List Rat))} (hF:cN K a0 a1 a2 a3 a4 a5=some r) {p0:Nat} {p1:Nat} {p2:Nat} {b3:Option Nat} {c4 n5:Nat} {g8:List u7} {N9:Nat} (q6:a4.length=n5) (q10:a5.length=N9) (q11:iE g8 a5) (q12:∀k∈a4,k<N9):CtO Tryz.prog 99 ([⟨some p0,1,74,1,1,[pO b3 n5 c4]⟩,⟨some p1,1,87,1,1,[pS aC.cod a2]⟩,⟨some p2,1,86,4,1,(aF.enc a3)⟩,hO (cH g8) b3 c4 24 n5 a4]++f8 cQ 32 g8 a5) [.vc (pS cQ a0),.vc (pF 102 [pP (some p0) 0,pM (cI.e a1)]),.vc (pP (some p1) 0),.vc (pP (some p2) 0)] (fun Ho q=>∃b1125 c1126 n1127 g1130 N1131,r.1.length=n1127∧r.2.length=N1131∧iE g1130 r.2∧(∀k∈r.1,k<N1131)∧Ho=([⟨some p0,1,74,1,1,[pO b1125 n1127 c1126]⟩,⟨some p1,1,87,1,1,[pS aC.cod a2]⟩,⟨some p2,1,86,4,1,(aF.enc a3)⟩,hO (cH g1130) b1125 c1126 24 n1127 r.1]++f8 cQ 32 g1130 r.2)∧q=.any):=by
 unfold cN at hF
 refine aG Tryz.func99 rfl (by kernel_rfl) Tryz.ntmps99 rfl (fun w0 M0=>?_)
 refine go ?_ ?_
 refine aS (bV (fun H E=>∃(x40:List Nat),∃(x46:List (List Rat)),∃(b41:Option Nat),∃(c42:Nat),∃(n43:Nat),∃(g47:List u7),∃(N48:Nat),kC K x40 x46=some r∧x40.length=n43∧x46.length=N48∧iE g47 x46∧(∀k∈x40,k<N48)∧H=([⟨some p0,1,74,1,1,[pO b41 n43 c42]⟩,⟨some p1,1,87,1,1,[pS aC.cod a2]⟩,⟨some p2,1,86,4,1,(aF.enc a3)⟩,hO (cH g47) b41 c42 24 n43 x40]++f8 cQ 32 g47 x46)∧E=[]) ?_ (fun Jj53=>?_))
 ·rintro _ _ ⟨x40,x46,b41,c42,n43,g47,N48,hF,q44,q49,q50,q51,rfl,rfl⟩
  unfold kC at hF
  obtain rfl:=pZ hF
  exact aAj (.inr rfl) Tryz.results99 .nil rfl 4 [0,1,2,3] rfl rfl (by decide) ⟨b41,c42,n43,g47,N48,q44,q49,q50,q51,rfl,rfl⟩
 obtain⟨⟨x40',x46'⟩,hL,hRl52⟩:=aZ hF
 refine gB (fun k a w=>∃(x27:List Nat),∃(x33:List (List Rat)),∃(x39:Int),∃(b28:Option Nat),∃(c29:Nat),∃(n30:Nat),∃(g34:List u7),∃(N35:Nat),cD K a0 a1 a2 a3 k x27 x33 x39=some (x40',x46')∧x27.length=n30∧x33.length=N35∧iE g34 x33∧(∀k∈x27,k<N35)∧hs _ ([⟨some p0,1,74,1,1,[pO b28 n30 c29]⟩,⟨some p1,1,87,1,1,[pS aC.cod a2]⟩,⟨some p2,1,86,4,1,(aF.enc a3)⟩,hO (cH g34) b28 c29 24 n30 x27]++f8 cQ 32 g34 x33) [(0,.vc (pS cQ a0)),(1,.vc (pF 102 [pP (some p0) 0,pM (cI.e a1)])),(3,.vc (pP (some p2) 0)),(9,.vc (pS aC.cod a2)),(10,.vc (pI .i64 (a2.length:Int))),(11,.vc (pI .i64 x39))] a w) K (fun a w ⟨_,_,_,_,_,_,_,_,hF,_,_,_,_,_⟩=>by cases hF) (fun k a w ⟨x27,x33,x39,b28,c29,n30,g34,N35,hF,q31,q36,q37,q38,hh⟩=>gC ?_ hh) (fun a w hh=>⟨a4,a5,0,b3,c4,n5,g8,N9,hL,q6,q10,q11,q12,bR 4 [0,1,2,3] rfl rfl (by decide) (by exact⟨rfl,rfl,rfl,rfl,rfl,rfl,trivial⟩) hh⟩)
 rw [cD.eq_2] at hF
 refine go ?_ ?_
 refine aJ hF rfl (fun h54 hF=>?_) (fun h54 hF=>?_)
 ·refine go ?_ ?_
  refine aS ?_
  obtain⟨v55,h56,hF⟩:=aZ hF
  refine go ?_ ?_
  refine aO rfl tyZ91q (fun b57=>?_)
  obtain⟨v58,h59,hF⟩:=aZ hF
  refine go ?_ ?_
  refine aO rfl tyZ49q (fun b60=>?_)
  refine go ?_ ?_
  refine aS (go ?_ ?_)
  refine aJ hF rfl (fun h61 hF=>?_) (fun h61 hF=>?_)
  ·obtain⟨v62,h63,hF⟩:=bF hF n9
   obtain⟨v64,h65,hF⟩:=aZ hF
   refine go ?_ ?_
   refine wK (f:=102) (cs:=[pP (some p0) 0,pM (cI.e a1)]) (pre:=[.vc (pI .i64 x39),.va (eQ v62)]) (xs:=[.tmp 27,.tmp 31]) 6 [2,5] [0,1,3,4] rfl (qV h65 q31 q36 q37 q38) ⟨rfl,rfl,rfl,trivial⟩ rfl rfl rfl (by decide) ?_
   rintro _ _ ⟨b70,c71,n69,g68,N74,q72,q75,q76,q77,rfl,rfl⟩
   refine s8 (p8 [⟨some p0,1,74,1,1,[pO b70 n69 c71]⟩,hO (cH g68) b70 c71 24 n69 v64.1] (f8 cQ 32 g68 v64.2) [⟨some b60,1,49,18,1,(aA.enc v58)⟩,⟨some b57,1,91,2,1,(aC.enc v55)⟩,⟨some p1,1,87,1,1,[pS aC.cod a2]⟩,⟨some p2,1,86,4,1,(aF.enc a3)⟩]) ?_
   obtain⟨v79,h80,hF⟩:=aZ hF
   refine go ?_ ?_
   exact aM (fun a w hh=>⟨v64.1,v64.2,v79,b70,c71,n69,g68,N74,hF,q72,q75,q76,q77,bR 6 [0,4,5,1] rfl rfl (by decide) (by exact⟨rfl,rfl,rfl,rfl,rfl,rfl,trivial⟩) hh⟩)
  refine go ?_ ?_
  refine aJ hF rfl (fun h81 hF=>?_) (fun h81 hF=>?_)
  ·obtain⟨v82,h83,hF⟩:=bF hF n9
   obtain⟨v84,h85,hF⟩:=aZ hF
   refine go ?_ ?_
   refine wK (f:=102) (cs:=[pP (some p0) 0,pM (cI.e a1)]) (pre:=[.vc (pI .i64 x39),.va (eQ v82)]) (xs:=[.tmp 36,.tmp 40]) 6 [2,5] [0,1,3,4] rfl (qV h85 q31 q36 q37 q38) ⟨rfl,rfl,rfl,trivial⟩ rfl rfl rfl (by decide) ?_
   rintro _ _ ⟨b90,c91,n89,g88,N94,q92,q95,q96,q97,rfl,rfl⟩
   refine s8 (p8 [⟨some p0,1,74,1,1,[pO b90 n89 c91]⟩,hO (cH g88) b90 c91 24 n89 v84.1] (f8 cQ 32 g88 v84.2) [⟨some b60,1,49,18,1,(aA.enc v58)⟩,⟨some b57,1,91,2,1,(aC.enc v55)⟩,⟨some p1,1,87,1,1,[pS aC.cod a2]⟩,⟨some p2,1,86,4,1,(aF.enc a3)⟩]) ?_
   obtain⟨v99,h100,hF⟩:=aZ hF
   refine go ?_ ?_
   exact aM (fun a w hh=>⟨v84.1,v84.2,v99,b90,c91,n89,g88,N94,hF,q92,q95,q96,q97,bR 6 [0,4,5,1] rfl rfl (by decide) (by exact⟨rfl,rfl,rfl,rfl,rfl,rfl,trivial⟩) hh⟩)
  refine go ?_ ?_
  refine aJ hF rfl (fun h101 hF=>?_) (fun h101 hF=>?_)
  ·obtain⟨v102,h103,hF⟩:=bF hF n9
   obtain⟨v104,h105,hF⟩:=bF hF tL
   obtain⟨v106,h107,hF⟩:=aZ hF
   refine go ?_ ?_
   refine wK (f:=102) (cs:=[pP (some p0) 0,pM (cI.e a1)]) (pre:=[.vc (pI .i64 x39),.va (eQ v104)]) (xs:=[.tmp 45,.tmp 50]) 6 [2,5] [0,1,3,4] rfl (qV h107 q31 q36 q37 q38) ⟨rfl,rfl,rfl,trivial⟩ rfl rfl rfl (by decide) ?_
   rintro _ _ ⟨b112,c113,n111,g110,N116,q114,q117,q118,q119,rfl,rfl⟩
   refine s8 (p8 [⟨some p0,1,74,1,1,[pO b112 n111 c113]⟩,hO (cH g110) b112 c113 24 n111 v106.1] (f8 cQ 32 g110 v106.2) [⟨some b60,1,49,18,1,(aA.enc v58)⟩,⟨some b57,1,91,2,1,(aC.enc v55)⟩,⟨some p1,1,87,1,1,[pS aC.cod a2]⟩,⟨some p2,1,86,4,1,(aF.enc a3)⟩]) ?_
   obtain⟨v121,h122,hF⟩:=aZ hF
   refine go ?_ ?_
   exact aM (fun a w hh=>⟨v106.1,v106.2,v121,b112,c113,n111,g110,N116,hF,q114,q117,q118,q119,bR 6 [0,4,5,1] rfl rfl (by decide) (by exact⟨rfl,rfl,rfl,rfl,rfl,rfl,trivial⟩) hh⟩)
  obtain⟨v123,h124,hF⟩:=aZ hF
  refine go ?_ ?_
  exact aM (fun a w hh=>⟨x27,x33,v123,b28,c29,n30,g34,N35,hF,q31,q36,q37,q38,bR 6 [2,3,4,5] rfl rfl (by decide) (by exact⟨rfl,rfl,rfl,rfl,rfl,rfl,trivial⟩) hh⟩)
 refine cR ?_
 obtain⟨rfl,rfl⟩:=sm2 hF
 exact lD Jj53 ⟨x27,x33,b28,c29,n30,g34,N35,hRl52,q31,q36,q37,q38,rfl,rfl⟩ 4 [0,1,2,3] rfl rfl trivial
end Go.Proofs.YtldhbdgfpjoamaaGreat
