/- Texts of the proof, part 4: Q1. -/
import Derived.Test.YtolfcbpgmfbgmaaGreatZ3
set_option linter.unusedSimpArgs false
set_option linter.unusedVariables false
set_option maxRecDepth 100000
namespace Go.Proofs.YtolfcbpgmfbgmaaGreat
structure aHY where
 vars:Int
 rows:Int
 cols:Int
 t:List (List Rat)
 costs:List Rat
 basis:List Int
noncomputable def aHY.enc (x:aHY):List CP:=[pI .i64 x.vars]++[pI .i64 x.rows]++[pI .i64 x.cols]++[pS (iM cQ) x.t]++[pS cQ x.costs]++[pS cI x.basis]
noncomputable def aHY.cod:Cd aHY:=⟨6,aHY.enc,fun _=>rfl⟩
structure aHn where
 rows:List (List Rat)
 pivots:List Int
 det:Rat
noncomputable def aHn.enc (x:aHn):List CP:=[pS (iM cQ) x.rows]++[pS cI x.pivots]++(eQ x.det)
noncomputable def aHn.cod:Cd aHn:=⟨6,aHn.enc,fun _=>rfl⟩
structure aMu where
 z:List Rat
 w:List Rat
 pivots:Int
noncomputable def aMu.enc (x:aMu):List CP:=[pS cQ x.z]++[pS cQ x.w]++[pI .i64 x.pivots]
noncomputable def aMu.cod:Cd aMu:=⟨3,aMu.enc,fun _=>rfl⟩
structure aLb where
 n:Int
 rows:List (List Rat)
 basic:List Int
noncomputable def aLb.enc (x:aLb):List CP:=[pI .i64 x.n]++[pS (iM cQ) x.rows]++[pS cI x.basic]
noncomputable def aLb.cod:Cd aLb:=⟨3,aLb.enc,fun _=>rfl⟩
structure aP where
 a:List Rat
 b:Rat
noncomputable def aP.enc (x:aP):List CP:=[pS cQ x.a]++(eQ x.b)
noncomputable def aP.cod:Cd aP:=⟨5,aP.enc,fun _=>rfl⟩
structure aMn where
 vars:Int
 lines:List aP
 goal:List Rat
noncomputable def aMn.enc (x:aMn):List CP:=[pI .i64 x.vars]++[pS aP.cod x.lines]++[pS cQ x.goal]
noncomputable def aMn.cod:Cd aMn:=⟨3,aMn.enc,fun _=>rfl⟩
structure aK6 where
 a:List Rat
 b:Rat
noncomputable def aK6.enc (x:aK6):List CP:=[pS cQ x.a]++(eQ x.b)
noncomputable def aK6.cod:Cd aK6:=⟨5,aK6.enc,fun _=>rfl⟩
structure aMG where
 kind:Int
 x:List Rat
 y:List Rat
 value:Rat
noncomputable def aMG.enc (x:aMG):List CP:=[pI .i64 x.kind]++[pS cQ x.x]++[pS cQ x.y]++(eQ x.value)
noncomputable def aMG.cod:Cd aMG:=⟨7,aMG.enc,fun _=>rfl⟩
structure n5 where
 kind:Int
 x:List Rat
 y:List Rat
 value:Rat
noncomputable def n5.enc (x:n5):List CP:=[pI .i64 x.kind]++[pS cQ x.x]++[pS cQ x.y]++(eQ x.value)
noncomputable def n5.cod:Cd n5:=⟨7,n5.enc,fun _=>rfl⟩
structure aF where
 z:List Rat
 w:List Rat
 pivots:Int
noncomputable def aF.enc (x:aF):List CP:=[pS cQ x.z]++[pS cQ x.w]++[pI .i64 x.pivots]
noncomputable def aF.cod:Cd aF:=⟨3,aF.enc,fun _=>rfl⟩
structure aS where
 vars:Int
 lines:List aP
 goal:List Rat
noncomputable def aS.enc (x:aS):List CP:=[pI .i64 x.vars]++[pS aP.cod x.lines]++[pS cQ x.goal]
noncomputable def aS.cod:Cd aS:=⟨3,aS.enc,fun _=>rfl⟩
structure o6 where
 n:Int
 rows:List (List Rat)
 basic:List Int
noncomputable def o6.enc (x:o6):List CP:=[pI .i64 x.n]++[pS (iM cQ) x.rows]++[pS cI x.basic]
noncomputable def o6.cod:Cd o6:=⟨3,o6.enc,fun _=>rfl⟩
structure wJ where
 rows:List (List Rat)
 pivots:List Int
 det:Rat
noncomputable def wJ.enc (x:wJ):List CP:=[pS (iM cQ) x.rows]++[pS cI x.pivots]++(eQ x.det)
noncomputable def wJ.cod:Cd wJ:=⟨6,wJ.enc,fun _=>rfl⟩
structure uG where
 vars:Int
 rows:Int
 cols:Int
 t:List (List Rat)
 costs:List Rat
 basis:List Int
noncomputable def uG.enc (x:uG):List CP:=[pI .i64 x.vars]++[pI .i64 x.rows]++[pI .i64 x.cols]++[pS (iM cQ) x.t]++[pS cQ x.costs]++[pS cI x.basis]
noncomputable def uG.cod:Cd uG:=⟨6,uG.enc,fun _=>rfl⟩
instance tyA139:TyA Tryz.prog 139 6:=mkA Tryz.underlying139 rfl (by kernel_rfl)
instance tyA90:TyA Tryz.prog 90 3:=mkA Tryz.underlying90 rfl (by kernel_rfl)
instance tyA92:TyA Tryz.prog 92 5:=mkA Tryz.underlying92 rfl (by kernel_rfl)
instance tyA94:TyA Tryz.prog 94 7:=mkA Tryz.underlying94 rfl (by kernel_rfl)
theorem tyB123_o3_o4_o5q:TyB Tryz.prog 123 [(0,1),(1,1),(2,1),(3,1),(4,1),(5,1)] ([pI .i64 0]++[pI .i64 0]++[pI .i64 0]++[pO none 0 0]++[pO none 0 0]++[pO none 0 0]):=mkB (z:=.agg #[.int .i64 0,.int .i64 0,.int .i64 0,.slice none 0 0,.slice none 0 0,.slice none 0 0]) (by kernel_rfl) Tryz.underlying123 (by kernel_rfl) (fun M=>aZ.app (aZ.app (aZ.app (aZ.app (aZ.app (show aZ M [pI .i64 0] [.int .i64 0] from zU1) (show aZ M [pI .i64 0] [.int .i64 0] from zU1)) (show aZ M [pI .i64 0] [.int .i64 0] from zU1)) (show aZ M [pO none 0 0] [.slice none 0 0] from⟨.inl rfl,trivial⟩)) (show aZ M [pO none 0 0] [.slice none 0 0] from⟨.inl rfl,trivial⟩)) (show aZ M [pO none 0 0] [.slice none 0 0] from⟨.inl rfl,trivial⟩))
theorem tyB30q:TyB Tryz.prog 30 [(0,1),(1,1),(2,1)] ([pS cQ ([]:List Rat)]++[pS cQ ([]:List Rat)]++[pI .i64 0]):=mkB (z:=.agg #[.slice none 0 0,.slice none 0 0,.int .i64 0]) (by kernel_rfl) Tryz.underlying30 (by kernel_rfl) (fun M=>aZ.app (aZ.app (show aZ M [pS cQ ([]:List Rat)] [.slice none 0 0] from⟨eM cQ M,trivial⟩) (show aZ M [pS cQ ([]:List Rat)] [.slice none 0 0] from⟨eM cQ M,trivial⟩)) (show aZ M [pI .i64 0] [.int .i64 0] from zU1))
theorem tyB42q:TyB Tryz.prog 42 [(0,2),(2,2)] (eQ 0):=mkB (z:=.agg #[.bool false,.slice none 0 0,.bool false,.slice none 0 0]) (by kernel_rfl) Tryz.underlying42 (by kernel_rfl) (fun M=>eQ0 M)
theorem tyB72_o1_o2q:TyB Tryz.prog 72 [(0,1),(1,1),(2,1)] ([pI .i64 0]++[pO none 0 0]++[pO none 0 0]):=mkB (z:=.agg #[.int .i64 0,.slice none 0 0,.slice none 0 0]) (by kernel_rfl) Tryz.underlying72 (by kernel_rfl) (fun M=>aZ.app (aZ.app (show aZ M [pI .i64 0] [.int .i64 0] from zU1) (show aZ M [pO none 0 0] [.slice none 0 0] from⟨.inl rfl,trivial⟩)) (show aZ M [pO none 0 0] [.slice none 0 0] from⟨.inl rfl,trivial⟩))
theorem tyB90_o1q:TyB Tryz.prog 90 [(0,1),(1,1),(2,1)] ([pI .i64 0]++[pO none 0 0]++[pS cQ ([]:List Rat)]):=mkB (z:=.agg #[.int .i64 0,.slice none 0 0,.slice none 0 0]) (by kernel_rfl) Tryz.underlying90 (by kernel_rfl) (fun M=>aZ.app (aZ.app (show aZ M [pI .i64 0] [.int .i64 0] from zU1) (show aZ M [pO none 0 0] [.slice none 0 0] from⟨.inl rfl,trivial⟩)) (show aZ M [pS cQ ([]:List Rat)] [.slice none 0 0] from⟨eM cQ M,trivial⟩))
theorem tyB92q:TyB Tryz.prog 92 [(0,1),(1,4)] ([pS cQ ([]:List Rat)]++(eQ 0)):=mkB (z:=.agg #[.slice none 0 0,.bool false,.slice none 0 0,.bool false,.slice none 0 0]) (by kernel_rfl) Tryz.underlying92 (by kernel_rfl) (fun M=>aZ.app (show aZ M [pS cQ ([]:List Rat)] [.slice none 0 0] from⟨eM cQ M,trivial⟩) (eQ0 M))
theorem tyB92_o0q:TyB Tryz.prog 92 [(0,1),(1,4)] ([pO none 0 0]++(eQ 0)):=mkB (z:=.agg #[.slice none 0 0,.bool false,.slice none 0 0,.bool false,.slice none 0 0]) (by kernel_rfl) Tryz.underlying92 (by kernel_rfl) (fun M=>aZ.app (show aZ M [pO none 0 0] [.slice none 0 0] from⟨.inl rfl,trivial⟩) (eQ0 M))
theorem tyB94q:TyB Tryz.prog 94 [(0,1),(1,1),(2,1),(3,4)] ([pI .i64 0]++[pS cQ ([]:List Rat)]++[pS cQ ([]:List Rat)]++(eQ 0)):=mkB (z:=.agg #[.int .i64 0,.slice none 0 0,.slice none 0 0,.bool false,.slice none 0 0,.bool false,.slice none 0 0]) (by kernel_rfl) Tryz.underlying94 (by kernel_rfl) (fun M=>aZ.app (aZ.app (aZ.app (show aZ M [pI .i64 0] [.int .i64 0] from zU1) (show aZ M [pS cQ ([]:List Rat)] [.slice none 0 0] from⟨eM cQ M,trivial⟩)) (show aZ M [pS cQ ([]:List Rat)] [.slice none 0 0] from⟨eM cQ M,trivial⟩)) (eQ0 M))
instance tyF123_0:TyF Tryz.prog 123 0 0:=mkF (ft:=3) (k:=0) Tryz.underlying123 rfl rfl rfl (by kernel_rfl)
instance tyF123_1:TyF Tryz.prog 123 1 1:=mkF (ft:=3) (k:=0) Tryz.underlying123 rfl rfl rfl (by kernel_rfl)
instance tyF123_2:TyF Tryz.prog 123 2 2:=mkF (ft:=3) (k:=0) Tryz.underlying123 rfl rfl rfl (by kernel_rfl)
instance tyF123_3:TyF Tryz.prog 123 3 3:=mkF (ft:=23) (k:=0) Tryz.underlying123 rfl rfl rfl (by kernel_rfl)
instance tyF123_4:TyF Tryz.prog 123 4 4:=mkF (ft:=24) (k:=0) Tryz.underlying123 rfl rfl rfl (by kernel_rfl)
instance tyF123_5:TyF Tryz.prog 123 5 5:=mkF (ft:=22) (k:=0) Tryz.underlying123 rfl rfl rfl (by kernel_rfl)
instance tyF139_0:TyF Tryz.prog 139 0 0:=mkF (ft:=23) (k:=0) Tryz.underlying139 rfl rfl rfl (by kernel_rfl)
instance tyF139_1:TyF Tryz.prog 139 1 1:=mkF (ft:=22) (k:=0) Tryz.underlying139 rfl rfl rfl (by kernel_rfl)
instance tyF139_2:TyF Tryz.prog 139 2 2:=mkF (ft:=42) (k:=3) Tryz.underlying139 rfl rfl rfl (by kernel_rfl)
instance tyF30_0:TyF Tryz.prog 30 0 0:=mkF (ft:=24) (k:=0) Tryz.underlying30 rfl rfl rfl (by kernel_rfl)
instance tyF30_1:TyF Tryz.prog 30 1 1:=mkF (ft:=24) (k:=0) Tryz.underlying30 rfl rfl rfl (by kernel_rfl)
instance tyF30_2:TyF Tryz.prog 30 2 2:=mkF (ft:=3) (k:=0) Tryz.underlying30 rfl rfl rfl (by kernel_rfl)
instance tyF72_0:TyF Tryz.prog 72 0 0:=mkF (ft:=3) (k:=0) Tryz.underlying72 rfl rfl rfl (by kernel_rfl)
instance tyF72_1:TyF Tryz.prog 72 1 1:=mkF (ft:=23) (k:=0) Tryz.underlying72 rfl rfl rfl (by kernel_rfl)
instance tyF72_2:TyF Tryz.prog 72 2 2:=mkF (ft:=22) (k:=0) Tryz.underlying72 rfl rfl rfl (by kernel_rfl)
instance tyF90_0:TyF Tryz.prog 90 0 0:=mkF (ft:=3) (k:=0) Tryz.underlying90 rfl rfl rfl (by kernel_rfl)
instance tyF90_1:TyF Tryz.prog 90 1 1:=mkF (ft:=88) (k:=0) Tryz.underlying90 rfl rfl rfl (by kernel_rfl)
instance tyF90_2:TyF Tryz.prog 90 2 2:=mkF (ft:=24) (k:=0) Tryz.underlying90 rfl rfl rfl (by kernel_rfl)
instance tyF92_0:TyF Tryz.prog 92 0 0:=mkF (ft:=24) (k:=0) Tryz.underlying92 rfl rfl rfl (by kernel_rfl)
instance tyF92_1:TyF Tryz.prog 92 1 1:=mkF (ft:=42) (k:=3) Tryz.underlying92 rfl rfl rfl (by kernel_rfl)
instance tyF94_0:TyF Tryz.prog 94 0 0:=mkF (ft:=3) (k:=0) Tryz.underlying94 rfl rfl rfl (by kernel_rfl)
instance tyF94_1:TyF Tryz.prog 94 1 1:=mkF (ft:=24) (k:=0) Tryz.underlying94 rfl rfl rfl (by kernel_rfl)
instance tyF94_3:TyF Tryz.prog 94 3 3:=mkF (ft:=42) (k:=3) Tryz.underlying94 rfl rfl rfl (by kernel_rfl)
instance tyO120:Ty1 Tryz.prog 120:=mk1 Tryz.underlying120 rfl (by kernel_rfl)
instance tyO88:Ty1 Tryz.prog 88:=mk1 Tryz.underlying88 rfl (by kernel_rfl)
instance tyS85:TyS Tryz.prog 85 4 1 1:=mkS (z:=.bool false) (k:=0) Tryz.underlying85 (by kernel_rfl) rfl
instance tyS88:TyS Tryz.prog 88 92 5 88:=mkS (z:=.agg #[.slice none 0 0,.bool false,.slice none 0 0,.bool false,.slice none 0 0]) (k:=4) Tryz.underlying88 (by kernel_rfl) rfl
instance tyZ120q:TyZ Tryz.prog 120 [aQ4]:=mkZ (z:=.pointer none) (k:=1) (by kernel_rfl) rfl (fun M=>show aZ M [aQ4] [.pointer none] from zU1)
instance tyZ139q:TyZ Tryz.prog 139 ([pS (iM cQ) ([]:List (List Rat))]++[pS cI ([]:List Int)]++(eQ 0)):=mkZ (z:=.agg #[.slice none 0 0,.slice none 0 0,.bool false,.slice none 0 0,.bool false,.slice none 0 0]) (k:=6) (by kernel_rfl) rfl (fun M=>aZ.app (aZ.app (show aZ M [pS (iM cQ) ([]:List (List Rat))] [.slice none 0 0] from⟨eM (iM cQ) M,trivial⟩) (show aZ M [pS cI ([]:List Int)] [.slice none 0 0] from⟨eM cI M,trivial⟩)) (eQ0 M))
instance tyZ24q:TyZ Tryz.prog 24 [pS cQ ([]:List Rat)]:=mkZ (z:=.slice none 0 0) (k:=1) (by kernel_rfl) rfl (fun M=>show aZ M [pS cQ ([]:List Rat)] [.slice none 0 0] from⟨eM cQ M,trivial⟩)
instance tyZ3q:TyZ Tryz.prog 3 [pI .i64 0]:=mkZ (z:=.int .i64 0) (k:=1) (by kernel_rfl) rfl (fun M=>show aZ M [pI .i64 0] [.int .i64 0] from zU1)
instance tyZ30q:TyZ Tryz.prog 30 ([pS cQ ([]:List Rat)]++[pS cQ ([]:List Rat)]++[pI .i64 0]):=mkZ (z:=.agg #[.slice none 0 0,.slice none 0 0,.int .i64 0]) (k:=3) (by kernel_rfl) rfl (fun M=>aZ.app (aZ.app (show aZ M [pS cQ ([]:List Rat)] [.slice none 0 0] from⟨eM cQ M,trivial⟩) (show aZ M [pS cQ ([]:List Rat)] [.slice none 0 0] from⟨eM cQ M,trivial⟩)) (show aZ M [pI .i64 0] [.int .i64 0] from zU1))
instance tyZ4q:TyZ Tryz.prog 4 [pB false]:=mkZ (z:=.bool false) (k:=1) (by kernel_rfl) rfl (fun M=>show aZ M [pB false] [.bool false] from zU1)
instance tyZ42q:TyZ Tryz.prog 42 (eQ 0):=mkZ (z:=.agg #[.bool false,.slice none 0 0,.bool false,.slice none 0 0]) (k:=4) (by kernel_rfl) rfl (fun M=>eQ0 M)
instance tyZ90q:TyZ Tryz.prog 90 ([pI .i64 0]++[pS aP.cod ([]:List aP)]++[pS cQ ([]:List Rat)]):=mkZ (z:=.agg #[.int .i64 0,.slice none 0 0,.slice none 0 0]) (k:=3) (by kernel_rfl) rfl (fun M=>aZ.app (aZ.app (show aZ M [pI .i64 0] [.int .i64 0] from zU1) (show aZ M [pS aP.cod ([]:List aP)] [.slice none 0 0] from⟨eM aP.cod M,trivial⟩)) (show aZ M [pS cQ ([]:List Rat)] [.slice none 0 0] from⟨eM cQ M,trivial⟩))
instance tyZ92q:TyZ Tryz.prog 92 ([pS cQ ([]:List Rat)]++(eQ 0)):=mkZ (z:=.agg #[.slice none 0 0,.bool false,.slice none 0 0,.bool false,.slice none 0 0]) (k:=5) (by kernel_rfl) rfl (fun M=>aZ.app (show aZ M [pS cQ ([]:List Rat)] [.slice none 0 0] from⟨eM cQ M,trivial⟩) (eQ0 M))
instance tyZ94q:TyZ Tryz.prog 94 ([pI .i64 0]++[pS cQ ([]:List Rat)]++[pS cQ ([]:List Rat)]++(eQ 0)):=mkZ (z:=.agg #[.int .i64 0,.slice none 0 0,.slice none 0 0,.bool false,.slice none 0 0,.bool false,.slice none 0 0]) (k:=7) (by kernel_rfl) rfl (fun M=>aZ.app (aZ.app (aZ.app (show aZ M [pI .i64 0] [.int .i64 0] from zU1) (show aZ M [pS cQ ([]:List Rat)] [.slice none 0 0] from⟨eM cQ M,trivial⟩)) (show aZ M [pS cQ ([]:List Rat)] [.slice none 0 0] from⟨eM cQ M,trivial⟩)) (eQ0 M))
def cC (a0:Int) (a1:Int):Option Int:=
 bif(decide (a0<0)) then((aR (a0+1)).bind fun v2=>(aR (-v2)).bind fun v4=>(y7 v4 a1).bind fun v6=>some v6) else((y7 a0 a1).bind fun v8=>some v8)
theorem gL {a0:Int} {a1:Int} {r:Int} (hF:cC a0 a1=some r):Ct Tryz.prog 12 [.vc (pI .i64 a0),.vc (pI .i64 a1)] (.vc (pI .i64 r)):=by
 unfold cC at hF
 refine aA Tryz.func12 rfl (by kernel_rfl) Tryz.ntmps12 rfl (fun w0 M0=>?_)
 refine go ?_ ?_
 refine aC hF rfl (fun h1 hF=>?_) (fun h1 hF=>?_)
 ·obtain⟨v2,h3,v4,h5,v6,h7,hF⟩:=bn3 hF
  exact bO
 obtain⟨v8,h9,hF⟩:=aN hF
 exact bO
structure fV where
 z:List aE
 w:List aE
 pivots:Int
noncomputable def fV.enc (x:fV):List CP:=[pS aE.c x.z]++[pS aE.c x.w]++[pI .i64 x.pivots]
noncomputable def fV.cod:Cd fV:=⟨3,fV.enc,fun _=>rfl⟩
structure aLg where
 neg:Bool
 d:List Int
noncomputable def aLg.enc (x:aLg):List CP:=[pB x.neg]++[pS cI x.d]
noncomputable def aLg.cod:Cd aLg:=⟨2,aLg.enc,fun _=>rfl⟩
structure aLI where
 p:aB
 q:aB
noncomputable def aLI.enc (x:aLI):List CP:=(aB.e x.p)++(aB.e x.q)
noncomputable def aLI.cod:Cd aLI:=⟨4,aLI.enc,fun _=>rfl⟩
instance tyA30:TyA Tryz.prog 30 3:=mkA Tryz.underlying30 rfl (by kernel_rfl)
theorem tyB30r:TyB Tryz.prog 30 [(0,1),(1,1),(2,1)] ([pS aE.c ([]:List aE)]++[pS aE.c ([]:List aE)]++[pI .i64 0]):=mkB (z:=.agg #[.slice none 0 0,.slice none 0 0,.int .i64 0]) (by kernel_rfl) Tryz.underlying30 (by kernel_rfl) (fun M=>aZ.app (aZ.app (show aZ M [pS aE.c ([]:List aE)] [.slice none 0 0] from⟨eM aE.c M,trivial⟩) (show aZ M [pS aE.c ([]:List aE)] [.slice none 0 0] from⟨eM aE.c M,trivial⟩)) (show aZ M [pI .i64 0] [.int .i64 0] from zU1))
theorem tyB42r:TyB Tryz.prog 42 [(0,2),(2,2)] (([pB false]++[pS cI ([]:List Int)])++([pB false]++[pS cI ([]:List Int)])):=mkB (z:=.agg #[.bool false,.slice none 0 0,.bool false,.slice none 0 0]) (by kernel_rfl) Tryz.underlying42 (by kernel_rfl) (fun M=>aZ.app (aZ.app (show aZ M [pB false] [.bool false] from zU1) (show aZ M [pS cI ([]:List Int)] [.slice none 0 0] from⟨eM cI M,trivial⟩)) (aZ.app (show aZ M [pB false] [.bool false] from zU1) (show aZ M [pS cI ([]:List Int)] [.slice none 0 0] from⟨eM cI M,trivial⟩)))
instance tyO23:Ty1 Tryz.prog 23:=mk1 Tryz.underlying23 rfl (by kernel_rfl)
instance tyO24:Ty1 Tryz.prog 24:=mk1 Tryz.underlying24 rfl (by kernel_rfl)
instance tyS23:TyS Tryz.prog 23 24 1 24:=mkS (z:=.slice none 0 0) (k:=0) Tryz.underlying23 (by kernel_rfl) rfl
instance tyS24:TyS Tryz.prog 24 42 4 64:=mkS (z:=.agg #[.bool false,.slice none 0 0,.bool false,.slice none 0 0]) (k:=3) Tryz.underlying24 (by kernel_rfl) rfl
instance tyZ30r:TyZ Tryz.prog 30 ([pS aE.c ([]:List aE)]++[pS aE.c ([]:List aE)]++[pI .i64 0]):=mkZ (z:=.agg #[.slice none 0 0,.slice none 0 0,.int .i64 0]) (k:=3) (by kernel_rfl) rfl (fun M=>aZ.app (aZ.app (show aZ M [pS aE.c ([]:List aE)] [.slice none 0 0] from⟨eM aE.c M,trivial⟩) (show aZ M [pS aE.c ([]:List aE)] [.slice none 0 0] from⟨eM aE.c M,trivial⟩)) (show aZ M [pI .i64 0] [.int .i64 0] from zU1))
instance tyZ42r:TyZ Tryz.prog 42 (([pB false]++[pS cI ([]:List Int)])++([pB false]++[pS cI ([]:List Int)])):=mkZ (z:=.agg #[.bool false,.slice none 0 0,.bool false,.slice none 0 0]) (k:=4) (by kernel_rfl) rfl (fun M=>aZ.app (aZ.app (show aZ M [pB false] [.bool false] from zU1) (show aZ M [pS cI ([]:List Int)] [.slice none 0 0] from⟨eM cI M,trivial⟩)) (aZ.app (show aZ M [pB false] [.bool false] from zU1) (show aZ M [pS cI ([]:List Int)] [.slice none 0 0] from⟨eM cI M,trivial⟩)))
abbrev y8:Nat:=11
def iL (K:Nat) (a1:List aE) (a2:Int) (a3:Int) (x31:List Nat) (x37:List (List aE)):Option ((List (List aE))×(List aE)):=
 (sF ([]:List aE) a1).bind fun x48=>bif((x31.length:Int)==0) then((sF (yP x37 x31) [x48]).bind fun x57=>some (x57,x48)) else((cC a3 (x31.length:Int)).bind fun v64=>(yV a3 7).bind fun v66=>(bN x31 v64).bind fun v68=>(cC v66 ((x37.getD v68 []).length:Int)).bind fun v70=>(cC a2 6).bind fun v72=>bif(v72==0) then((slL (yP x37 x31) 0 v64).bind fun x76=>some (x76,x48)) else(bif(v72==1) then((bN (yP x37 x31) v64).bind fun v80=>(slL v80 0 v70).bind fun x82=>(bN (yP x37 x31) v64).bind fun v84=>(pT (yP x37 x31) v64 x82).bind fun x86=>some (x86,x48)) else(bif(v72==2) then((sF x48 [(⟨(⟨false,([]:List Int)⟩:aB),(⟨false,([]:List Int)⟩:aB)⟩:aE)]).bind fun x90=>some ((yP x37 x31),x90)) else(bif(v72==3) then((bN x31 v64).bind fun v99=>(bN (x37.getD v99 []) v70).bind fun v101=>(pT (x37.getD v99 []) v70 (⟨v101.p,(⟨true,v101.q.d⟩:aB)⟩:aE)).bind fun x103=>some ((yP (x37.set v99 x103) x31),x48)) else(bif(v72==4) then((bN x48 v64).bind fun v111=>(sF ([]:List Int) v111.p.d).bind fun x113=>(sF x113 [0]).bind fun x120=>(bN x48 v64).bind fun v127=>(pT x48 v64 (⟨(⟨v127.p.neg,x120⟩:aB),v127.q⟩:aE)).bind fun x129=>some ((yP x37 x31),x129)) else((bN x31 v64).bind fun v135=>(cC a3 9).bind fun v137=>(aR (v137-4)).bind fun v139=>(mL K v139 1).bind fun v141=>(bN (x37.getD v135 []) v70).bind fun v143=>(pT (x37.getD v135 []) v70 v141).bind fun x145=>some ((yP (x37.set v135 x145) x31),x48)))))))
def cS (K:Nat) (a0:List (List aE)):Nat→(List Nat)→(List (List aE))→Int→Option ((List Nat)×(List (List aE)))
 |0,_,_,_=>none
 |k+1,x18,x24,x30=>bif(decide (x30<(a0.length:Int))) then((bN a0 x30).bind fun v153=>(sF ([]:List aE) v153).bind fun x155=>(sF x18 [x24.length]).bind fun x163=>(aR (x30+1)).bind fun v170=>cS K a0 k x163 (x24++[x155]) v170) else(some (x18,x24))
def gD (K:Nat) (a0:List (List aE)) (a1:List aE) (a2:Int) (a3:Int):Option ((List (List aE))×(List aE)):=
 (cS K a0 K ([]:List Nat) ([]:List (List aE)) 0).bind fun(x31,x37)=>iL K a1 a2 a3 x31 x37
theorem yQ {K:Nat} {a0:List (List aE)} {a1:List aE} {a2:Int} {a3:Int} {r:(List (List aE))×(List aE)} (hF:gD K a0 a1 a2 a3=some r):Ct Tryz.prog 11 [.vc (pS (iM aE.c) a0),.vc (pS aE.c a1),.vc (pI .i64 a2),.vc (pI .i64 a3)] (.t2 (.vc (pS (iM aE.c) r.1)) (.vc (pS aE.c r.2))):=by
 unfold gD at hF
 refine aA Tryz.func11 rfl (by kernel_rfl) Tryz.ntmps11 rfl (fun w0 M0=>?_)
 refine aD (aJ (aI (aO (.inr rfl)) ⟨eM (iM aE.c),trivial⟩ ?_))
 refine aI (aO (.inr rfl)) ⟨eM aE.c,trivial⟩ ?_
 refine aV (aK (aD (aJ (aGf aE.c 42 ?_))))
 refine qA (cH ([]:List rV)) 24 rfl ?_
 refine go ?_ ?_
 refine aL (aY (fun H E=>∃(x31:List Nat),∃(x37:List (List aE)),∃(b32:Option Nat),∃(c33:Nat),∃(n34:Nat),∃(g38:List rV),∃(N39:Nat),iL K a1 a2 a3 x31 x37=some r∧x31.length=n34∧x37.length=N39∧dY g38 x37∧(∀k∈x31,k<N39)∧H=([hO (cH g38) b32 c33 24 n34 x31]++gA aE.c 42 g38 x37)∧E=[(1,.vc (pS aE.c a1)),(2,.vc (pI .i64 a2)),(3,.vc (pI .i64 a3)),(10,.vc (pO b32 n34 c33))]) ?_ (fun Jj44=>?_))
 ·rintro _ _ ⟨x31,x37,b32,c33,n34,g38,N39,hF,q35,q40,q41,q42,rfl,rfl⟩
  unfold iL at hF
  refine go ?_ ?_
  refine aGI (aDD (C:=aE.c) (xs:=[]) (ps:=[]) (zs:=([]:List aE)) rfl tyS24 rfl trivial rfl) trivial (fun b45 _=>?_)
  refine fJ ?_
  obtain⟨x48,h49,hF⟩:=aN hF
  refine k8 0 rfl tyS24 rfl rfl rfl rfl rfl h49 (fun b50 c51 H52 e53=>?_)
  cases e53
  refine go ?_ ?_
  refine aC hF rfl (fun h55 hF=>?_) (fun h55 hF=>?_)
  ·refine aD (aLJ 1 2 rfl rfl q41 (xS q40 q42) ?_)
   refine aJr 0 [12,32] rfl (bS h49 rfl) zU2 rfl ?_
   refine go ?_ ?_
   refine aI (gJ (C:=(iM aE.c)) (xs:=[.tmp 37]) (ps:=[.vc (pS aE.c x48)]) (zs:=[x48]) rfl tyS23 rfl ⟨⟨trivial,rfl⟩,trivial⟩ rfl) zU1 ?_
   obtain⟨x57,h58,hF⟩:=aN hF
   refine k8 0 rfl tyS23 rfl rfl ((uA _ _).trans q35) rfl rfl h58 (fun b59 c60 H61 e62=>?_)
   cases e62
   refine go ?_ ?_
   refine f9 (fU (mS 0 [8,39] rfl (bS h58 ((uA _ _).trans q35)) zU2 rfl ?_))
   obtain rfl:=iQ hF
   exact iA (.inl rfl) Tryz.results11 (.tmp rfl (.tmp rfl .nil)) rfl rfl
  obtain⟨v64,h65,hF⟩:=aX hF gL
  obtain⟨v66,h67,v68,h69,hF⟩:=tZ hF
  refine go ?_ ?_
  refine aI (aBV (C:=aE.c) (xs:=(x37.getD v68 [])) (T:=42) rfl tyS24 (fN q41 q40 (q42 _ (aT h69)))) zU1 ?_
  obtain⟨v70,h71,hF⟩:=aX hF gL
  obtain⟨v72,h73,hF⟩:=aX hF gL
  refine go ?_ ?_
  refine aL (go ?_ ?_)
  refine aC hF rfl (fun h74 hF=>?_) (fun h74 hF=>?_)
  ·refine aLJ 1 2 rfl rfl q41 (xS q40 q42) ?_
   refine aJ (fJ ?_)
   refine fJ ?_
   refine vY 1 [10,33,42,47,67] rfl ((uA _ _).trans q35) ⟨rfl,rfl,rfl,rfl,rfl,trivial⟩ rfl ?_
   obtain⟨x76,h77,hF⟩:=aN hF
   refine go ?_ ?_
   refine f9 (fU (mS 0 [9,12,32,115] rfl (bS h49 rfl) ⟨rfl,rfl,rfl,rfl,trivial⟩ rfl ?_))
   obtain rfl:=iQ hF
   exact iA (.inl rfl) Tryz.results11 (.tmp rfl (.tmp rfl .nil)) rfl rfl
  refine go ?_ ?_
  refine aC hF rfl (fun h78 hF=>?_) (fun h78 hF=>?_)
  ·refine aLJ 1 2 rfl rfl q41 (xS q40 q42) ?_
   obtain⟨v80,h81,hF⟩:=aN hF
   refine go ?_ ?_
   refine aI (gU (C:=(iM aE.c)) 1 rfl tyS23 rfl ((uA _ _).trans q35) (aH h81).1 (aH h81).2.1) zU2 ?_
   obtain⟨x82,h83,hF⟩:=aN hF
   have hF:=qV h81 hF
   refine go ?_ ?_
   refine aI (gU (C:=(iM aE.c)) 1 rfl tyS23 rfl ((uA _ _).trans q35) (aH h81).1 (aH h81).2.1) zU2 ?_
   obtain⟨x86,h87,hF⟩:=aN hF
   refine go ?_ ?_
   refine f9 (fU (mS 1 [8,10,33,42,47,72,74,114] rfl (bD h87 ((uA _ _).trans q35)) ⟨rfl,rfl,rfl,rfl,rfl,rfl,rfl,rfl,trivial⟩ rfl ?_))
   refine mS 0 [9,12,32,115] rfl (bS h49 rfl) ⟨rfl,rfl,rfl,rfl,trivial⟩ rfl ?_
   obtain rfl:=iQ hF
   exact iA (.inl rfl) Tryz.results11 (.tmp rfl (.tmp rfl .nil)) rfl rfl
  refine go ?_ ?_
  refine aC hF rfl (fun h89 hF=>?_) (fun h89 hF=>?_)
  ·refine aJ (fJ ?_)
   refine aI (eF (is:=[]) (xs:=[]) (ps:=[]) rfl tyB42r rfl rfl trivial rfl) trivial ?_
   refine aI (gJ (C:=aE.c) (xs:=[.tmp 84]) (ps:=[.va (([pB false]++[pS cI ([]:List Int)])++([pB false]++[pS cI ([]:List Int)]))]) (zs:=[(⟨(⟨false,([]:List Int)⟩:aB),(⟨false,([]:List Int)⟩:aB)⟩:aE)]) rfl tyS24 rfl ⟨⟨trivial,rfl⟩,trivial⟩ rfl) zU1 ?_
   obtain⟨x90,h91,hF⟩:=aN hF
   refine k8 0 rfl tyS24 rfl rfl (bS h49 rfl) rfl rfl h91 (fun b92 c93 H94 e95=>?_)
   cases e95
   refine go ?_ ?_
   refine f9 (fU (aJw 1 2 rfl rfl q41 (xS q40 q42) ?_))
   refine mS 1 [8,10,33,42,47,114] rfl ((uA _ _).trans q35) ⟨rfl,rfl,rfl,rfl,rfl,rfl,trivial⟩ rfl ?_
   refine mS 0 [9,12,86,115] rfl (bS h91 (bS h49 rfl)) ⟨rfl,rfl,rfl,rfl,trivial⟩ rfl ?_
   obtain rfl:=iQ hF
   exact iA (.inl rfl) Tryz.results11 (.tmp rfl (.tmp rfl .nil)) rfl rfl
  refine go ?_ ?_
  refine aC hF rfl (fun h98 hF=>?_) (fun h98 hF=>?_)
  ·have hF:=qV h69 hF
   obtain⟨v101,h102,hF⟩:=aN hF
   refine go ?_ ?_
   refine aI (gU (2+v68) rfl tyS24 (sW 2 rfl q41 q40 (q42 _ (aT h69))) (fN q41 q40 (q42 _ (aT h69))) (aH h102).1 (aH h102).2.1) zU2 ?_
   refine aI (aFL (off:=0) (k:=2) rfl tyF42_1) zU1 ?_
   refine aI (aFL (off:=2) (k:=0) rfl tyF40_0) zU1 ?_
   obtain⟨x103,h104,hF⟩:=aN hF
   refine lG (wR (H':=([hO aE.c b50 c51 42 (0+a1.length) x48,hO (cH g38) b32 c33 24 n34 x31]++gA aE.c 42 g38 (x37.set v68 x103))) (2+v68) rfl (sW 2 rfl q41 q40 (q42 _ (aT h69))) h102 h104 tyO4.s (hH:=stN 2 rfl q41 q40 (q42 _ (aT h69)))) ⟨rfl,k_B _,trivial⟩ ?_
   refine go ?_ ?_
   refine f9 (fU (aJw 1 2 rfl rfl (aEN q41 q40 (q42 _ (aT h69)) (bD h104 rfl)) (xS (aCV q40) q42) ?_))
   refine mS 1 [8,10,33,42,47,89,114] rfl ((uA _ _).trans q35) ⟨rfl,rfl,rfl,rfl,rfl,rfl,rfl,trivial⟩ rfl ?_
   refine mS 0 [9,12,32,115] rfl (bS h49 rfl) ⟨rfl,rfl,rfl,rfl,trivial⟩ rfl ?_
   obtain rfl:=iQ hF
   exact iA (.inl rfl) Tryz.results11 (.tmp rfl (.tmp rfl .nil)) rfl rfl
  refine go ?_ ?_
  refine aC hF rfl (fun h107 hF=>?_) (fun h107 hF=>?_)
  ·refine go ?_ ?_
   refine aGI (aDD (C:=cI) (xs:=[]) (ps:=[]) (zs:=([]:List Int)) rfl tyS22 rfl trivial rfl) trivial (fun b108 _=>?_)
   refine fJ ?_
   refine fJ ?_
   obtain⟨v111,h112,hF⟩:=aN hF
   refine aI (gU (C:=aE.c) 1 rfl tyS24 rfl (bS h49 rfl) (aH h112).1 (aH h112).2.1) zU2 ?_
   obtain⟨x113,h114,hF⟩:=aN hF
   refine go ?_ ?_
   refine k8 0 rfl tyS22 rfl rfl rfl rfl rfl h114 (fun b115 c116 H117 e118=>?_)
   cases e118
   refine aI (gJ (C:=cI) (xs:=[.const (.int .i64 (0))]) (ps:=[.vc (pI .i64 0)]) (zs:=[0]) rfl tyS22 rfl ⟨⟨trivial,rfl⟩,trivial⟩ rfl) ⟨oK _ _,trivial⟩ ?_
   obtain⟨x120,h121,hF⟩:=aN hF
   refine k8 0 rfl tyS22 rfl rfl (bS h114 rfl) rfl rfl h121 (fun b122 c123 H124 e125=>?_)
   cases e125
   have hF:=qV h112 hF
   refine aI (gU (C:=aE.c) 1 rfl tyS24 rfl (bS h49 rfl) (aH h112).1 (aH h112).2.1) zU2 ?_
   refine aI (aFL (off:=0) (k:=0) rfl tyF42_0) zU1 ?_
   refine aI (aFL (off:=0) (k:=1) rfl tyF40_1) zU1 ?_
   refine vY 0 [110] rfl (bS h121 (bS h114 rfl)) zU1 rfl ?_
   obtain⟨x129,h130,hF⟩:=aN hF
   refine go ?_ ?_
   refine f9 (fU (aJw 1 2 rfl rfl q41 (xS q40 q42) ?_))
   refine mS 1 [8,10,33,42,47,114] rfl ((uA _ _).trans q35) ⟨rfl,rfl,rfl,rfl,rfl,rfl,trivial⟩ rfl ?_
   refine mS 0 [9,12,32,99,102,115] rfl (bD h130 (bS h49 rfl)) ⟨rfl,rfl,rfl,rfl,rfl,rfl,trivial⟩ rfl ?_
   obtain rfl:=iQ hF
   exact iA (.inl rfl) Tryz.results11 (.tmp rfl (.tmp rfl .nil)) rfl rfl
  have hF:=qV h69 hF
  obtain⟨v137,h138,hF⟩:=aX hF gL
  obtain⟨v139,h140,hF⟩:=aN hF
  obtain⟨v141,h142,hF⟩:=aX hF yU
  obtain⟨v143,h144,hF⟩:=aN hF
  refine jJ [0,0,3,7,0,0,32,96,224,511,1023] 10 1 [.v (.vc (pO b32 n34 c33)),.v (.vc (pI .i64 v64)),.v (.vc (pE b32 v64 (cH g38).n 0)),.v (.vc (pO (iU g38 v68).1 (iU g38 v68).2.1 (iU g38 v68).2.2)),.v (.vc (pI .i64 v70)),.v (.vc (pI .i64 a3)),.v (.vc (pI .i64 v137)),.v (.vc (pI .i64 v139)),.v (.va (aE.e v141)),.v (.vc (pE (iU g38 v68).1 v70 aE.c.n 0))] bB ⟨d0 (aO (.inl rfl)) zU1,d0 (aO (.inl rfl)) zU1,d0 (gU (C:=(cH g38)) 1 rfl tyS23 rfl q35 (aH h69).1 (aH h69).2.1) zU2,d0 (l5 (C:=(cH g38)) (k:=1) 1 rfl rfl h69 rfl (.one tyO24) rfl) zU1,d0 (aO (.inl rfl)) zU1,d0 (aO (.inl rfl)) zU1,d0 (bK rfl h138 rfl) ⟨rfl,oK _ _,trivial⟩,d0 (aI9 rfl h140) ⟨rfl,oK _ _,trivial⟩,d0 (bK rfl h142 rfl) ⟨rfl,oK _ _,trivial⟩,d0 (gU (2+v68) rfl tyS24 (kS 2 rfl q41 q40 (q42 _ (aT h69))) (fN q41 q40 (q42 _ (aT h69))) (aH h144).1 (aH h144).2.1) zU2,trivial⟩ (fun bs134 G133=>?_)
  obtain⟨x145,h146,hF⟩:=aN hF
  refine lG (wR (H':=([hO aE.c b50 c51 42 (0+a1.length) x48,hO (cH g38) b32 c33 24 n34 x31]++gA aE.c 42 g38 (x37.set v68 x145))) (2+v68) rfl (sW 2 rfl q41 q40 (q42 _ (aT h69))) h144 h146 tyA42.s (hH:=stN 2 rfl q41 q40 (q42 _ (aT h69)))) zU2 ?_
  refine go ?_ ?_
  refine f9 (fU (aJw 1 2 rfl rfl (aEN q41 q40 (q42 _ (aT h69)) (bD h146 rfl)) (xS (aCV q40) q42) ?_))
  refine mS 1 [8,10,33,42,47,55,114] rfl ((uA _ _).trans q35) ⟨rfl,rfl,rfl,rfl,rfl,rfl,rfl,trivial⟩ rfl ?_
  refine mS 0 [9,12,32,115] rfl (bS h49 rfl) ⟨rfl,rfl,rfl,rfl,trivial⟩ rfl ?_
  obtain rfl:=iQ hF
  exact iA (.inl rfl) Tryz.results11 (.tmp rfl (.tmp rfl .nil)) rfl rfl
 obtain⟨⟨x31',x37'⟩,hL,hRl43⟩:=aN hF
 refine eD (fun k a w=>∃(x18:List Nat),∃(x24:List (List aE)),∃(x30:Int),∃(b19:Option Nat),∃(c20:Nat),∃(n21:Nat),∃(g25:List rV),∃(N26:Nat),cS K a0 k x18 x24 x30=some (x31',x37')∧x18.length=n21∧x24.length=N26∧dY g25 x24∧(∀k∈x18,k<N26)∧hs _ ([hO (cH g25) b19 c20 24 n21 x18]++gA aE.c 42 g25 x24) [(0,.vc (pS (iM aE.c) a0)),(1,.vc (pS aE.c a1)),(2,.vc (pI .i64 a2)),(3,.vc (pI .i64 a3)),(10,.vc (pO b19 n21 c20)),(11,.vc (pI .i64 x30))] a w) K (fun a w ⟨_,_,_,_,_,_,_,_,hF,_,_,_,_,_⟩=>by cases hF) (fun k a w ⟨x18,x24,x30,b19,c20,n21,g25,N26,hF,q22,q27,q28,q29,hh⟩=>eE ?_ hh) (fun a w hh=>⟨([]:List Nat),([]:List (List aE)),0,none,0,0,([]:List rV),0,hL,rfl,(rfl),aDm,(by simp),aU 1 [0] rfl rfl (by decide) (by exact⟨rfl,rfl,rfl,rfl,rfl,rfl,trivial⟩) hh⟩)
 rw [cS.eq_2] at hF
 refine go ?_ ?_
 refine aC hF rfl (fun h149 hF=>?_) (fun h149 hF=>?_)
 ·refine go ?_ ?_
  refine aL (aJ (fJ ?_))
  refine aGI (aDD (C:=aE.c) (xs:=[]) (ps:=[]) (zs:=([]:List aE)) rfl tyS24 rfl trivial rfl) trivial (fun b150 _=>?_)
  obtain⟨v153,h154,x155,h156,hF⟩:=tZ hF
  refine go ?_ ?_
  refine k8 0 rfl tyS24 rfl rfl rfl rfl rfl h156 (fun b157 c158 H159 e160=>?_)
  cases e160
  refine aI (aMO (rs:=x24) rfl tyS23 q28.1 (show([hO aE.c b157 c158 42 (0+v153.length) x155,hO (cH (g25++[(b157,(0+v153.length),c158)])) b19 c20 24 n21 x18]++gA aE.c 42 g25 x24)=([hO aE.c b157 c158 42 (0+v153.length) x155,hO (cH g25) b19 c20 24 n21 x18]++gA aE.c 42 g25 x24) from by rw [aFY (N:=x24.length) (b157,(0+v153.length),c158) q28.1 (xS q27 q29)])) zU1 ?_
  refine aEG (g:=(b157,(0+v153.length),c158)) 0 2 rfl rfl rfl q28 ?_
  obtain⟨x163,h164,hF⟩:=aN hF
  refine k8 0 rfl tyS23 rfl rfl q22 rfl rfl h164 (fun b165 c166 H167 e168=>?_)
  cases e168
  obtain⟨v170,h171,hF⟩:=aN hF
  refine go ?_ ?_
  exact aG (fun a w hh=>⟨x163,(x24++[x155]),v170,b165,c166,(n21+[x24.length].length),(g25++[(b157,(0+v153.length),c158)]),(N26+1),hF,(bS h164 q22),(aCZ q27),(aAo q28 (bS h156 rfl)),(aIa q29 q27 h164),aU 1 [0] rfl rfl (by decide) (by exact⟨rfl,rfl,rfl,rfl,rfl,rfl,trivial⟩) hh⟩)
 refine bH ?_
 obtain⟨rfl,rfl⟩:=sm2 hF
 exact hU Jj44 ⟨x18,x24,b19,c20,n21,g25,N26,hRl43,q22,q27,q28,q29,rfl,rfl⟩ 1 [0] rfl rfl ⟨rfl,rfl,rfl,rfl,trivial⟩
def mX (K:Nat):Option Bool:=
 some true
def gE (K:Nat) (a0:List aE):Nat→Int→Option (LR Bool Unit)
 |0,_=>none
 |k+1,x2=>bif(decide (x2<(a0.length:Int))) then((bN a0 x2).bind fun v6=>(iY K v6).bind fun v9=>bif(!v9) then(some (.ret false)) else((aR (x2+1)).bind fun v12=>gE K a0 k v12)) else(some (.go ()))
def kQ (K:Nat) (a0:List aE):Option Bool:=
 (gE K a0 K 0).bind fun o=>match o with| .ret r=>some r| .go _=>mX K
theorem vJ {K:Nat} {a0:List aE} {r:Bool} (hF:kQ K a0=some r):Ct Tryz.prog 56 [.vc (pS aE.c a0)] (.vc (pB r)):=by
 unfold kQ at hF
 refine aA Tryz.func56 rfl (by kernel_rfl) Tryz.ntmps56 rfl (fun w0 M0=>?_)
 refine go ?_ ?_
 refine aL (aY (fun H E=>mX K=some r∧H=[]∧E=[]) ?_ (fun Jj4=>?_))
 ·rintro _ _ ⟨hF,rfl,rfl⟩
  unfold mX at hF
  exact bO
 obtain⟨ol3,hL,hRl3⟩:=aN hF
 refine eD (fun k a w=>∃(x2:Int),gE K a0 k x2=some ol3∧hs _ [] [(5,.vc (pS aE.c a0)),(6,.vc (pI .i64 (a0.length:Int))),(7,.vc (pI .i64 x2))] a w) K (fun a w ⟨_,hF,_⟩=>by cases hF) (fun k a w ⟨x2,hF,hh⟩=>eE ?_ hh) (fun a w hh=>⟨0,hL,gR [] hh⟩)
 rw [gE.eq_2] at hF
 refine go ?_ ?_
 refine aC hF rfl (fun h5 hF=>?_) (fun h5 hF=>?_)
 ·refine go ?_ ?_
  refine aL ?_
  obtain⟨v6,h7,hF⟩:=aN hF
  refine go ?_ ?_
  refine aM rfl tyZ42r (fun b8=>?_)
  obtain⟨v9,h10,hF⟩:=aX hF aCS
  refine go ?_ ?_
  refine aC hF rfl (fun h11 hF=>?_) (fun h11 hF=>?_)
  ·exact bO
  obtain⟨v12,h13,hF⟩:=aN hF
  refine go ?_ ?_
  exact aG (fun a w hh=>⟨v12,hF,gR [] hh⟩)
 refine bH ?_
 obtain rfl:=iQ hF
 exact qD Jj4 ⟨hRl3,rfl,rfl⟩ []
def mE (K:Nat):Option Bool:=
 some true
def fT (K:Nat) (a0:List (List aE)) (a1:List aE):Nat→Int→Option (LR Bool Unit)
 |0,_=>none
 |k+1,x7=>bif(decide (x7<(a0.length:Int))) then((bN a0 x7).bind fun v11=>bif((v11.length:Int) != (a1.length:Int)) then(some (.ret false)) else((kQ K v11).bind fun v14=>bif(!v14) then(some (.ret false)) else((aR (x7+1)).bind fun v17=>fT K a0 a1 k v17))) else(some (.go ()))
def fX (K:Nat) (a0:List (List aE)) (a1:List aE):Option Bool:=
 bif((a0.length:Int) != (a1.length:Int)) then(some false) else(bif(decide (32<(a0.length:Int))) then(some false) else((kQ K a1).bind fun v3=>bif(!v3) then(some false) else((fT K a0 a1 K 0).bind fun o=>match o with| .ret r=>some r| .go _=>mE K)))
theorem aAe {K:Nat} {a0:List (List aE)} {a1:List aE} {r:Bool} (hF:fX K a0 a1=some r):Ct Tryz.prog 43 [.vc (pS (iM aE.c) a0),.vc (pS aE.c a1)] (.vc (pB r)):=by
 unfold fX at hF
 refine aA Tryz.func43 rfl (by kernel_rfl) Tryz.ntmps43 rfl (fun w0 M0=>?_)
 refine go ?_ ?_
 refine cJ hF (fun h1 hF=>?_) (fun h1 hF=>?_)
 ·refine go ?_ ?_
  refine fE rfl ?_
  exact bO
 refine go ?_ ?_
 refine cJ hF (fun h2 hF=>?_) (fun h2 hF=>?_)
 ·refine go ?_ ?_
  refine fE rfl ?_
  exact bO
 obtain⟨v3,h4,hF⟩:=aX hF vJ
 refine go ?_ ?_
 refine aC hF rfl (fun h5 hF=>?_) (fun h5 hF=>?_)
 ·exact bO
 refine go ?_ ?_
 refine aL (aY (fun H E=>mE K=some r∧H=[]∧E=[]) ?_ (fun Jj9=>?_))
 ·rintro _ _ ⟨hF,rfl,rfl⟩
  unfold mE at hF
  exact bO
 obtain⟨ol8,hL,hRl8⟩:=aN hF
 refine eD (fun k a w=>∃(x7:Int),fT K a0 a1 k x7=some ol8∧hs _ [] [(1,.vc (pS aE.c a1)),(22,.vc (pS (iM aE.c) a0)),(23,.vc (pI .i64 (a0.length:Int))),(24,.vc (pI .i64 x7))] a w) K (fun a w ⟨_,hF,_⟩=>by cases hF) (fun k a w ⟨x7,hF,hh⟩=>eE ?_ hh) (fun a w hh=>⟨0,hL,gR [] hh⟩)
 rw [fT.eq_2] at hF
 refine go ?_ ?_
 refine aC hF rfl (fun h10 hF=>?_) (fun h10 hF=>?_)
 ·refine go ?_ ?_
  refine aL ?_
  obtain⟨v11,h12,hF⟩:=aN hF
  refine go ?_ ?_
  refine cJ hF (fun h13 hF=>?_) (fun h13 hF=>?_)
  ·refine go ?_ ?_
   refine fE rfl ?_
   exact bO
  obtain⟨v14,h15,hF⟩:=aX hF vJ
  refine go ?_ ?_
  refine aC hF rfl (fun h16 hF=>?_) (fun h16 hF=>?_)
  ·exact bO
  obtain⟨v17,h18,hF⟩:=aN hF
  refine go ?_ ?_
  exact aG (fun a w hh=>⟨v17,hF,gR [] hh⟩)
 refine bH ?_
 obtain rfl:=iQ hF
 exact qD Jj9 ⟨hRl8,rfl,rfl⟩ []
abbrev vF:Nat:=13
def kA (K:Nat) (a0:List (List aE)) (a1:List aE) (a2:Int):Option (fV×Int):=
 (fX K a0 a1).bind fun v2=>bif(!v2) then(some ((⟨([]:List aE),([]:List aE),0⟩:fV),1)) else(bif(decide (a2<0)) then(some ((⟨([]:List aE),([]:List aE),0⟩:fV),1)) else(none))
theorem aAc {K:Nat} {a0:List (List aE)} {a1:List aE} {a2:Int} {r:fV×Int} (hF:kA K a0 a1 a2=some r):Ct Tryz.prog 13 [.vc (pS (iM aE.c) a0),.vc (pS aE.c a1),.vc (pI .i64 a2)] (.t2 (.va (fV.enc r.1)) (.vc (pI .i64 r.2))):=by
 unfold kA at hF
 refine aA Tryz.func13 rfl (by kernel_rfl) Tryz.ntmps13 rfl (fun w0 M0=>?_)
 refine aD (aJ (aM rfl tyZ30r (fun b1=>?_)))
 obtain⟨v2,h3,hF⟩:=aX hF aAe
 refine go ?_ ?_
 refine cJ hF (fun h4 hF=>?_) (fun h4 hF=>?_)
 ·refine go ?_ ?_
  refine fE rfl ?_
  refine aD (aJ (aI (eF (is:=[]) (xs:=[]) (ps:=[]) rfl tyB30r rfl rfl trivial rfl) trivial ?_))
  exact bO
 refine go ?_ ?_
 refine aC hF rfl (fun h5 hF=>?_) (fun h5 hF=>?_)
 ·refine aD (aJ (aI (eF (is:=[]) (xs:=[]) (ps:=[]) rfl tyB30r rfl rfl trivial rfl) trivial ?_))
  exact bO
 cases hF
def l9 (K:Nat):Option Bool:=
 some true
def fP (K:Nat) (a0:List aE):Nat→Int→Option (LR Bool Unit)
 |0,_=>none
 |k+1,x2=>bif(decide (x2<(a0.length:Int))) then((bN a0 x2).bind fun v6=>(bT K v6).bind fun v8=>bif(!v8) then(some (.ret false)) else((aR (x2+1)).bind fun v11=>fP K a0 k v11)) else(some (.go ()))
def jZ (K:Nat) (a0:List aE):Option Bool:=
 (fP K a0 K 0).bind fun o=>match o with| .ret r=>some r| .go _=>l9 K
theorem u6 {K:Nat} {a0:List aE} {r:Bool} (hF:jZ K a0=some r):Ct Tryz.prog 63 [.vc (pS aE.c a0)] (.vc (pB r)):=by
 unfold jZ at hF
 refine aA Tryz.func63 rfl (by kernel_rfl) Tryz.ntmps63 rfl (fun w0 M0=>?_)
 refine go ?_ ?_
 refine aL (aY (fun H E=>l9 K=some r∧H=[]∧E=[]) ?_ (fun Jj4=>?_))
 ·rintro _ _ ⟨hF,rfl,rfl⟩
  unfold l9 at hF
  exact bO
 obtain⟨ol3,hL,hRl3⟩:=aN hF
 refine eD (fun k a w=>∃(x2:Int),fP K a0 k x2=some ol3∧hs _ [] [(0,.vc (pS aE.c a0)),(3,.vc (pI .i64 x2))] a w) K (fun a w ⟨_,hF,_⟩=>by cases hF) (fun k a w ⟨x2,hF,hh⟩=>eE ?_ hh) (fun a w hh=>⟨0,hL,gR [] hh⟩)
 rw [fP.eq_2] at hF
 refine go ?_ ?_
 refine aC hF rfl (fun h5 hF=>?_) (fun h5 hF=>?_)
 ·refine go ?_ ?_
  refine aL ?_
  obtain⟨v6,h7,hF⟩:=aN hF
  obtain⟨v8,h9,hF⟩:=aX hF wM
  refine go ?_ ?_
  refine aC hF rfl (fun h10 hF=>?_) (fun h10 hF=>?_)
  ·exact bO
  obtain⟨v11,h12,hF⟩:=aN hF
  refine go ?_ ?_
  exact aG (fun a w hh=>⟨v11,hF,gR [] hh⟩)
 refine bH ?_
 obtain rfl:=iQ hF
 exact qD Jj4 ⟨hRl3,rfl,rfl⟩ []
def lL (K:Nat):Option Bool:=
 some true
def eN (K:Nat) (a0:List (List aE)) (a1:List aE):Nat→Int→Option (LR Bool Unit)
 |0,_=>none
 |k+1,x7=>bif(decide (x7<(a0.length:Int))) then((bN a0 x7).bind fun v11=>bif((v11.length:Int) != (a1.length:Int)) then(some (.ret false)) else((bN a0 x7).bind fun v14=>(jZ K v14).bind fun v16=>bif(!v16) then(some (.ret false)) else((aR (x7+1)).bind fun v19=>eN K a0 a1 k v19))) else(some (.go ()))
def fC (K:Nat) (a0:List (List aE)) (a1:List aE):Option Bool:=
 bif((a0.length:Int) != (a1.length:Int)) then(some false) else(bif(decide (32<(a1.length:Int))) then(some false) else((jZ K a1).bind fun v3=>bif(!v3) then(some false) else((eN K a0 a1 K 0).bind fun o=>match o with| .ret r=>some r| .go _=>lL K)))
theorem zF {K:Nat} {a0:List (List aE)} {a1:List aE} {r:Bool} (hF:fC K a0 a1=some r):Ct Tryz.prog 28 [.vc (pS (iM aE.c) a0),.vc (pS aE.c a1)] (.vc (pB r)):=by
 unfold fC at hF
 refine aA Tryz.func28 rfl (by kernel_rfl) Tryz.ntmps28 rfl (fun w0 M0=>?_)
 refine go ?_ ?_
 refine cJ hF (fun h1 hF=>?_) (fun h1 hF=>?_)
 ·refine go ?_ ?_
  refine fE rfl ?_
  exact bO
 refine go ?_ ?_
 refine cJ hF (fun h2 hF=>?_) (fun h2 hF=>?_)
 ·refine go ?_ ?_
  refine fE rfl ?_
  exact bO
 obtain⟨v3,h4,hF⟩:=aX hF u6
 refine go ?_ ?_
 refine aC hF rfl (fun h5 hF=>?_) (fun h5 hF=>?_)
 ·exact bO
 refine go ?_ ?_
 refine aL (aY (fun H E=>lL K=some r∧H=[]∧E=[]) ?_ (fun Jj9=>?_))
 ·rintro _ _ ⟨hF,rfl,rfl⟩
  unfold lL at hF
  exact bO
 obtain⟨ol8,hL,hRl8⟩:=aN hF
 refine eD (fun k a w=>∃(x7:Int),eN K a0 a1 k x7=some ol8∧hs _ [] [(0,.vc (pS (iM aE.c) a0)),(1,.vc (pS aE.c a1)),(5,.vc (pI .i64 x7))] a w) K (fun a w ⟨_,hF,_⟩=>by cases hF) (fun k a w ⟨x7,hF,hh⟩=>eE ?_ hh) (fun a w hh=>⟨0,hL,gR [] hh⟩)
 rw [eN.eq_2] at hF
 refine go ?_ ?_
 refine aC hF rfl (fun h10 hF=>?_) (fun h10 hF=>?_)
 ·refine go ?_ ?_
  refine aL ?_
  obtain⟨v11,h12,hF⟩:=aN hF
  refine go ?_ ?_
  refine cJ hF (fun h13 hF=>?_) (fun h13 hF=>?_)
  ·refine go ?_ ?_
   refine fE rfl ?_
   exact bO
  have hF:=qV h12 hF
  obtain⟨v16,h17,hF⟩:=aX hF u6
  refine go ?_ ?_
  refine aC hF rfl (fun h18 hF=>?_) (fun h18 hF=>?_)
  ·exact bO
  obtain⟨v19,h20,hF⟩:=aN hF
  refine go ?_ ?_
  exact aG (fun a w hh=>⟨v19,hF,gR [] hh⟩)
 refine bH ?_
 obtain rfl:=iQ hF
 exact qD Jj9 ⟨hRl8,rfl,rfl⟩ []
abbrev u5:Nat:=14
def jL (K:Nat) (a0:List (List aE)) (a1:List aE) (a2:Int):Option (fV×Int):=
 (fC K a0 a1).bind fun v2=>bif(!v2) then(some ((⟨([]:List aE),([]:List aE),0⟩:fV),1)) else(bif(decide (a2<0)) then(some ((⟨([]:List aE),([]:List aE),0⟩:fV),1)) else(none))
theorem zI {K:Nat} {a0:List (List aE)} {a1:List aE} {a2:Int} {r:fV×Int} (hF:jL K a0 a1 a2=some r):Ct Tryz.prog 14 [.vc (pS (iM aE.c) a0),.vc (pS aE.c a1),.vc (pI .i64 a2)] (.t2 (.va (fV.enc r.1)) (.vc (pI .i64 r.2))):=by
 unfold jL at hF
 refine aA Tryz.func14 rfl (by kernel_rfl) Tryz.ntmps14 rfl (fun w0 M0=>?_)
 refine aD (aJ (aM rfl tyZ30r (fun b1=>?_)))
 obtain⟨v2,h3,hF⟩:=aX hF zF
 refine go ?_ ?_
 refine cJ hF (fun h4 hF=>?_) (fun h4 hF=>?_)
 ·refine go ?_ ?_
  refine fE rfl ?_
  refine aD (aJ (aI (eF (is:=[]) (xs:=[]) (ps:=[]) rfl tyB30r rfl rfl trivial rfl) trivial ?_))
  exact bO
 refine go ?_ ?_
 refine aC hF rfl (fun h5 hF=>?_) (fun h5 hF=>?_)
 ·refine aD (aJ (aI (eF (is:=[]) (xs:=[]) (ps:=[]) rfl tyB30r rfl rfl trivial rfl) trivial ?_))
  exact bO
 cases hF
def cD (a0:List Int) (a1:Int) (a2:Int):Option Int:=
 bif(decide (a1<0)) then(some 0) else(bif(decide ((a0.length:Int)≤a1)) then(some 0) else((bN a0 a1).bind fun v3=>(cC v3 a2).bind fun v5=>some v5))
theorem lW {a0:List Int} {a1:Int} {a2:Int} {r:Int} (hF:cD a0 a1 a2=some r):Ct Tryz.prog 39 [.vc (pS cI a0),.vc (pI .i64 a1),.vc (pI .i64 a2)] (.vc (pI .i64 r)):=by
 unfold cD at hF
 refine aA Tryz.func39 rfl (by kernel_rfl) Tryz.ntmps39 rfl (fun w0 M0=>?_)
 refine go ?_ ?_
 refine cJ hF (fun h1 hF=>?_) (fun h1 hF=>?_)
 ·refine go ?_ ?_
  refine fE rfl ?_
  exact bO
 refine go ?_ ?_
 refine aC hF rfl (fun h2 hF=>?_) (fun h2 hF=>?_)
 ·exact bO
 obtain⟨v3,h4,hF⟩:=aN hF
 obtain⟨v5,h6,hF⟩:=aX hF gL
 exact bO
def jS (a0:Int):Option Rat:=
 (cC a0 60).bind fun v2=>bif(decide (v2<24)) then(some 0) else((y7 v2 9).bind fun v5=>(aR (v5-4)).bind fun v7=>(yV v2 9).bind fun v9=>(y7 v9 3).bind fun v11=>(aR (1+v11)).bind fun v13=>(qof v7 v13).bind fun v15=>some v15)
theorem aAS {a0:Int} {r:Rat} (hF:jS a0=some r):Ct Tryz.prog 40 [.vc (pI .i64 a0)] (.va (eQ r)):=by
 unfold jS at hF
 refine aA Tryz.func40 rfl (by kernel_rfl) Tryz.ntmps40 rfl (fun w0 M0=>?_)
 refine aD (aJ (aM rfl tyZ42q (fun b1=>?_)))
 obtain⟨v2,h3,hF⟩:=aX hF gL
 refine go ?_ ?_
 refine aC hF rfl (fun h4 hF=>?_) (fun h4 hF=>?_)
 ·refine aD (aJ (aI (eF (is:=[]) (xs:=[]) (ps:=[]) rfl tyB42q rfl rfl trivial rfl) trivial ?_))
  exact bO
 obtain⟨v5,h6,v7,h8,v9,h10,v11,h12,hF⟩:=bn4 hF
 obtain⟨v13,h14,hF⟩:=aN hF
 obtain⟨v15,h16,hF⟩:=aX hF cX
 exact bO
def qS (K:Nat) (x7:Rat):Option Rat:=
 some x7
def jM (K:Nat) (a0:List Rat) (a1:List Rat):Nat→Rat→Int→Option Rat
 |0,_,_=>none
 |k+1,x5,x6=>bif(decide (x6<(a0.length:Int))) then(bif(decide (x6<(a1.length:Int))) then((bN a0 x6).bind fun v14=>(bN a1 x6).bind fun v16=>(aEs v14 v16).bind fun v18=>(aEv x5 v18).bind fun v20=>(aR (x6+1)).bind fun v22=>jM K a0 a1 k v20 v22) else(some x5)) else(some x5)
def kM (K:Nat) (a0:List Rat) (a1:List Rat):Option Rat:=
 (jM K a0 a1 K 0 0).bind fun x7=>qS K x7
theorem uV {K:Nat} {a0:List Rat} {a1:List Rat} {r:Rat} (hF:kM K a0 a1=some r):Ct Tryz.prog 42 [.vc (pS cQ a0),.vc (pS cQ a1)] (.va (eQ r)):=by
 unfold kM at hF
 refine aA Tryz.func42 rfl (by kernel_rfl) Tryz.ntmps42 rfl (fun w0 M0=>?_)
 refine aD (aJ (aM rfl tyZ42q (fun b1=>?_)))
 refine go ?_ ?_
 refine aM rfl tyZ42q (fun b2=>?_)
 refine go ?_ ?_
 refine aL (aY (fun H E=>∃(x7:Rat),qS K x7=some r∧H=[⟨some b2,1,42,4,1,(eQ x7)⟩,⟨some b1,1,42,4,1,(eQ 0)⟩]∧E=[(4,.vc (pP (some b1) 0)),(5,.vc (pP (some b2) 0))]) ?_ (fun Jj9=>?_))
 ·rintro _ _ ⟨x7,hF,rfl,rfl⟩
  unfold qS at hF
  exact bO
 obtain⟨x7',hL,hRl8⟩:=aN hF
 refine eD (fun k a w=>∃(x5:Rat),∃(x6:Int),jM K a0 a1 k x5 x6=some x7'∧hs _ [⟨some b2,1,42,4,1,(eQ x5)⟩,⟨some b1,1,42,4,1,(eQ 0)⟩] [(0,.vc (pS cQ a0)),(1,.vc (pS cQ a1)),(4,.vc (pP (some b1) 0)),(5,.vc (pP (some b2) 0)),(6,.vc (pI .i64 x6))] a w) K (fun a w ⟨_,_,hF,_⟩=>by cases hF) (fun k a w ⟨x5,x6,hF,hh⟩=>eE ?_ hh) (fun a w hh=>⟨0,0,hL,gR [0,1] hh⟩)
 rw [jM.eq_2] at hF
 refine go ?_ ?_
 refine cJ hF (fun h10 hF=>?_) (fun h10 hF=>?_)
 ·refine go ?_ ?_
  refine aC hF rfl (fun h11 hF=>?_) (fun h11 hF=>?_)
  ·refine go ?_ ?_
   refine aL ?_
   obtain⟨v14,h15,hF⟩:=aN hF
   obtain⟨v16,h17,hF⟩:=aN hF
   obtain⟨v18,h19,hF⟩:=aX hF xN
   obtain⟨v20,h21,hF⟩:=aX hF sG
   refine dr [0,0,0,6,14,0,0,96,224,510,1023,2047] 11 1 ?_ (fun bs13 G12=>?_)
   obtain⟨v22,h23,hF⟩:=aN hF
   refine go ?_ ?_
   exact aG (fun a w hh=>⟨v20,v22,hF,gR [0,1] hh⟩)
  refine bH ?_
  obtain rfl:=iQ hF
  exact qD Jj9 ⟨x5,hRl8,rfl,rfl⟩ [0,1]
 refine go ?_ ?_
 refine uX rfl ?_
 refine bH ?_
 obtain rfl:=iQ hF
 exact qD Jj9 ⟨x5,hRl8,rfl,rfl⟩ [0,1]
def lS (K:Nat) (x37:List Rat) (x119:List (List Rat)):Option ((List (List Rat))×(List Rat)):=
 some (x119,x37)
def lV (K:Nat) (v5:Int) (x112:List (List Rat)) (x118:Int) (recl125:(List (List Rat))→Int→Option (List (List Rat))) (x144:List Rat):Option (List (List Rat)):=
 bif(v5==2) then((bN x144 x118).bind fun v155=>(qof 1 1).bind fun v157=>(aEv v155 v157).bind fun v159=>(bN x144 x118).bind fun v161=>(pT x144 x118 v159).bind fun x163=>(sF x112 [x163]).bind fun x166=>(aR (x118+1)).bind fun v173=>recl125 x166 v173) else((sF x112 [x144]).bind fun x175=>(aR (x118+1)).bind fun v182=>recl125 x175 v182)
def eS (K:Nat) (v3:Int) (x43:List (List Rat)) (x118:Int):Nat→(List Rat)→Int→Option (List Rat)
 |0,_,_=>none
 |k+1,x137,x143=>bif(decide (x143<v3)) then((bN x43 x118).bind fun v187=>(bN x43 x143).bind fun v189=>(kM K v187 v189).bind fun v191=>(sF x137 [v191]).bind fun x193=>(aR (x143+1)).bind fun v200=>eS K v3 x43 x118 k x193 v200) else(some x137)
def cO (K:Nat) (v3:Int) (v5:Int) (x43:List (List Rat)):Nat→(List (List Rat))→Int→Option (List (List Rat))
 |0,_,_=>none
 |k+1,x112,x118=>bif(decide (x118<v3)) then((eS K v3 x43 x118 K ([]:List Rat) 0).bind fun x144=>lV K v5 x112 x118 (cO K v3 v5 x43 k) x144) else(some x112)
def lO (K:Nat) (x37:List Rat) (x218:List (List Rat)):Option ((List (List Rat))×(List Rat)):=
 some (x218,x37)
def lY (K:Nat) (v5:Int) (x211:List (List Rat)) (x217:Int) (recl224:(List (List Rat))→Int→Option (List (List Rat))) (x243:List Rat):Option (List (List Rat)):=
 bif(v5==2) then((bN x243 x217).bind fun v254=>(qof 1 1).bind fun v256=>(aEv v254 v256).bind fun v258=>(bN x243 x217).bind fun v260=>(pT x243 x217 v258).bind fun x262=>(sF x211 [x262]).bind fun x265=>(aR (x217+1)).bind fun v272=>recl224 x265 v272) else((sF x211 [x243]).bind fun x274=>(aR (x217+1)).bind fun v281=>recl224 x274 v281)
def eW (K:Nat) (v3:Int) (x43:List (List Rat)) (x217:Int):Nat→(List Rat)→Int→Option (List Rat)
 |0,_,_=>none
 |k+1,x236,x242=>bif(decide (x242<v3)) then((bN x43 x217).bind fun v286=>(bN x43 x242).bind fun v288=>(kM K v286 v288).bind fun v290=>(sF x236 [v290]).bind fun x292=>(aR (x242+1)).bind fun v299=>eW K v3 x43 x217 k x292 v299) else(some x236)
def cM (K:Nat) (v3:Int) (v5:Int) (x43:List (List Rat)):Nat→(List (List Rat))→Int→Option (List (List Rat))
 |0,_,_=>none
 |k+1,x211,x217=>bif(decide (x217<v3)) then((eW K v3 x43 x217 K ([]:List Rat) 0).bind fun x243=>lY K v5 x211 x217 (cM K v3 v5 x43 k) x243) else(some x211)
def cV (K:Nat) (a0:List Int) (v3:Int) (v5:Int) (x37:List Rat) (x43:List (List Rat)):Option ((List (List Rat))×(List Rat)):=
 bif(v5==0) then(some (x43,x37)) else(bif(v3==0) then(some (x43,x37)) else(bif(v5==4) then(bif(decide (4≤v3)) then((qof 1 1).bind fun v56=>(cD a0 2 4).bind fun v59=>(qof v59 2).bind fun v61=>(cD a0 3 5).bind fun v64=>(aR (v64-2)).bind fun v66=>(qof v66 2).bind fun v68=>(qof 2 1).bind fun v71=>(qof (-1) 1).bind fun v74=>(aB3 v68).bind fun v79=>(aB3 v71).bind fun v81=>(aB3 v68).bind fun v83=>(aB3 v71).bind fun v85=>(slL x37 0 3).bind fun x89=>(sF ([]:List Rat) x89).bind fun x91=>(sF x91 [0]).bind fun x94=>some ([[v71,v68,v79,0],[v68,v71,v81,v56],[v83,v85,v71,v56],[v61,v74,v74,0]],x94)) else((cO K v3 v5 x43 K ([]:List (List Rat)) 0).bind fun x119=>lS K x37 x119)) else((cM K v3 v5 x43 K ([]:List (List Rat)) 0).bind fun x218=>lO K x37 x218)))
def lT (K:Nat) (a0:List Int) (x24:List Rat) (x30:List (List Rat)) (x36:Int) (recl49:(List Rat)→(List (List Rat))→Int→Option ((List Rat)×(List (List Rat)))) (x318:List Rat):Option ((List Rat)×(List (List Rat))):=
 (sF x30 [x318]).bind fun x326=>(aR (40+x36)).bind fun v333=>(cD a0 v333 13).bind fun v335=>(aR (v335-8)).bind fun v337=>(aR (47+x36)).bind fun v339=>(cD a0 v339 2).bind fun v341=>(aR (1+v341)).bind fun v343=>(qof v337 v343).bind fun v345=>(sF x24 [v345]).bind fun x347=>(aR (x36+1)).bind fun v354=>recl49 x347 x326 v354
def eV (K:Nat) (a0:List Int) (v3:Int) (x36:Int):Nat→(List Rat)→Int→Option (List Rat)
 |0,_,_=>none
 |k+1,x311,x317=>bif(decide (x317<v3)) then((aR (6*x36)).bind fun v357=>(aR (3+v357)).bind fun v359=>(aR (v359+x317)).bind fun v361=>(cD a0 v361 60).bind fun v363=>(jS v363).bind fun v365=>(sF x311 [v365]).bind fun x367=>(aR (x317+1)).bind fun v374=>eV K a0 v3 x36 k x367 v374) else(some x311)
def dV (K:Nat) (a0:List Int) (v3:Int):Nat→(List Rat)→(List (List Rat))→Int→Option ((List Rat)×(List (List Rat)))
 |0,_,_,_=>none
 |k+1,x24,x30,x36=>bif(decide (x36<v3)) then((eV K a0 v3 x36 K ([]:List Rat) 0).bind fun x318=>lT K a0 x24 x30 x36 (dV K a0 v3 k) x318) else(some (x24,x30))
def kR (K:Nat) (a0:List Int) (a1:Int):Option ((List (List Rat))×(List Rat)):=
 (aR (a1+1)).bind fun v1=>(cD a0 0 v1).bind fun v3=>(cD a0 1 5).bind fun v5=>(dV K a0 v3 K ([]:List Rat) ([]:List (List Rat)) 0).bind fun(x37,x43)=>cV K a0 v3 v5 x37 x43
theorem aAp {K:Nat} {a0:List Int} {a1:Int} {r:(List (List Rat))×(List Rat)} (hF:kR K a0 a1=some r):Ct Tryz.prog 10 [.vc (pS cI a0),.vc (pI .i64 a1)] (.t2 (.vc (pS (iM cQ) r.1)) (.vc (pS cQ r.2))):=by
 unfold kR at hF
 refine aA Tryz.func10 rfl (by kernel_rfl) Tryz.ntmps10 rfl (fun w0 M0=>?_)
 refine aD (aJ (aI (aO (.inr rfl)) ⟨eM (iM cQ),trivial⟩ ?_))
 refine aI (aO (.inr rfl)) ⟨eM cQ,trivial⟩ ?_
 refine aV (aK (aD (aJ (fJ ?_))))
 refine fJ ?_
 obtain⟨v1,h2,hF⟩:=aN hF
 refine aI (yN rfl h2) ⟨rfl,oK _ _,trivial⟩ ?_
 obtain⟨v3,h4,hF⟩:=aX hF lW
 refine aI (bK rfl h4 rfl) ⟨rfl,oK _ _,rfl,trivial⟩ ?_
 refine zM ?_
 refine aV (aK (aD (aJ (fJ ?_))))
 obtain⟨v5,h6,hF⟩:=aX hF lW
 refine aI (bK rfl h6 rfl) ⟨rfl,oK _ _,oK _ _,trivial⟩ ?_
 refine zM ?_
 refine aV (aK (aD (aJ (qA (iM cQ) 24 rfl ?_))))
 refine aV (aK (aD (aJ (qA cQ 42 rfl ?_))))
 refine go ?_ ?_
 refine aL (aY (fun H E=>∃(x37:List Rat),∃(x43:List (List Rat)),∃(b38:Option Nat),∃(c39:Nat),∃(n40:Nat),∃(b44:Option Nat),∃(c45:Nat),∃(n46:Nat),cV K a0 v3 v5 x37 x43=some r∧x37.length=n40∧x43.length=n46∧H=[hO cQ b38 c39 42 n40 x37,hO (iM cQ) b44 c45 24 n46 x43]∧E=[(0,.vc (pS cI a0)),(6,.vc (pI .i64 v3)),(7,.vc (pI .i64 v5)),(8,.vc (pO b44 n46 c45)),(9,.vc (pO b38 n40 c39))]) ?_ (fun Jj50=>?_))
 ·rintro _ _ ⟨x37,x43,b38,c39,n40,b44,c45,n46,hF,q41,q47,rfl,rfl⟩
  unfold cV at hF
  refine go ?_ ?_
  refine cJ hF (fun h51 hF=>?_) (fun h51 hF=>?_)
  ·refine go ?_ ?_
   refine fE rfl ?_
   refine go ?_ ?_
   refine f9 (fU (mS 1 [4,8,74] rfl q47 ⟨rfl,rfl,rfl,trivial⟩ rfl ?_))
   refine mS 0 [5,9,75] rfl q41 ⟨rfl,rfl,rfl,trivial⟩ rfl ?_
   obtain rfl:=iQ hF
   exact iA (.inl rfl) Tryz.results10 (.tmp rfl (.tmp rfl .nil)) rfl rfl
  refine go ?_ ?_
  refine aC hF rfl (fun h52 hF=>?_) (fun h52 hF=>?_)
  ·refine go ?_ ?_
   refine f9 (fU (mS 1 [4,8,74] rfl q47 ⟨rfl,rfl,rfl,trivial⟩ rfl ?_))
   refine mS 0 [5,9,75] rfl q41 ⟨rfl,rfl,rfl,trivial⟩ rfl ?_
   obtain rfl:=iQ hF
   exact iA (.inl rfl) Tryz.results10 (.tmp rfl (.tmp rfl .nil)) rfl rfl
  refine go ?_ ?_
  refine cJ hF (fun h53 hF=>?_) (fun h53 hF=>?_)
  ·refine go ?_ ?_
   refine aC hF rfl (fun h54 hF=>?_) (fun h54 hF=>?_)
   ·refine aD (aJ (aI (eF (is:=[]) (xs:=[]) (ps:=[]) rfl tyB42q rfl rfl trivial rfl) trivial ?_))
    refine aM rfl tyZ42q (fun b55=>?_)
    obtain⟨v56,h57,hF⟩:=aX hF cX
    refine go ?_ ?_
    refine aM rfl tyZ42q (fun b58=>?_)
    obtain⟨v59,h60,hF⟩:=aX hF lW
    obtain⟨v61,h62,hF⟩:=aX hF cX
    refine go ?_ ?_
    refine aM rfl tyZ42q (fun b63=>?_)
    obtain⟨v64,h65,hF⟩:=aX hF lW
    obtain⟨v66,h67,hF⟩:=aN hF
    obtain⟨v68,h69,hF⟩:=aX hF cX
    refine go ?_ ?_
    refine aM rfl tyZ42q (fun b70=>?_)
    obtain⟨v71,h72,hF⟩:=aX hF cX
    refine go ?_ ?_
    refine aM rfl tyZ42q (fun b73=>?_)
    obtain⟨v74,h75,hF⟩:=aX hF cX
    refine go ?_ ?_
    refine aM rfl tyZ42q (fun b76=>?_)
    refine lG (t_s 0 rfl rfl rfl tyA42.s) zU2 ?_
    refine aV (aK (aD (aJr 6 [9] rfl q41 zU1 rfl ?_)))
    obtain⟨v79,h80,hF⟩:=aX hF pG
    obtain⟨v81,h82,hF⟩:=aX hF pG
    obtain⟨v83,h84,hF⟩:=aX hF pG
    obtain⟨v85,h86,hF⟩:=aX hF pG
    obtain⟨x89,h90,hF⟩:=aN hF
    obtain⟨x91,h92,hF⟩:=aN hF
    obtain⟨x94,h95,hF⟩:=aN hF
    refine tI (HsM [(0,fun G77=>[⟨some b76,1,42,4,1,(eQ v74)⟩,⟨some b73,1,42,4,1,(eQ v71)⟩,⟨some b70,1,42,4,1,(eQ v68)⟩,⟨some b63,1,42,4,1,(eQ v61)⟩,⟨some b58,1,42,4,1,(eQ v56)⟩,⟨some b55,1,42,4,1,(eQ 0)⟩,hO (iM cQ) b44 c45 24 n46 x43]),(1,fun G77=>[hO cQ ((G77 25).1) 0 42 0 ([]:List Rat),⟨some b76,1,42,4,1,(eQ v74)⟩,⟨some b73,1,42,4,1,(eQ v71)⟩,⟨some b70,1,42,4,1,(eQ v68)⟩,⟨some b63,1,42,4,1,(eQ v61)⟩,⟨some b58,1,42,4,1,(eQ v56)⟩,⟨some b55,1,42,4,1,(eQ 0)⟩,hO (iM cQ) b44 c45 24 n46 x43]),(3,fun G77=>[hO cQ ((G77 28).1) ((G77 28).2) 42 (0+x89.length) x91,⟨some b76,1,42,4,1,(eQ v74)⟩,⟨some b73,1,42,4,1,(eQ v71)⟩,⟨some b70,1,42,4,1,(eQ v68)⟩,⟨some b63,1,42,4,1,(eQ v61)⟩,⟨some b58,1,42,4,1,(eQ v56)⟩,⟨some b55,1,42,4,1,(eQ 0)⟩,hO (iM cQ) b44 c45 24 n46 x43]),(7,fun G77=>[hO cQ ((G77 31).1) ((G77 31).2) 42 ((0+x89.length)+[0].length) x94,⟨some b76,1,42,4,1,(eQ v74)⟩,⟨some b73,1,42,4,1,(eQ v71)⟩,⟨some b70,1,42,4,1,(eQ v68)⟩,⟨some b63,1,42,4,1,(eQ v61)⟩,⟨some b58,1,42,4,1,(eQ v56)⟩,⟨some b55,1,42,4,1,(eQ 0)⟩,hO (iM cQ) b44 c45 24 n46 x43]),(15,fun G77=>[hO cQ ((G77 33).1) ((G77 33).2) 42 ((0+x89.length)+[0].length) x94,⟨some b76,1,42,4,1,(eQ v74)⟩,⟨some b73,1,42,4,1,(eQ v71)⟩,⟨some b70,1,42,4,1,(eQ v68)⟩,⟨some b63,1,42,4,1,(eQ v61)⟩,⟨some b58,1,42,4,1,(eQ v56)⟩,⟨some b55,1,42,4,1,(eQ 0)⟩,hO (iM cQ) b44 c45 24 n46 x43])]) [25,28,31,33] (0::0::0::4::0::31::0::0::0::268::0::1996::0::4876::0::29452::0::0::258828::0::0::0::0::7864320::16777215::0::0::67108864::234943244::0::536870912::2113991436::4294967295::8589934591::[]) 34 0 (.v (.va (eQ v71))::.v (.va (eQ v68))::.v (.va (eQ v68))::.v (.va (eQ v79))::.v (.va (eQ 0))::.v (.vc (pS cQ [v71,v68,v79,0]))::.v (.va (eQ v68))::.v (.va (eQ v71))::.v (.va (eQ v71))::.v (.va (eQ v81))::.v (.va (eQ v56))::.v (.vc (pS cQ [v68,v71,v81,v56]))::.v (.va (eQ v68))::.v (.va (eQ v83))::.v (.va (eQ v71))::.v (.va (eQ v85))::.v (.va (eQ v71))::.v (.va (eQ v56))::.v (.vc (pS cQ [v83,v85,v71,v56]))::.v (.va (eQ v61))::.v (.va (eQ v74))::.v (.va (eQ v74))::.v (.va (eQ 0))::.v (.vc (pS cQ [v61,v74,v74,0]))::.v (.vc (pS (iM cQ) [[v71,v68,v79,0],[v68,v71,v81,v56],[v83,v85,v71,v56],[v61,v74,v74,0]]))::.g (fun b _=>.vc (pO b 0 0))::.v (.vc (pS cQ x37))::.v (.vc (pS cQ x89))::.g (fun b c=>.vc (pO b (0+x89.length) c))::.v (.va (eQ 0))::.v (.vc (pS cQ [0]))::.g (fun b c=>.vc (pO b ((0+x89.length)+[0].length) c))::.v (.vc (pS (iM cQ) [[v71,v68,v79,0],[v68,v71,v81,v56],[v83,v85,v71,v56],[v61,v74,v74,0]]))::.g (fun b c=>.vc (pO b ((0+x89.length)+[0].length) c))::[]) bB ⟨⟨rfl,.run (L:=[0,1,3,7]) ⟨fun G77 A=>iB 1 4 rfl rfl rfl rfl (.agg tyA42),fun G77 A=>iB 2 4 rfl rfl rfl rfl (.agg tyA42),fun G77 A=>iB 2 4 rfl rfl rfl rfl (.agg tyA42),fun G77 A=>iB 2 4 rfl rfl rfl rfl (.agg tyA42),trivial⟩ (fun G77=>zU1)⟩,⟨rfl,.run (L:=[0,1,3,7]) ⟨fun G77 A=>iB 2 4 rfl rfl rfl rfl (.agg tyA42),fun G77 A=>iB 3 4 rfl rfl rfl rfl (.agg tyA42),fun G77 A=>iB 3 4 rfl rfl rfl rfl (.agg tyA42),fun G77 A=>iB 3 4 rfl rfl rfl rfl (.agg tyA42),trivial⟩ (fun G77=>zU1)⟩,⟨rfl,.run (L:=[0,1]) ⟨fun G77 A=>iB 2 4 rfl rfl rfl rfl (.agg tyA42),fun G77 A=>iB 3 4 rfl rfl rfl rfl (.agg tyA42),trivial⟩ (fun G77=>zU1)⟩,⟨rfl,.run (L:=[0,1]) ⟨fun G77 A=>bK rfl h80 rfl,fun G77 A=>bK rfl h80 rfl,trivial⟩ (fun G77=>zU1)⟩,⟨rfl,.run (L:=[0,1,3,7]) ⟨fun G77 A=>iB 5 4 rfl rfl rfl rfl (.agg tyA42),fun G77 A=>iB 6 4 rfl rfl rfl rfl (.agg tyA42),fun G77 A=>iB 6 4 rfl rfl rfl rfl (.agg tyA42),fun G77 A=>iB 6 4 rfl rfl rfl rfl (.agg tyA42),trivial⟩ (fun G77=>zU1)⟩,⟨rfl,.run (L:=[0,1,3,7]) ⟨fun G77 A=>gJ (C:=cQ) (xs:=[.tmp 93,.tmp 94,.tmp 96,.tmp 97]) (ps:=[.va (eQ v71),.va (eQ v68),.va (eQ v79),.va (eQ 0)]) (zs:=[v71,v68,v79,0]) rfl tyS24 rfl ⟨⟨trivial,rfl⟩,⟨trivial,rfl⟩,⟨trivial,rfl⟩,⟨trivial,rfl⟩,trivial⟩ rfl,fun G77 A=>gJ (C:=cQ) (xs:=[.tmp 93,.tmp 94,.tmp 96,.tmp 97]) (ps:=[.va (eQ v71),.va (eQ v68),.va (eQ v79),.va (eQ 0)]) (zs:=[v71,v68,v79,0]) rfl tyS24 rfl ⟨⟨trivial,rfl⟩,⟨trivial,rfl⟩,⟨trivial,rfl⟩,⟨trivial,rfl⟩,trivial⟩ rfl,fun G77 A=>gJ (C:=cQ) (xs:=[.tmp 93,.tmp 94,.tmp 96,.tmp 97]) (ps:=[.va (eQ v71),.va (eQ v68),.va (eQ v79),.va (eQ 0)]) (zs:=[v71,v68,v79,0]) rfl tyS24 rfl ⟨⟨trivial,rfl⟩,⟨trivial,rfl⟩,⟨trivial,rfl⟩,⟨trivial,rfl⟩,trivial⟩ rfl,fun G77 A=>gJ (C:=cQ) (xs:=[.tmp 93,.tmp 94,.tmp 96,.tmp 97]) (ps:=[.va (eQ v71),.va (eQ v68),.va (eQ v79),.va (eQ 0)]) (zs:=[v71,v68,v79,0]) rfl tyS24 rfl ⟨⟨trivial,rfl⟩,⟨trivial,rfl⟩,⟨trivial,rfl⟩,⟨trivial,rfl⟩,trivial⟩ rfl,trivial⟩ (fun G77=>⟨rfl,rfl,rfl,rfl,trivial⟩)⟩,⟨rfl,.run (L:=[0,1,3,7]) ⟨fun G77 A=>iB 2 4 rfl rfl rfl rfl (.agg tyA42),fun G77 A=>iB 3 4 rfl rfl rfl rfl (.agg tyA42),fun G77 A=>iB 3 4 rfl rfl rfl rfl (.agg tyA42),fun G77 A=>iB 3 4 rfl rfl rfl rfl (.agg tyA42),trivial⟩ (fun G77=>zU1)⟩,⟨rfl,.run (L:=[0,1,3,7]) ⟨fun G77 A=>iB 1 4 rfl rfl rfl rfl (.agg tyA42),fun G77 A=>iB 2 4 rfl rfl rfl rfl (.agg tyA42),fun G77 A=>iB 2 4 rfl rfl rfl rfl (.agg tyA42),fun G77 A=>iB 2 4 rfl rfl rfl rfl (.agg tyA42),trivial⟩ (fun G77=>zU1)⟩,⟨rfl,.run (L:=[0,1]) ⟨fun G77 A=>iB 1 4 rfl rfl rfl rfl (.agg tyA42),fun G77 A=>iB 2 4 rfl rfl rfl rfl (.agg tyA42),trivial⟩ (fun G77=>zU1)⟩,⟨rfl,.run (L:=[0,1]) ⟨fun G77 A=>bK rfl h82 rfl,fun G77 A=>bK rfl h82 rfl,trivial⟩ (fun G77=>zU1)⟩,⟨rfl,.run (L:=[0,1,3,7]) ⟨fun G77 A=>iB 4 4 rfl rfl rfl rfl (.agg tyA42),fun G77 A=>iB 5 4 rfl rfl rfl rfl (.agg tyA42),fun G77 A=>iB 5 4 rfl rfl rfl rfl (.agg tyA42),fun G77 A=>iB 5 4 rfl rfl rfl rfl (.agg tyA42),trivial⟩ (fun G77=>zU1)⟩,⟨rfl,.run (L:=[0,1,3,7]) ⟨fun G77 A=>gJ (C:=cQ) (xs:=[.tmp 99,.tmp 100,.tmp 102,.tmp 103]) (ps:=[.va (eQ v68),.va (eQ v71),.va (eQ v81),.va (eQ v56)]) (zs:=[v68,v71,v81,v56]) rfl tyS24 rfl ⟨⟨trivial,rfl⟩,⟨trivial,rfl⟩,⟨trivial,rfl⟩,⟨trivial,rfl⟩,trivial⟩ rfl,fun G77 A=>gJ (C:=cQ) (xs:=[.tmp 99,.tmp 100,.tmp 102,.tmp 103]) (ps:=[.va (eQ v68),.va (eQ v71),.va (eQ v81),.va (eQ v56)]) (zs:=[v68,v71,v81,v56]) rfl tyS24 rfl ⟨⟨trivial,rfl⟩,⟨trivial,rfl⟩,⟨trivial,rfl⟩,⟨trivial,rfl⟩,trivial⟩ rfl,fun G77 A=>gJ (C:=cQ) (xs:=[.tmp 99,.tmp 100,.tmp 102,.tmp 103]) (ps:=[.va (eQ v68),.va (eQ v71),.va (eQ v81),.va (eQ v56)]) (zs:=[v68,v71,v81,v56]) rfl tyS24 rfl ⟨⟨trivial,rfl⟩,⟨trivial,rfl⟩,⟨trivial,rfl⟩,⟨trivial,rfl⟩,trivial⟩ rfl,fun G77 A=>gJ (C:=cQ) (xs:=[.tmp 99,.tmp 100,.tmp 102,.tmp 103]) (ps:=[.va (eQ v68),.va (eQ v71),.va (eQ v81),.va (eQ v56)]) (zs:=[v68,v71,v81,v56]) rfl tyS24 rfl ⟨⟨trivial,rfl⟩,⟨trivial,rfl⟩,⟨trivial,rfl⟩,⟨trivial,rfl⟩,trivial⟩ rfl,trivial⟩ (fun G77=>⟨rfl,rfl,rfl,rfl,trivial⟩)⟩,⟨rfl,.run (L:=[0,1]) ⟨fun G77 A=>iB 2 4 rfl rfl rfl rfl (.agg tyA42),fun G77 A=>iB 3 4 rfl rfl rfl rfl (.agg tyA42),trivial⟩ (fun G77=>zU1)⟩,⟨rfl,.run (L:=[0,1]) ⟨fun G77 A=>bK rfl h84 rfl,fun G77 A=>bK rfl h84 rfl,trivial⟩ (fun G77=>zU1)⟩,⟨rfl,.run (L:=[0,1]) ⟨fun G77 A=>iB 1 4 rfl rfl rfl rfl (.agg tyA42),fun G77 A=>iB 2 4 rfl rfl rfl rfl (.agg tyA42),trivial⟩ (fun G77=>zU1)⟩,⟨rfl,.run (L:=[0,1]) ⟨fun G77 A=>bK rfl h86 rfl,fun G77 A=>bK rfl h86 rfl,trivial⟩ (fun G77=>zU1)⟩,⟨rfl,.run (L:=[0,1,3,7]) ⟨fun G77 A=>iB 1 4 rfl rfl rfl rfl (.agg tyA42),fun G77 A=>iB 2 4 rfl rfl rfl rfl (.agg tyA42),fun G77 A=>iB 2 4 rfl rfl rfl rfl (.agg tyA42),fun G77 A=>iB 2 4 rfl rfl rfl rfl (.agg tyA42),trivial⟩ (fun G77=>zU1)⟩,⟨rfl,.run (L:=[0,1,3,7]) ⟨fun G77 A=>iB 4 4 rfl rfl rfl rfl (.agg tyA42),fun G77 A=>iB 5 4 rfl rfl rfl rfl (.agg tyA42),fun G77 A=>iB 5 4 rfl rfl rfl rfl (.agg tyA42),fun G77 A=>iB 5 4 rfl rfl rfl rfl (.agg tyA42),trivial⟩ (fun G77=>zU1)⟩,⟨rfl,.run (L:=[0,1,3,7]) ⟨fun G77 A=>gJ (C:=cQ) (xs:=[.tmp 106,.tmp 108,.tmp 109,.tmp 110]) (ps:=[.va (eQ v83),.va (eQ v85),.va (eQ v71),.va (eQ v56)]) (zs:=[v83,v85,v71,v56]) rfl tyS24 rfl ⟨⟨trivial,rfl⟩,⟨trivial,rfl⟩,⟨trivial,rfl⟩,⟨trivial,rfl⟩,trivial⟩ rfl,fun G77 A=>gJ (C:=cQ) (xs:=[.tmp 106,.tmp 108,.tmp 109,.tmp 110]) (ps:=[.va (eQ v83),.va (eQ v85),.va (eQ v71),.va (eQ v56)]) (zs:=[v83,v85,v71,v56]) rfl tyS24 rfl ⟨⟨trivial,rfl⟩,⟨trivial,rfl⟩,⟨trivial,rfl⟩,⟨trivial,rfl⟩,trivial⟩ rfl,fun G77 A=>gJ (C:=cQ) (xs:=[.tmp 106,.tmp 108,.tmp 109,.tmp 110]) (ps:=[.va (eQ v83),.va (eQ v85),.va (eQ v71),.va (eQ v56)]) (zs:=[v83,v85,v71,v56]) rfl tyS24 rfl ⟨⟨trivial,rfl⟩,⟨trivial,rfl⟩,⟨trivial,rfl⟩,⟨trivial,rfl⟩,trivial⟩ rfl,fun G77 A=>gJ (C:=cQ) (xs:=[.tmp 106,.tmp 108,.tmp 109,.tmp 110]) (ps:=[.va (eQ v83),.va (eQ v85),.va (eQ v71),.va (eQ v56)]) (zs:=[v83,v85,v71,v56]) rfl tyS24 rfl ⟨⟨trivial,rfl⟩,⟨trivial,rfl⟩,⟨trivial,rfl⟩,⟨trivial,rfl⟩,trivial⟩ rfl,trivial⟩ (fun G77=>⟨rfl,rfl,rfl,rfl,trivial⟩)⟩,⟨rfl,.run (L:=[0,1,3,7]) ⟨fun G77 A=>iB 3 4 rfl rfl rfl rfl (.agg tyA42),fun G77 A=>iB 4 4 rfl rfl rfl rfl (.agg tyA42),fun G77 A=>iB 4 4 rfl rfl rfl rfl (.agg tyA42),fun G77 A=>iB 4 4 rfl rfl rfl rfl (.agg tyA42),trivial⟩ (fun G77=>zU1)⟩,⟨rfl,.run (L:=[0,1,3,7]) ⟨fun G77 A=>iB 0 4 rfl rfl rfl rfl (.agg tyA42),fun G77 A=>iB 1 4 rfl rfl rfl rfl (.agg tyA42),fun G77 A=>iB 1 4 rfl rfl rfl rfl (.agg tyA42),fun G77 A=>iB 1 4 rfl rfl rfl rfl (.agg tyA42),trivial⟩ (fun G77=>zU1)⟩,⟨rfl,.run (L:=[0,1,3,7]) ⟨fun G77 A=>iB 0 4 rfl rfl rfl rfl (.agg tyA42),fun G77 A=>iB 1 4 rfl rfl rfl rfl (.agg tyA42),fun G77 A=>iB 1 4 rfl rfl rfl rfl (.agg tyA42),fun G77 A=>iB 1 4 rfl rfl rfl rfl (.agg tyA42),trivial⟩ (fun G77=>zU1)⟩,⟨rfl,.run (L:=[0,1,3,7]) ⟨fun G77 A=>iB 5 4 rfl rfl rfl rfl (.agg tyA42),fun G77 A=>iB 6 4 rfl rfl rfl rfl (.agg tyA42),fun G77 A=>iB 6 4 rfl rfl rfl rfl (.agg tyA42),fun G77 A=>iB 6 4 rfl rfl rfl rfl (.agg tyA42),trivial⟩ (fun G77=>zU1)⟩,⟨rfl,.run (L:=[0,1,3,7]) ⟨fun G77 A=>gJ (C:=cQ) (xs:=[.tmp 112,.tmp 113,.tmp 114,.tmp 115]) (ps:=[.va (eQ v61),.va (eQ v74),.va (eQ v74),.va (eQ 0)]) (zs:=[v61,v74,v74,0]) rfl tyS24 rfl ⟨⟨trivial,rfl⟩,⟨trivial,rfl⟩,⟨trivial,rfl⟩,⟨trivial,rfl⟩,trivial⟩ rfl,fun G77 A=>gJ (C:=cQ) (xs:=[.tmp 112,.tmp 113,.tmp 114,.tmp 115]) (ps:=[.va (eQ v61),.va (eQ v74),.va (eQ v74),.va (eQ 0)]) (zs:=[v61,v74,v74,0]) rfl tyS24 rfl ⟨⟨trivial,rfl⟩,⟨trivial,rfl⟩,⟨trivial,rfl⟩,⟨trivial,rfl⟩,trivial⟩ rfl,fun G77 A=>gJ (C:=cQ) (xs:=[.tmp 112,.tmp 113,.tmp 114,.tmp 115]) (ps:=[.va (eQ v61),.va (eQ v74),.va (eQ v74),.va (eQ 0)]) (zs:=[v61,v74,v74,0]) rfl tyS24 rfl ⟨⟨trivial,rfl⟩,⟨trivial,rfl⟩,⟨trivial,rfl⟩,⟨trivial,rfl⟩,trivial⟩ rfl,fun G77 A=>gJ (C:=cQ) (xs:=[.tmp 112,.tmp 113,.tmp 114,.tmp 115]) (ps:=[.va (eQ v61),.va (eQ v74),.va (eQ v74),.va (eQ 0)]) (zs:=[v61,v74,v74,0]) rfl tyS24 rfl ⟨⟨trivial,rfl⟩,⟨trivial,rfl⟩,⟨trivial,rfl⟩,⟨trivial,rfl⟩,trivial⟩ rfl,trivial⟩ (fun G77=>⟨rfl,rfl,rfl,rfl,trivial⟩)⟩,⟨rfl,.run (L:=[0,1,3,7]) ⟨fun G77 A=>gJ (C:=(iM cQ)) (xs:=[.tmp 98,.tmp 104,.tmp 111,.tmp 116]) (ps:=[.vc (pS cQ [v71,v68,v79,0]),.vc (pS cQ [v68,v71,v81,v56]),.vc (pS cQ [v83,v85,v71,v56]),.vc (pS cQ [v61,v74,v74,0])]) (zs:=[[v71,v68,v79,0],[v68,v71,v81,v56],[v83,v85,v71,v56],[v61,v74,v74,0]]) rfl tyS23 rfl ⟨⟨trivial,rfl⟩,⟨trivial,rfl⟩,⟨trivial,rfl⟩,⟨trivial,rfl⟩,trivial⟩ rfl,fun G77 A=>gJ (C:=(iM cQ)) (xs:=[.tmp 98,.tmp 104,.tmp 111,.tmp 116]) (ps:=[.vc (pS cQ [v71,v68,v79,0]),.vc (pS cQ [v68,v71,v81,v56]),.vc (pS cQ [v83,v85,v71,v56]),.vc (pS cQ [v61,v74,v74,0])]) (zs:=[[v71,v68,v79,0],[v68,v71,v81,v56],[v83,v85,v71,v56],[v61,v74,v74,0]]) rfl tyS23 rfl ⟨⟨trivial,rfl⟩,⟨trivial,rfl⟩,⟨trivial,rfl⟩,⟨trivial,rfl⟩,trivial⟩ rfl,fun G77 A=>gJ (C:=(iM cQ)) (xs:=[.tmp 98,.tmp 104,.tmp 111,.tmp 116]) (ps:=[.vc (pS cQ [v71,v68,v79,0]),.vc (pS cQ [v68,v71,v81,v56]),.vc (pS cQ [v83,v85,v71,v56]),.vc (pS cQ [v61,v74,v74,0])]) (zs:=[[v71,v68,v79,0],[v68,v71,v81,v56],[v83,v85,v71,v56],[v61,v74,v74,0]]) rfl tyS23 rfl ⟨⟨trivial,rfl⟩,⟨trivial,rfl⟩,⟨trivial,rfl⟩,⟨trivial,rfl⟩,trivial⟩ rfl,fun G77 A=>gJ (C:=(iM cQ)) (xs:=[.tmp 98,.tmp 104,.tmp 111,.tmp 116]) (ps:=[.vc (pS cQ [v71,v68,v79,0]),.vc (pS cQ [v68,v71,v81,v56]),.vc (pS cQ [v83,v85,v71,v56]),.vc (pS cQ [v61,v74,v74,0])]) (zs:=[[v71,v68,v79,0],[v68,v71,v81,v56],[v83,v85,v71,v56],[v61,v74,v74,0]]) rfl tyS23 rfl ⟨⟨trivial,rfl⟩,⟨trivial,rfl⟩,⟨trivial,rfl⟩,⟨trivial,rfl⟩,trivial⟩ rfl,trivial⟩ (fun G77=>⟨rfl,rfl,rfl,rfl,trivial⟩)⟩,⟨rfl,.hvy (ins:=fun _=>[]) [0] ⟨fun G77 A=>aDD (C:=cQ) (xs:=[]) (ps:=[]) (zs:=([]:List Rat)) rfl tyS24 rfl trivial rfl,trivial⟩ (fun G77=>trivial)⟩,⟨rfl,.run (L:=[0,1]) ⟨fun G77 A=>aO (.inl rfl),fun G77 A=>aO (.inl rfl),trivial⟩ (fun G77=>zU1)⟩,⟨rfl,.run (L:=[0,1]) ⟨fun G77 A=>aDo rfl tyS24 h90,fun G77 A=>aDo rfl tyS24 h90,trivial⟩ (fun G77=>⟨rfl,oK _ _,trivial⟩)⟩,⟨rfl,.hvy (ins:=fun G77=>[(.tmp 118,.vc (pO ((G77 25).1) 0 0)),(.tmp 120,.vc (pS cQ x89))]) [1] ⟨fun G77 A=>aEr 0 rfl tyS24 rfl rfl rfl h92,trivial⟩ (fun G77=>zU2)⟩,⟨rfl,.run (L:=[0,1,3]) ⟨fun G77 A=>iB 5 4 rfl rfl rfl rfl (.agg tyA42),fun G77 A=>iB 6 4 rfl rfl rfl rfl (.agg tyA42),fun G77 A=>iB 6 4 rfl rfl rfl rfl (.agg tyA42),trivial⟩ (fun G77=>zU1)⟩,⟨rfl,.run (L:=[0,1,3]) ⟨fun G77 A=>gJ (C:=cQ) (xs:=[.tmp 122]) (ps:=[.va (eQ 0)]) (zs:=[0]) rfl tyS24 rfl ⟨⟨trivial,rfl⟩,trivial⟩ rfl,fun G77 A=>gJ (C:=cQ) (xs:=[.tmp 122]) (ps:=[.va (eQ 0)]) (zs:=[0]) rfl tyS24 rfl ⟨⟨trivial,rfl⟩,trivial⟩ rfl,fun G77 A=>gJ (C:=cQ) (xs:=[.tmp 122]) (ps:=[.va (eQ 0)]) (zs:=[0]) rfl tyS24 rfl ⟨⟨trivial,rfl⟩,trivial⟩ rfl,trivial⟩ (fun G77=>zU1)⟩,⟨rfl,.hvy (ins:=fun G77=>[(.tmp 121,.vc (pO ((G77 28).1) (0+x89.length) ((G77 28).2))),(.tmp 123,.vc (pS cQ [0]))]) [3] ⟨fun G77 A=>aEr (n:=(0+x89.length)) 0 rfl tyS24 rfl rfl (bS h92 rfl) h95,trivial⟩ (fun G77=>zU2)⟩,d1 7 (aO (.inr rfl)) zU1,⟨rfl,.hvy [7] ⟨fun G77 A=>aJU ((G77 31).1) ((G77 31).2) (aO (.inr rfl)),trivial⟩ (fun G77=>zU1)⟩,trivial⟩ (fun bs78 G77=>?_)
    refine aV (aK (f9 (fU (mS 0 [5] rfl (bS h95 (bS h92 rfl)) zU1 rfl ?_))))
    obtain rfl:=iQ hF
    exact iA (.inl rfl) Tryz.results10 (.tmp rfl (.tmp rfl .nil)) rfl rfl
   refine iC (aK (aD (aJ (qA (iM cQ) 24 rfl ?_))))
   refine go ?_ ?_
   refine aL (aY (fun H E=>∃(x119:List (List Rat)),∃(b120:Option Nat),∃(c121:Nat),∃(n122:Nat),lS K x37 x119=some r∧x119.length=n122∧H=[hO (iM cQ) b120 c121 24 n122 x119,hO cQ b38 c39 42 n40 x37]∧E=[(9,.vc (pO b38 n40 c39)),(19,.vc (pO b120 n122 c121))]) ?_ (fun Jj126=>?_))
   ·rintro _ _ ⟨x119,b120,c121,n122,hF,q123,rfl,rfl⟩
    unfold lS at hF
    refine go ?_ ?_
    refine f9 (fU (mS 0 [4,19,162] rfl q123 ⟨rfl,rfl,rfl,trivial⟩ rfl ?_))
    refine mS 0 [5,9,163] rfl q41 ⟨rfl,rfl,rfl,trivial⟩ rfl ?_
    obtain rfl:=iQ hF
    exact iA (.inl rfl) Tryz.results10 (.tmp rfl (.tmp rfl .nil)) rfl rfl
   obtain⟨x119',hL,hRl125⟩:=aN hF
   refine eD (fun k a w=>∃(x112:List (List Rat)),∃(x118:Int),∃(b113:Option Nat),∃(c114:Nat),∃(n115:Nat),cO K v3 v5 x43 k x112 x118=some x119'∧x112.length=n115∧hs _ [hO (iM cQ) b113 c114 24 n115 x112,hO cQ b38 c39 42 n40 x37,hO (iM cQ) b44 c45 24 n46 x43] [(6,.vc (pI .i64 v3)),(7,.vc (pI .i64 v5)),(8,.vc (pO b44 n46 c45)),(9,.vc (pO b38 n40 c39)),(19,.vc (pO b113 n115 c114)),(20,.vc (pI .i64 x118))] a w) K (fun a w ⟨_,_,_,_,_,hF,_,_⟩=>by cases hF) (fun k a w ⟨x112,x118,b113,c114,n115,hF,q116,hh⟩=>eE ?_ hh) (fun a w hh=>⟨([]:List (List Rat)),0,none,0,0,hL,rfl,gR [0,1,2] hh⟩)
   rw [cO.eq_2] at hF
   refine go ?_ ?_
   refine aC hF rfl (fun h127 hF=>?_) (fun h127 hF=>?_)
   ·refine go ?_ ?_
    refine aL (aD (aJ (qA cQ 42 rfl ?_)))
    refine go ?_ ?_
    refine aL (aY (fun H E=>∃(x144:List Rat),∃(b145:Option Nat),∃(c146:Nat),∃(n147:Nat),lV K v5 x112 x118 (cO K v3 v5 x43 k) x144=some x119'∧x144.length=n147∧H=[hO cQ b145 c146 42 n147 x144,hO (iM cQ) b113 c114 24 n115 x112,hO cQ b38 c39 42 n40 x37,hO (iM cQ) b44 c45 24 n46 x43]∧E=[(6,.vc (pI .i64 v3)),(7,.vc (pI .i64 v5)),(8,.vc (pO b44 n46 c45)),(9,.vc (pO b38 n40 c39)),(19,.vc (pO b113 n115 c114)),(20,.vc (pI .i64 x118)),(21,.vc (pO b145 n147 c146))]) ?_ (fun Jj151=>?_))
    ·rintro _ _ ⟨x144,b145,c146,n147,hF,q148,rfl,rfl⟩
     unfold lV at hF
     refine go ?_ ?_
     refine aC hF rfl (fun h152 hF=>?_) (fun h152 hF=>?_)
     ·obtain⟨v155,h156,hF⟩:=aN hF
      obtain⟨v157,h158,hF⟩:=aX hF cX
      obtain⟨v159,h160,hF⟩:=aX hF sG
      have hF:=qV h156 hF
      refine dr [0,0,0,0,12,28,0,124,255,511] 9 1 ?_ (fun bs154 G153=>?_)
      obtain⟨x163,h164,hF⟩:=aN hF
      refine lG (wR 0 rfl rfl h156 h164 tyA42.s) zU2 ?_
      refine aV (aK (aJ (fJ ?_)))
      refine fJ ?_
      refine vY 0 [21,149,151,159] rfl (bD h164 q148) ⟨rfl,rfl,rfl,rfl,trivial⟩ rfl ?_
      refine aI (gJ (C:=(iM cQ)) (xs:=[.tmp 159]) (ps:=[.vc (pS cQ x163)]) (zs:=[x163]) rfl tyS23 rfl ⟨⟨trivial,rfl⟩,trivial⟩ rfl) zU1 ?_
      obtain⟨x166,h167,hF⟩:=aN hF
      refine k8 0 rfl tyS23 rfl rfl q116 rfl rfl h167 (fun b168 c169 H170 e171=>?_)
      cases e171
      obtain⟨v173,h174,hF⟩:=aN hF
      refine go ?_ ?_
      exact aG (fun a w hh=>⟨x166,v173,b168,c169,(n115+[x163].length),hF,(bS h167 q116),gR [0,1,2] hh⟩)
     refine iC (aK (aJ (fJ ?_)))
     refine fJ ?_
     refine vY 0 [21,159] rfl q148 zU2 rfl ?_
     refine aI (gJ (C:=(iM cQ)) (xs:=[.tmp 159]) (ps:=[.vc (pS cQ x144)]) (zs:=[x144]) rfl tyS23 rfl ⟨⟨trivial,rfl⟩,trivial⟩ rfl) zU1 ?_
     obtain⟨x175,h176,hF⟩:=aN hF
     refine k8 0 rfl tyS23 rfl rfl q116 rfl rfl h176 (fun b177 c178 H179 e180=>?_)
     cases e180
     obtain⟨v182,h183,hF⟩:=aN hF
     refine go ?_ ?_
     exact aG (fun a w hh=>⟨x175,v182,b177,c178,(n115+[x144].length),hF,(bS h176 q116),gR [0,1,2] hh⟩)
    obtain⟨x144',hL,hRl150⟩:=aN hF
    refine eD (fun k a w=>∃(x137:List Rat),∃(x143:Int),∃(b138:Option Nat),∃(c139:Nat),∃(n140:Nat),eS K v3 x43 x118 k x137 x143=some x144'∧x137.length=n140∧hs _ [hO cQ b138 c139 42 n140 x137,hO (iM cQ) b113 c114 24 n115 x112,hO cQ b38 c39 42 n40 x37,hO (iM cQ) b44 c45 24 n46 x43] [(6,.vc (pI .i64 v3)),(7,.vc (pI .i64 v5)),(8,.vc (pO b44 n46 c45)),(9,.vc (pO b38 n40 c39)),(19,.vc (pO b113 n115 c114)),(20,.vc (pI .i64 x118)),(21,.vc (pO b138 n140 c139)),(22,.vc (pI .i64 x143))] a w) K (fun a w ⟨_,_,_,_,_,hF,_,_⟩=>by cases hF) (fun k a w ⟨x137,x143,b138,c139,n140,hF,q141,hh⟩=>eE ?_ hh) (fun a w hh=>⟨([]:List Rat),0,none,0,0,hL,rfl,gR [0,1,2,3] hh⟩)
    rw [eS.eq_2] at hF
    refine go ?_ ?_
    refine aC hF rfl (fun h184 hF=>?_) (fun h184 hF=>?_)
    ·refine go ?_ ?_
     refine aL ?_
     obtain⟨v187,h188,hF⟩:=aN hF
     obtain⟨v189,h190,hF⟩:=aN hF
     obtain⟨v191,h192,hF⟩:=aX hF uV
     refine jJ [0,0,0,6,14,0,0,96,224,510,1022,2047,4095] 11 2 [.v (.vc (pO b138 n140 c139)),.v (.vc (pO b44 n46 c45)),.v (.vc (pI .i64 x118)),.v (.vc (pE b44 x118 (iM cQ).n 0)),.v (.vc (pS cQ v187)),.v (.vc (pO b44 n46 c45)),.v (.vc (pI .i64 x143)),.v (.vc (pE b44 x143 (iM cQ).n 0)),.v (.vc (pS cQ v189)),.v (.va (eQ v191)),.v (.vc (pS cQ [v191]))] bB ⟨d0 (aO (.inl rfl)) zU1,d0 (aO (.inl rfl)) zU1,d0 (aO (.inl rfl)) zU1,d0 (gU (C:=(iM cQ)) 3 rfl tyS23 rfl q47 (aH h188).1 (aH h188).2.1) zU2,d0 (l5 (k:=1) 3 rfl rfl h188 rfl (.one tyO24) rfl) zU1,d0 (aO (.inl rfl)) zU1,d0 (aO (.inl rfl)) zU1,d0 (gU (C:=(iM cQ)) 3 rfl tyS23 rfl q47 (aH h190).1 (aH h190).2.1) zU2,d0 (l5 (k:=1) 3 rfl rfl h190 rfl (.one tyO24) rfl) zU1,d0 (bK rfl h192 rfl) zU2,d0 (gJ (C:=cQ) (xs:=[.tmp 144]) (ps:=[.va (eQ v191)]) (zs:=[v191]) rfl tyS24 rfl ⟨⟨trivial,rfl⟩,trivial⟩ rfl) zU1,trivial⟩ (fun bs186 G185=>?_)
     obtain⟨x193,h194,hF⟩:=aN hF
     refine k8 0 rfl tyS24 rfl rfl q141 rfl rfl h194 (fun b195 c196 H197 e198=>?_)
     cases e198
     obtain⟨v200,h201,hF⟩:=aN hF
     refine go ?_ ?_
     exact aG (fun a w hh=>⟨x193,v200,b195,c196,(n140+[v191].length),hF,(bS h194 q141),gR [0,1,2,3] hh⟩)
    refine bH ?_
    obtain rfl:=iQ hF
    exact qD Jj151 ⟨x137,b138,c139,n140,hRl150,q141,rfl,rfl⟩ [0,1,2,3]
   refine bH ?_
   obtain rfl:=iQ hF
   exact qD Jj126 ⟨x112,b113,c114,n115,hRl125,q116,rfl,rfl⟩ [0,1]
  refine go ?_ ?_
  refine uX rfl ?_
  refine iC (aK (aD (aJ (qA (iM cQ) 24 rfl ?_))))
  refine go ?_ ?_
  refine aL (aY (fun H E=>∃(x218:List (List Rat)),∃(b219:Option Nat),∃(c220:Nat),∃(n221:Nat),lO K x37 x218=some r∧x218.length=n221∧H=[hO (iM cQ) b219 c220 24 n221 x218,hO cQ b38 c39 42 n40 x37]∧E=[(9,.vc (pO b38 n40 c39)),(19,.vc (pO b219 n221 c220))]) ?_ (fun Jj225=>?_))
  ·rintro _ _ ⟨x218,b219,c220,n221,hF,q222,rfl,rfl⟩
   unfold lO at hF
   refine go ?_ ?_
   refine f9 (fU (mS 0 [4,19,162] rfl q222 ⟨rfl,rfl,rfl,trivial⟩ rfl ?_))
   refine mS 0 [5,9,163] rfl q41 ⟨rfl,rfl,rfl,trivial⟩ rfl ?_
   obtain rfl:=iQ hF
   exact iA (.inl rfl) Tryz.results10 (.tmp rfl (.tmp rfl .nil)) rfl rfl
  obtain⟨x218',hL,hRl224⟩:=aN hF
  refine eD (fun k a w=>∃(x211:List (List Rat)),∃(x217:Int),∃(b212:Option Nat),∃(c213:Nat),∃(n214:Nat),cM K v3 v5 x43 k x211 x217=some x218'∧x211.length=n214∧hs _ [hO (iM cQ) b212 c213 24 n214 x211,hO cQ b38 c39 42 n40 x37,hO (iM cQ) b44 c45 24 n46 x43] [(6,.vc (pI .i64 v3)),(7,.vc (pI .i64 v5)),(8,.vc (pO b44 n46 c45)),(9,.vc (pO b38 n40 c39)),(19,.vc (pO b212 n214 c213)),(20,.vc (pI .i64 x217))] a w) K (fun a w ⟨_,_,_,_,_,hF,_,_⟩=>by cases hF) (fun k a w ⟨x211,x217,b212,c213,n214,hF,q215,hh⟩=>eE ?_ hh) (fun a w hh=>⟨([]:List (List Rat)),0,none,0,0,hL,rfl,gR [0,1,2] hh⟩)
  rw [cM.eq_2] at hF
  refine go ?_ ?_
  refine aC hF rfl (fun h226 hF=>?_) (fun h226 hF=>?_)
  ·refine go ?_ ?_
   refine aL (aD (aJ (qA cQ 42 rfl ?_)))
   refine go ?_ ?_
   refine aL (aY (fun H E=>∃(x243:List Rat),∃(b244:Option Nat),∃(c245:Nat),∃(n246:Nat),lY K v5 x211 x217 (cM K v3 v5 x43 k) x243=some x218'∧x243.length=n246∧H=[hO cQ b244 c245 42 n246 x243,hO (iM cQ) b212 c213 24 n214 x211,hO cQ b38 c39 42 n40 x37,hO (iM cQ) b44 c45 24 n46 x43]∧E=[(6,.vc (pI .i64 v3)),(7,.vc (pI .i64 v5)),(8,.vc (pO b44 n46 c45)),(9,.vc (pO b38 n40 c39)),(19,.vc (pO b212 n214 c213)),(20,.vc (pI .i64 x217)),(21,.vc (pO b244 n246 c245))]) ?_ (fun Jj250=>?_))
   ·rintro _ _ ⟨x243,b244,c245,n246,hF,q247,rfl,rfl⟩
    unfold lY at hF
    refine go ?_ ?_
    refine aC hF rfl (fun h251 hF=>?_) (fun h251 hF=>?_)
    ·obtain⟨v254,h255,hF⟩:=aN hF
     obtain⟨v256,h257,hF⟩:=aX hF cX
     obtain⟨v258,h259,hF⟩:=aX hF sG
     have hF:=qV h255 hF
     refine dr [0,0,0,0,12,28,0,124,255,511] 9 1 ?_ (fun bs253 G252=>?_)
     obtain⟨x262,h263,hF⟩:=aN hF
     refine lG (wR 0 rfl rfl h255 h263 tyA42.s) zU2 ?_
     refine aV (aK (aJ (fJ ?_)))
     refine fJ ?_
     refine vY 0 [21,149,151,159] rfl (bD h263 q247) ⟨rfl,rfl,rfl,rfl,trivial⟩ rfl ?_
     refine aI (gJ (C:=(iM cQ)) (xs:=[.tmp 159]) (ps:=[.vc (pS cQ x262)]) (zs:=[x262]) rfl tyS23 rfl ⟨⟨trivial,rfl⟩,trivial⟩ rfl) zU1 ?_
     obtain⟨x265,h266,hF⟩:=aN hF
     refine k8 0 rfl tyS23 rfl rfl q215 rfl rfl h266 (fun b267 c268 H269 e270=>?_)
     cases e270
     obtain⟨v272,h273,hF⟩:=aN hF
     refine go ?_ ?_
     exact aG (fun a w hh=>⟨x265,v272,b267,c268,(n214+[x262].length),hF,(bS h266 q215),gR [0,1,2] hh⟩)
    refine iC (aK (aJ (fJ ?_)))
    refine fJ ?_
    refine vY 0 [21,159] rfl q247 zU2 rfl ?_
    refine aI (gJ (C:=(iM cQ)) (xs:=[.tmp 159]) (ps:=[.vc (pS cQ x243)]) (zs:=[x243]) rfl tyS23 rfl ⟨⟨trivial,rfl⟩,trivial⟩ rfl) zU1 ?_
    obtain⟨x274,h275,hF⟩:=aN hF
    refine k8 0 rfl tyS23 rfl rfl q215 rfl rfl h275 (fun b276 c277 H278 e279=>?_)
    cases e279
    obtain⟨v281,h282,hF⟩:=aN hF
    refine go ?_ ?_
    exact aG (fun a w hh=>⟨x274,v281,b276,c277,(n214+[x243].length),hF,(bS h275 q215),gR [0,1,2] hh⟩)
   obtain⟨x243',hL,hRl249⟩:=aN hF
   refine eD (fun k a w=>∃(x236:List Rat),∃(x242:Int),∃(b237:Option Nat),∃(c238:Nat),∃(n239:Nat),eW K v3 x43 x217 k x236 x242=some x243'∧x236.length=n239∧hs _ [hO cQ b237 c238 42 n239 x236,hO (iM cQ) b212 c213 24 n214 x211,hO cQ b38 c39 42 n40 x37,hO (iM cQ) b44 c45 24 n46 x43] [(6,.vc (pI .i64 v3)),(7,.vc (pI .i64 v5)),(8,.vc (pO b44 n46 c45)),(9,.vc (pO b38 n40 c39)),(19,.vc (pO b212 n214 c213)),(20,.vc (pI .i64 x217)),(21,.vc (pO b237 n239 c238)),(22,.vc (pI .i64 x242))] a w) K (fun a w ⟨_,_,_,_,_,hF,_,_⟩=>by cases hF) (fun k a w ⟨x236,x242,b237,c238,n239,hF,q240,hh⟩=>eE ?_ hh) (fun a w hh=>⟨([]:List Rat),0,none,0,0,hL,rfl,gR [0,1,2,3] hh⟩)
   rw [eW.eq_2] at hF
   refine go ?_ ?_
   refine aC hF rfl (fun h283 hF=>?_) (fun h283 hF=>?_)
   ·refine go ?_ ?_
    refine aL ?_
    obtain⟨v286,h287,hF⟩:=aN hF
    obtain⟨v288,h289,hF⟩:=aN hF
    obtain⟨v290,h291,hF⟩:=aX hF uV
    refine jJ [0,0,0,6,14,0,0,96,224,510,1022,2047,4095] 11 2 [.v (.vc (pO b237 n239 c238)),.v (.vc (pO b44 n46 c45)),.v (.vc (pI .i64 x217)),.v (.vc (pE b44 x217 (iM cQ).n 0)),.v (.vc (pS cQ v286)),.v (.vc (pO b44 n46 c45)),.v (.vc (pI .i64 x242)),.v (.vc (pE b44 x242 (iM cQ).n 0)),.v (.vc (pS cQ v288)),.v (.va (eQ v290)),.v (.vc (pS cQ [v290]))] bB ⟨d0 (aO (.inl rfl)) zU1,d0 (aO (.inl rfl)) zU1,d0 (aO (.inl rfl)) zU1,d0 (gU (C:=(iM cQ)) 3 rfl tyS23 rfl q47 (aH h287).1 (aH h287).2.1) zU2,d0 (l5 (k:=1) 3 rfl rfl h287 rfl (.one tyO24) rfl) zU1,d0 (aO (.inl rfl)) zU1,d0 (aO (.inl rfl)) zU1,d0 (gU (C:=(iM cQ)) 3 rfl tyS23 rfl q47 (aH h289).1 (aH h289).2.1) zU2,d0 (l5 (k:=1) 3 rfl rfl h289 rfl (.one tyO24) rfl) zU1,d0 (bK rfl h291 rfl) zU2,d0 (gJ (C:=cQ) (xs:=[.tmp 144]) (ps:=[.va (eQ v290)]) (zs:=[v290]) rfl tyS24 rfl ⟨⟨trivial,rfl⟩,trivial⟩ rfl) zU1,trivial⟩ (fun bs285 G284=>?_)
    obtain⟨x292,h293,hF⟩:=aN hF
    refine k8 0 rfl tyS24 rfl rfl q240 rfl rfl h293 (fun b294 c295 H296 e297=>?_)
    cases e297
    obtain⟨v299,h300,hF⟩:=aN hF
    refine go ?_ ?_
    exact aG (fun a w hh=>⟨x292,v299,b294,c295,(n239+[v290].length),hF,(bS h293 q240),gR [0,1,2,3] hh⟩)
   refine bH ?_
   obtain rfl:=iQ hF
   exact qD Jj250 ⟨x236,b237,c238,n239,hRl249,q240,rfl,rfl⟩ [0,1,2,3]
  refine bH ?_
  obtain rfl:=iQ hF
  exact qD Jj225 ⟨x211,b212,c213,n214,hRl224,q215,rfl,rfl⟩ [0,1]
 obtain⟨⟨x37',x43'⟩,hL,hRl49⟩:=aN hF
 refine eD (fun k a w=>∃(x24:List Rat),∃(x30:List (List Rat)),∃(x36:Int),∃(b25:Option Nat),∃(c26:Nat),∃(n27:Nat),∃(b31:Option Nat),∃(c32:Nat),∃(n33:Nat),dV K a0 v3 k x24 x30 x36=some (x37',x43')∧x24.length=n27∧x30.length=n33∧hs _ [hO cQ b25 c26 42 n27 x24,hO (iM cQ) b31 c32 24 n33 x30] [(0,.vc (pS cI a0)),(6,.vc (pI .i64 v3)),(7,.vc (pI .i64 v5)),(8,.vc (pO b31 n33 c32)),(9,.vc (pO b25 n27 c26)),(10,.vc (pI .i64 x36))] a w) K (fun a w ⟨_,_,_,_,_,_,_,_,_,hF,_,_,_⟩=>by cases hF) (fun k a w ⟨x24,x30,x36,b25,c26,n27,b31,c32,n33,hF,q28,q34,hh⟩=>eE ?_ hh) (fun a w hh=>⟨([]:List Rat),([]:List (List Rat)),0,none,0,0,none,0,0,hL,rfl,rfl,gR [0,1] hh⟩)
 rw [dV.eq_2] at hF
 refine go ?_ ?_
 refine aC hF rfl (fun h301 hF=>?_) (fun h301 hF=>?_)
 ·refine go ?_ ?_
  refine aL (aD (aJ (qA cQ 42 rfl ?_)))
  refine go ?_ ?_
  refine aL (aY (fun H E=>∃(x318:List Rat),∃(b319:Option Nat),∃(c320:Nat),∃(n321:Nat),lT K a0 x24 x30 x36 (dV K a0 v3 k) x318=some (x37',x43')∧x318.length=n321∧H=[hO cQ b319 c320 42 n321 x318,hO cQ b25 c26 42 n27 x24,hO (iM cQ) b31 c32 24 n33 x30]∧E=[(0,.vc (pS cI a0)),(6,.vc (pI .i64 v3)),(7,.vc (pI .i64 v5)),(8,.vc (pO b31 n33 c32)),(9,.vc (pO b25 n27 c26)),(10,.vc (pI .i64 x36)),(11,.vc (pO b319 n321 c320))]) ?_ (fun Jj325=>?_))
  ·rintro _ _ ⟨x318,b319,c320,n321,hF,q322,rfl,rfl⟩
   unfold lT at hF
   refine aK (aD (aJ (fJ ?_)))
   refine fJ ?_
   refine vY 0 [11,51] rfl q322 zU2 rfl ?_
   refine aI (gJ (C:=(iM cQ)) (xs:=[.tmp 51]) (ps:=[.vc (pS cQ x318)]) (zs:=[x318]) rfl tyS23 rfl ⟨⟨trivial,rfl⟩,trivial⟩ rfl) zU1 ?_
   obtain⟨x326,h327,hF⟩:=aN hF
   refine k8 1 rfl tyS23 rfl rfl q34 rfl rfl h327 (fun b328 c329 H330 e331=>?_)
   cases e331
   obtain⟨v333,h334,hF⟩:=aN hF
   obtain⟨v335,h336,hF⟩:=aX hF lW
   obtain⟨v337,h338,v339,h340,hF⟩:=tZ hF
   obtain⟨v341,h342,hF⟩:=aX hF lW
   obtain⟨v343,h344,hF⟩:=aN hF
   obtain⟨v345,h346,hF⟩:=aX hF cX
   refine go ?_ ?_
   refine aI (gJ (C:=cQ) (xs:=[.tmp 65]) (ps:=[.va (eQ v345)]) (zs:=[v345]) rfl tyS24 rfl ⟨⟨trivial,rfl⟩,trivial⟩ rfl) zU1 ?_
   obtain⟨x347,h348,hF⟩:=aN hF
   refine k8 0 rfl tyS24 rfl rfl q28 rfl rfl h348 (fun b349 c350 H351 e352=>?_)
   cases e352
   obtain⟨v354,h355,hF⟩:=aN hF
   refine go ?_ ?_
   exact aG (fun a w hh=>⟨x347,x326,v354,b349,c350,(n27+[v345].length),b328,c329,(n33+[x318].length),hF,(bS h348 q28),(bS h327 q34),gR [0,1] hh⟩)
  obtain⟨x318',hL,hRl324⟩:=aN hF
  refine eD (fun k a w=>∃(x311:List Rat),∃(x317:Int),∃(b312:Option Nat),∃(c313:Nat),∃(n314:Nat),eV K a0 v3 x36 k x311 x317=some x318'∧x311.length=n314∧hs _ [hO cQ b312 c313 42 n314 x311,hO cQ b25 c26 42 n27 x24,hO (iM cQ) b31 c32 24 n33 x30] [(0,.vc (pS cI a0)),(6,.vc (pI .i64 v3)),(7,.vc (pI .i64 v5)),(8,.vc (pO b31 n33 c32)),(9,.vc (pO b25 n27 c26)),(10,.vc (pI .i64 x36)),(11,.vc (pO b312 n314 c313)),(12,.vc (pI .i64 x317))] a w) K (fun a w ⟨_,_,_,_,_,hF,_,_⟩=>by cases hF) (fun k a w ⟨x311,x317,b312,c313,n314,hF,q315,hh⟩=>eE ?_ hh) (fun a w hh=>⟨([]:List Rat),0,none,0,0,hL,rfl,gR [0,1,2] hh⟩)
  rw [eV.eq_2] at hF
  refine go ?_ ?_
  refine aC hF rfl (fun h356 hF=>?_) (fun h356 hF=>?_)
  ·refine go ?_ ?_
   refine aL ?_
   obtain⟨v357,h358,v359,h360,v361,h362,hF⟩:=bn3 hF
   obtain⟨v363,h364,hF⟩:=aX hF lW
   obtain⟨v365,h366,hF⟩:=aX hF aAS
   refine go ?_ ?_
   refine aI (gJ (C:=cQ) (xs:=[.tmp 47]) (ps:=[.va (eQ v365)]) (zs:=[v365]) rfl tyS24 rfl ⟨⟨trivial,rfl⟩,trivial⟩ rfl) zU1 ?_
   obtain⟨x367,h368,hF⟩:=aN hF
   refine k8 0 rfl tyS24 rfl rfl q315 rfl rfl h368 (fun b369 c370 H371 e372=>?_)
   cases e372
   obtain⟨v374,h375,hF⟩:=aN hF
   refine go ?_ ?_
   exact aG (fun a w hh=>⟨x367,v374,b369,c370,(n314+[v365].length),hF,(bS h368 q315),gR [0,1,2] hh⟩)
  refine bH ?_
  obtain rfl:=iQ hF
  exact qD Jj325 ⟨x311,b312,c313,n314,hRl324,q315,rfl,rfl⟩ [0,1,2]
 refine bH ?_
 obtain⟨rfl,rfl⟩:=sm2 hF
 exact qD Jj50 ⟨x24,x30,b25,c26,n27,b31,c32,n33,hRl49,q28,q34,rfl,rfl⟩ [0,1]
def qN (K:Nat):Option Bool:=
 some true
def jO (K:Nat) (a0:List Rat):Nat→Int→Option (LR Bool Unit)
 |0,_=>none
 |k+1,x2=>bif(decide (x2<(a0.length:Int))) then((bN a0 x2).bind fun v6=>(aKq v6).bind fun v9=>bif(!v9) then(some (.ret false)) else((aR (x2+1)).bind fun v12=>jO K a0 k v12)) else(some (.go ()))
def kK (K:Nat) (a0:List Rat):Option Bool:=
 (jO K a0 K 0).bind fun o=>match o with| .ret r=>some r| .go _=>qN K
theorem sP {K:Nat} {a0:List Rat} {r:Bool} (hF:kK K a0=some r):Ct Tryz.prog 56 [.vc (pS cQ a0)] (.vc (pB r)):=by
 unfold kK at hF
 refine aA Tryz.func56 rfl (by kernel_rfl) Tryz.ntmps56 rfl (fun w0 M0=>?_)
 refine go ?_ ?_
 refine aL (aY (fun H E=>qN K=some r∧H=[]∧E=[]) ?_ (fun Jj4=>?_))
 ·rintro _ _ ⟨hF,rfl,rfl⟩
  unfold qN at hF
  exact bO
 obtain⟨ol3,hL,hRl3⟩:=aN hF
 refine eD (fun k a w=>∃(x2:Int),jO K a0 k x2=some ol3∧hs _ [] [(5,.vc (pS cQ a0)),(6,.vc (pI .i64 (a0.length:Int))),(7,.vc (pI .i64 x2))] a w) K (fun a w ⟨_,hF,_⟩=>by cases hF) (fun k a w ⟨x2,hF,hh⟩=>eE ?_ hh) (fun a w hh=>⟨0,hL,gR [] hh⟩)
 rw [jO.eq_2] at hF
 refine go ?_ ?_
 refine aC hF rfl (fun h5 hF=>?_) (fun h5 hF=>?_)
 ·refine go ?_ ?_
  refine aL ?_
  obtain⟨v6,h7,hF⟩:=aN hF
  refine go ?_ ?_
  refine aM rfl tyZ42q (fun b8=>?_)
  obtain⟨v9,h10,hF⟩:=aX hF aGO
  refine go ?_ ?_
  refine aC hF rfl (fun h11 hF=>?_) (fun h11 hF=>?_)
  ·exact bO
  obtain⟨v12,h13,hF⟩:=aN hF
  refine go ?_ ?_
  exact aG (fun a w hh=>⟨v12,hF,gR [] hh⟩)
 refine bH ?_
 obtain rfl:=iQ hF
 exact qD Jj4 ⟨hRl3,rfl,rfl⟩ []
def pU (K:Nat):Option Bool:=
 some true
def dR (K:Nat) (a0:List (List Rat)) (a1:List Rat):Nat→Int→Option (LR Bool Unit)
 |0,_=>none
 |k+1,x7=>bif(decide (x7<(a0.length:Int))) then((bN a0 x7).bind fun v11=>bif((v11.length:Int) != (a1.length:Int)) then(some (.ret false)) else((kK K v11).bind fun v14=>bif(!v14) then(some (.ret false)) else((aR (x7+1)).bind fun v17=>dR K a0 a1 k v17))) else(some (.go ()))
def dS (K:Nat) (a0:List (List Rat)) (a1:List Rat):Option Bool:=
 bif((a0.length:Int) != (a1.length:Int)) then(some false) else(bif(decide (32<(a0.length:Int))) then(some false) else((kK K a1).bind fun v3=>bif(!v3) then(some false) else((dR K a0 a1 K 0).bind fun o=>match o with| .ret r=>some r| .go _=>pU K)))
theorem rG {K:Nat} {a0:List (List Rat)} {a1:List Rat} {r:Bool} (hF:dS K a0 a1=some r):Ct Tryz.prog 43 [.vc (pS (iM cQ) a0),.vc (pS cQ a1)] (.vc (pB r)):=by
 unfold dS at hF
 refine aA Tryz.func43 rfl (by kernel_rfl) Tryz.ntmps43 rfl (fun w0 M0=>?_)
 refine go ?_ ?_
 refine cJ hF (fun h1 hF=>?_) (fun h1 hF=>?_)
 ·refine go ?_ ?_
  refine fE rfl ?_
  exact bO
 refine go ?_ ?_
 refine cJ hF (fun h2 hF=>?_) (fun h2 hF=>?_)
 ·refine go ?_ ?_
  refine fE rfl ?_
  exact bO
 obtain⟨v3,h4,hF⟩:=aX hF sP
 refine go ?_ ?_
 refine aC hF rfl (fun h5 hF=>?_) (fun h5 hF=>?_)
 ·exact bO
 refine go ?_ ?_
 refine aL (aY (fun H E=>pU K=some r∧H=[]∧E=[]) ?_ (fun Jj9=>?_))
 ·rintro _ _ ⟨hF,rfl,rfl⟩
  unfold pU at hF
  exact bO
 obtain⟨ol8,hL,hRl8⟩:=aN hF
 refine eD (fun k a w=>∃(x7:Int),dR K a0 a1 k x7=some ol8∧hs _ [] [(1,.vc (pS cQ a1)),(22,.vc (pS (iM cQ) a0)),(23,.vc (pI .i64 (a0.length:Int))),(24,.vc (pI .i64 x7))] a w) K (fun a w ⟨_,hF,_⟩=>by cases hF) (fun k a w ⟨x7,hF,hh⟩=>eE ?_ hh) (fun a w hh=>⟨0,hL,gR [] hh⟩)
 rw [dR.eq_2] at hF
 refine go ?_ ?_
 refine aC hF rfl (fun h10 hF=>?_) (fun h10 hF=>?_)
 ·refine go ?_ ?_
  refine aL ?_
  obtain⟨v11,h12,hF⟩:=aN hF
  refine go ?_ ?_
  refine cJ hF (fun h13 hF=>?_) (fun h13 hF=>?_)
  ·refine go ?_ ?_
   refine fE rfl ?_
   exact bO
  obtain⟨v14,h15,hF⟩:=aX hF sP
  refine go ?_ ?_
  refine aC hF rfl (fun h16 hF=>?_) (fun h16 hF=>?_)
  ·exact bO
  obtain⟨v17,h18,hF⟩:=aN hF
  refine go ?_ ?_
  exact aG (fun a w hh=>⟨v17,hF,gR [] hh⟩)
 refine bH ?_
 obtain rfl:=iQ hF
 exact qD Jj9 ⟨hRl8,rfl,rfl⟩ []
def m6 (K:Nat):Option Bool:=
 some false
def gG (K:Nat) (a0:List Rat):Nat→Int→Option (LR Bool Unit)
 |0,_=>none
 |k+1,x2=>bif(decide (x2<(a0.length:Int))) then((bN a0 x2).bind fun v6=>(xO v6).bind fun v9=>bif(decide (v9<0)) then(some (.ret true)) else((aR (x2+1)).bind fun v12=>gG K a0 k v12)) else(some (.go ()))
def gM (K:Nat) (a0:List Rat):Option Bool:=
 (gG K a0 K 0).bind fun o=>match o with| .ret r=>some r| .go _=>m6 K
theorem oP {K:Nat} {a0:List Rat} {r:Bool} (hF:gM K a0=some r):Ct Tryz.prog 45 [.vc (pS cQ a0)] (.vc (pB r)):=by
 unfold gM at hF
 refine aA Tryz.func45 rfl (by kernel_rfl) Tryz.ntmps45 rfl (fun w0 M0=>?_)
 refine go ?_ ?_
 refine aL (aY (fun H E=>m6 K=some r∧H=[]∧E=[]) ?_ (fun Jj4=>?_))
 ·rintro _ _ ⟨hF,rfl,rfl⟩
  unfold m6 at hF
  exact bO
 obtain⟨ol3,hL,hRl3⟩:=aN hF
 refine eD (fun k a w=>∃(x2:Int),gG K a0 k x2=some ol3∧hs _ [] [(5,.vc (pS cQ a0)),(6,.vc (pI .i64 (a0.length:Int))),(7,.vc (pI .i64 x2))] a w) K (fun a w ⟨_,hF,_⟩=>by cases hF) (fun k a w ⟨x2,hF,hh⟩=>eE ?_ hh) (fun a w hh=>⟨0,hL,gR [] hh⟩)
 rw [gG.eq_2] at hF
 refine go ?_ ?_
 refine aC hF rfl (fun h5 hF=>?_) (fun h5 hF=>?_)
 ·refine go ?_ ?_
  refine aL ?_
  obtain⟨v6,h7,hF⟩:=aN hF
  refine go ?_ ?_
  refine aM rfl tyZ42q (fun b8=>?_)
  obtain⟨v9,h10,hF⟩:=aX hF iG
  refine go ?_ ?_
  refine aC hF rfl (fun h11 hF=>?_) (fun h11 hF=>?_)
  ·exact bO
  obtain⟨v12,h13,hF⟩:=aN hF
  refine go ?_ ?_
  exact aG (fun a w hh=>⟨v12,hF,gR [] hh⟩)
 refine bH ?_
 obtain rfl:=iQ hF
 exact qD Jj4 ⟨hRl3,rfl,rfl⟩ []
def mB (K:Nat) (a1:List Rat) (x59:List Int) (x65:List Nat) (x71:List (List Rat)):Option (Int×(List Nat)×(List Int)×(List (List Rat))):=
 some ((a1.length:Int),x65,x59,x71)
def lR (K:Nat) (a1:List Rat) (x40:List Int) (x46:List Nat) (x52:List (List Rat)) (x58:Int) (recl77:(List Int)→(List Nat)→(List (List Rat))→Int→Option ((List Int)×(List Nat)×(List (List Rat)))) (x110:List Rat):Option ((List Int)×(List Nat)×(List (List Rat))):=
 (aR (2*(a1.length:Int))).bind fun v118=>(qof (-1) 1).bind fun v120=>(bN x110 v118).bind fun v122=>(pT x110 v118 v120).bind fun x124=>(aR (2*(a1.length:Int))).bind fun v127=>(aR (v127+1)).bind fun v129=>(bN a1 x58).bind fun v131=>(bN x124 v129).bind fun v133=>(pT x124 v129 v131).bind fun x135=>(sF x46 [x52.length]).bind fun x139=>(sF x40 [x58]).bind fun x146=>(aR (x58+1)).bind fun v153=>recl77 x146 x139 (x52++[x135]) v153
def eY (K:Nat) (a0:List (List Rat)) (a1:List Rat) (x58:Int):Nat→(List Rat)→Int→Option (List Rat)
 |0,_,_=>none
 |k+1,x103,x109=>bif(decide (x109<(a1.length:Int))) then((aR ((a1.length:Int)+x109)).bind fun v156=>(bN a0 x58).bind fun v158=>(bN v158 x109).bind fun v160=>(aB3 v160).bind fun v162=>(bN x103 v156).bind fun v164=>(pT x103 v156 v162).bind fun x166=>(aR (x109+1)).bind fun v169=>eY K a0 a1 x58 k x166 v169) else(some x103)
def dX (K:Nat) (a0:List (List Rat)) (a1:List Rat):Nat→(List Int)→(List Nat)→(List (List Rat))→Int→Option ((List Int)×(List Nat)×(List (List Rat)))
 |0,_,_,_,_=>none
 |k+1,x40,x46,x52,x58=>bif(decide (x58<(a1.length:Int))) then((aR (2*(a1.length:Int))).bind fun v80=>(aR (v80+2)).bind fun v82=>(yY v82 0).bind fun x84=>(qof 1 1).bind fun v89=>(bN x84 x58).bind fun v91=>(pT x84 x58 v89).bind fun x93=>(eY K a0 a1 x58 K x93 0).bind fun x110=>lR K a1 x40 x46 x52 x58 (dX K a0 a1 k) x110) else(some (x40,x46,x52))
def mG (K:Nat) (a0:List (List Rat)) (a1:List Rat):Option (Int×(List Nat)×(List Int)×(List (List Rat))):=
 (dX K a0 a1 K ([]:List Int) ([]:List Nat) ([]:List (List Rat)) 0).bind fun(x59,x65,x71)=>mB K a1 x59 x65 x71
theorem zT {K:Nat} {a0:List (List Rat)} {a1:List Rat} {r:Int×(List Nat)×(List Int)×(List (List Rat))} (hF:mG K a0 a1=some r):CtO Tryz.prog 44 [] [.vc (pS (iM cQ) a0),.vc (pS cQ a1)] (fun Ho q=>∃b1171 b1175 c1176 n1177 b1180 c1181 n1182 g1185 N1186,r.2.1.length=n1177∧r.2.2.1.length=n1182∧r.2.2.2.length=N1186∧dY g1185 r.2.2.2∧(∀k∈r.2.1,k<N1186)∧Ho=([⟨some b1171,1,72,3,1,([pI .i64 r.1]++[pO b1175 n1177 c1176]++[pO b1180 n1182 c1181])⟩,hO (cH g1185) b1175 c1176 24 n1177 r.2.1,hO cI b1180 c1181 3 n1182 r.2.2.1]++gA cQ 42 g1185 r.2.2.2)∧q=.vc (pP (some b1171) 0)):=by
 unfold mG at hF
 refine aA Tryz.func44 rfl (by kernel_rfl) Tryz.ntmps44 rfl (fun w0 M0=>?_)
 refine aD (aJ (aI (aO (p:=.any) (.inr rfl)) ⟨fun _=>trivial,trivial⟩ ?_))
 refine aV (aK (aD (aJ (fJ ?_))))
 refine aI (aHo rfl tyS24) zU1 ?_
 refine zM ?_
 refine aV (aK (aD (aJ (fJ ?_))))
 refine aGf cQ 42 ?_
 refine aCp (cH ([]:List rV)) 24 ?_
 refine aCp cI 3 ?_
 refine aI (eF (is:=[0]) (xs:=[.tmp 12]) (ps:=[.vc (pI .i64 (a1.length:Int))]) rfl tyB72_o1_o2q rfl rfl ⟨trivial,trivial⟩ rfl) zU1 ?_
 refine cG rfl rfl trivial (fun b20=>?_)
 refine go ?_ ?_
 refine aL (aY (fun H E=>∃(x59:List Int),∃(x65:List Nat),∃(x71:List (List Rat)),∃(b60:Option Nat),∃(c61:Nat),∃(n62:Nat),∃(b66:Option Nat),∃(c67:Nat),∃(n68:Nat),∃(g72:List rV),∃(N73:Nat),mB K a1 x59 x65 x71=some r∧x59.length=n62∧x65.length=n68∧x71.length=N73∧dY g72 x71∧(∀k∈x65,k<N73)∧H=([⟨some b20,1,72,3,1,([pI .i64 (a1.length:Int)]++[pO b66 n68 c67]++[pO b60 n62 c61])⟩,hO cI b60 c61 3 n62 x59,hO (cH g72) b66 c67 24 n68 x65]++gA cQ 42 g72 x71)∧E=[(6,.vc (pP (some b20) 0))]) ?_ (fun Jj78=>?_))
 ·rintro _ _ ⟨x59,x65,x71,b60,c61,n62,b66,c67,n68,g72,N73,hF,q63,q69,q74,q75,q76,rfl,rfl⟩
  unfold mB at hF
  refine go ?_ ?_
  refine f9 (fU ?_)
  obtain rfl:=iQ hF
  exact jX (.inl rfl) Tryz.results44 (.tmp rfl .nil) rfl 3 [0,2,1] rfl rfl (by decide) ⟨b20,b66,c67,n68,b60,c61,n62,g72,N73,q69,q63,q74,q75,q76,rfl,rfl⟩
 obtain⟨⟨x59',x65',x71'⟩,hL,hRl77⟩:=aN hF
 refine eD (fun k a w=>∃(x40:List Int),∃(x46:List Nat),∃(x52:List (List Rat)),∃(x58:Int),∃(b41:Option Nat),∃(c42:Nat),∃(n43:Nat),∃(b47:Option Nat),∃(c48:Nat),∃(n49:Nat),∃(g53:List rV),∃(N54:Nat),dX K a0 a1 k x40 x46 x52 x58=some (x59',x65',x71')∧x40.length=n43∧x46.length=n49∧x52.length=N54∧dY g53 x52∧(∀k∈x46,k<N54)∧hs _ ([⟨some b20,1,72,3,1,([pI .i64 (a1.length:Int)]++[pO b47 n49 c48]++[pO b41 n43 c42])⟩,hO cI b41 c42 3 n43 x40,hO (cH g53) b47 c48 24 n49 x46]++gA cQ 42 g53 x52) [(0,.vc (pS (iM cQ) a0)),(1,.vc (pS cQ a1)),(5,.vc (pI .i64 (a1.length:Int))),(6,.vc (pP (some b20) 0)),(15,.vc (pI .i64 (a1.length:Int))),(16,.vc (pI .i64 x58))] a w) K (fun a w ⟨_,_,_,_,_,_,_,_,_,_,_,_,hF,_,_,_,_,_,_⟩=>by cases hF) (fun k a w ⟨x40,x46,x52,x58,b41,c42,n43,b47,c48,n49,g53,N54,hF,q44,q50,q55,q56,q57,hh⟩=>eE ?_ hh) (fun a w hh=>⟨([]:List Int),([]:List Nat),([]:List (List Rat)),0,none,0,0,none,0,0,([]:List rV),0,hL,rfl,rfl,(rfl),aDm,(by simp),aU 3 [0,1,2] rfl rfl (by decide) (by exact⟨rfl,rfl,rfl,rfl,rfl,rfl,trivial⟩) hh⟩)
 rw [dX.eq_2] at hF
 refine go ?_ ?_
 refine aC hF rfl (fun h79 hF=>?_) (fun h79 hF=>?_)
 ·refine go ?_ ?_
  refine aL ?_
  obtain⟨v80,h81,v82,h83,x84,h85,hF⟩:=bn3 hF
  refine go ?_ ?_
  refine p9 (C:=cQ) rfl tyS24 rfl tyZ42q rfl h85 (fun b86=>?_)
  obtain⟨v89,h90,hF⟩:=aX hF sZ
  obtain⟨v91,h92,x93,h94,hF⟩:=tZ hF
  refine go ?_ ?_
  refine aL (aY (fun H E=>∃(x110:List Rat),lR K a1 x40 x46 x52 x58 (dX K a0 a1 k) x110=some (x59',x65',x71')∧x110.length=x84.length∧H=([hO cQ b86 x84.length 42 x84.length x110,⟨some b20,1,72,3,1,([pI .i64 (a1.length:Int)]++[pO b47 n49 c48]++[pO b41 n43 c42])⟩,hO cI b41 c42 3 n43 x40,hO (cH g53) b47 c48 24 n49 x46]++gA cQ 42 g53 x52)∧E=[(0,.vc (pS (iM cQ) a0)),(1,.vc (pS cQ a1)),(5,.vc (pI .i64 (a1.length:Int))),(6,.vc (pP (some b20) 0)),(7,.vc (pI .i64 x58)),(8,.vc (pO b86 x84.length x84.length)),(15,.vc (pI .i64 (a1.length:Int))),(16,.vc (pI .i64 x58))]) ?_ (fun Jj117=>?_))
  ·rintro _ _ ⟨x110,hF,q114,rfl,rfl⟩
   unfold lR at hF
   have hF:=qV h81 hF
   obtain⟨v120,h121,hF⟩:=aX hF sZ
   obtain⟨v122,h123,x124,h125,hF⟩:=tZ hF
   have hF:=qV h81 hF
   obtain⟨v129,h130,v131,h132,v133,h134,x135,h136,hF⟩:=bn4 hF
   refine go ?_ ?_
   refine aI (aMO (rs:=x52) rfl tyS23 q56.1 (show([hO cQ b86 x84.length 42 x84.length x135,⟨some b20,1,72,3,1,([pI .i64 (a1.length:Int)]++[pO b47 n49 c48]++[pO b41 n43 c42])⟩,hO cI b41 c42 3 n43 x40,hO (cH (g53++[(b86,x84.length,x84.length)])) b47 c48 24 n49 x46]++gA cQ 42 g53 x52)=([hO cQ b86 x84.length 42 x84.length x135,⟨some b20,1,72,3,1,([pI .i64 (a1.length:Int)]++[pO b47 n49 c48]++[pO b41 n43 c42])⟩,hO cI b41 c42 3 n43 x40,hO (cH g53) b47 c48 24 n49 x46]++gA cQ 42 g53 x52) from by rw [aFY (N:=x52.length) (b86,x84.length,x84.length) q56.1 (xS q55 q57)])) zU1 ?_
   refine aEG (g:=(b86,x84.length,x84.length)) 0 4 rfl rfl rfl q56 ?_
   refine aNJ 8 rfl (aML (N:=x52.length) (b86,x84.length,x84.length) q56.1) ?_
   obtain⟨x139,h140,hF⟩:=aN hF
   refine k8 2 rfl tyS23 rfl rfl q50 rfl rfl h140 (fun b141 c142 H143 e144=>?_)
   cases e144
   refine go ?_ ?_
   refine aI (gJ (C:=cI) (xs:=[.tmp 74]) (ps:=[.vc (pI .i64 x58)]) (zs:=[x58]) rfl tyS22 rfl ⟨⟨trivial,rfl⟩,trivial⟩ rfl) zU1 ?_
   obtain⟨x146,h147,hF⟩:=aN hF
   refine k8 1 rfl tyS22 rfl rfl q44 rfl rfl h147 (fun b148 c149 H150 e151=>?_)
   cases e151
   obtain⟨v153,h154,hF⟩:=aN hF
   refine go ?_ ?_
   exact aG (fun a w hh=>⟨x146,x139,(x52++[x135]),v153,b148,c149,(n43+[x58].length),b141,c142,(n49+[x52.length].length),(g53++[(b86,x84.length,x84.length)]),(N54+1),hF,(bS h147 q44),(bS h140 q50),(aCZ q55),(aAo q56 (bD h136 (bD h125 q114))),(aIa q57 q55 h140),aU 3 [0,1,2] rfl rfl (by decide) (by exact⟨rfl,rfl,rfl,rfl,rfl,rfl,trivial⟩) hh⟩)
  obtain⟨x110',hL,hRl116⟩:=aN hF
  refine eD (fun k a w=>∃(x103:List Rat),∃(x109:Int),eY K a0 a1 x58 k x103 x109=some x110'∧x103.length=x84.length∧hs _ ([hO cQ b86 x84.length 42 x84.length x103,⟨some b20,1,72,3,1,([pI .i64 (a1.length:Int)]++[pO b47 n49 c48]++[pO b41 n43 c42])⟩,hO cI b41 c42 3 n43 x40,hO (cH g53) b47 c48 24 n49 x46]++gA cQ 42 g53 x52) [(0,.vc (pS (iM cQ) a0)),(1,.vc (pS cQ a1)),(5,.vc (pI .i64 (a1.length:Int))),(6,.vc (pP (some b20) 0)),(7,.vc (pI .i64 x58)),(8,.vc (pO b86 x84.length x84.length)),(15,.vc (pI .i64 (a1.length:Int))),(16,.vc (pI .i64 x58)),(27,.vc (pI .i64 (a1.length:Int))),(28,.vc (pI .i64 x109))] a w) K (fun a w ⟨_,_,hF,_,_⟩=>by cases hF) (fun k a w ⟨x103,x109,hF,q107,hh⟩=>eE ?_ hh) (fun a w hh=>⟨x93,0,hL,(bD h94 rfl),aU 4 [0,1,2,3] rfl rfl (by decide) (by exact⟨rfl,rfl,rfl,rfl,rfl,rfl,rfl,rfl,rfl,rfl,trivial⟩) hh⟩)
  rw [eY.eq_2] at hF
  refine go ?_ ?_
  refine aC hF rfl (fun h155 hF=>?_) (fun h155 hF=>?_)
  ·refine go ?_ ?_
   refine aL ?_
   obtain⟨v156,h157,v158,h159,v160,h161,hF⟩:=bn3 hF
   obtain⟨v162,h163,hF⟩:=aX hF v0
   obtain⟨v164,h165,x166,h167,v169,h170,hF⟩:=bn3 hF
   refine go ?_ ?_
   exact aG (fun a w hh=>⟨x166,v169,hF,(bD h167 q107),aU 4 [0,1,2,3] rfl rfl (by decide) (by exact⟨rfl,rfl,rfl,rfl,rfl,rfl,rfl,rfl,rfl,rfl,trivial⟩) hh⟩)
  refine bH ?_
  obtain rfl:=iQ hF
  exact hU Jj117 ⟨x103,hRl116,q107,rfl,rfl⟩ 4 [0,1,2,3] rfl rfl ⟨rfl,rfl,rfl,rfl,rfl,rfl,rfl,rfl,trivial⟩
 refine bH ?_
 obtain⟨rfl,rfl,rfl⟩:=sm3 hF
 exact hU Jj78 ⟨x40,x46,x52,b41,c42,n43,b47,c48,n49,g53,N54,hRl77,q44,q50,q55,q56,q57,rfl,rfl⟩ 3 [0,1,2] rfl rfl zU1
def k9 (K:Nat) (x69:List Rat) (x75:List Rat):Option aF:=
 some (⟨x75,x69,0⟩:aF)
def bG (K:Nat) (a0:Int) (a1:List Nat) (a2:List Int) (a3:List (List Rat)):Nat→(List Rat)→(List Rat)→Int→Option ((List Rat)×(List Rat))
 |0,_,_,_=>none
 |k+1,x56,x62,x68=>bif(decide (x68<(a2.length:Int))) then((bN a2 x68).bind fun v84=>(bN a1 x68).bind fun v88=>(aR (2*a0)).bind fun v90=>(aR (v90+1)).bind fun v92=>(bN (a3.getD v88 []) v92).bind fun v94=>bif(decide (v84<a0)) then((bN x56 v84).bind fun v97=>(pT x56 v84 v94).bind fun x99=>(aR (x68+1)).bind fun v102=>bG K a0 a1 a2 a3 k x99 x62 v102) else((aR (2*a0)).bind fun v104=>bif(decide (v84<v104)) then((aR (v84-a0)).bind fun v109=>(bN x62 v109).bind fun v111=>(pT x62 v109 v94).bind fun x113=>(aR (x68+1)).bind fun v116=>bG K a0 a1 a2 a3 k x56 x113 v116) else((aR (x68+1)).bind fun v118=>bG K a0 a1 a2 a3 k x56 x62 v118))) else(some (x56,x62))
def eI (K:Nat) (a0:Int) (a1:List Nat) (a2:List Int) (a3:List (List Rat)):Option aF:=
 (yY a0 0).bind fun x23=>(yY a0 0).bind fun x27=>(bG K a0 a1 a2 a3 K x27 x23 0).bind fun(x69,x75)=>k9 K x69 x75
theorem qQ {K:Nat} {a0:Int} {a1:List Nat} {a2:List Int} {a3:List (List Rat)} {r:aF} (hF:eI K a0 a1 a2 a3=some r) {p0:Nat} {b4:Option Nat} {c5 n6:Nat} {b9:Option Nat} {c10 n11:Nat} {g14:List rV} {N15:Nat} (q7:a1.length=n6) (q12:a2.length=n11) (q16:a3.length=N15) (q17:dY g14 a3) (q18:∀k∈a1,k<N15):CtO Tryz.prog 46 ([⟨some p0,1,72,3,1,([pI .i64 a0]++[pO b4 n6 c5]++[pO b9 n11 c10])⟩,hO (cH g14) b4 c5 24 n6 a1,hO cI b9 c10 3 n11 a2]++gA cQ 42 g14 a3) [.vc (pP (some p0) 0)] (fun Ho q=>Ho=([⟨some p0,1,72,3,1,([pI .i64 a0]++[pO b4 n6 c5]++[pO b9 n11 c10])⟩,hO (cH g14) b4 c5 24 n6 a1,hO cI b9 c10 3 n11 a2]++gA cQ 42 g14 a3)∧q=.va (aF.enc r)):=by
 unfold eI at hF
 refine aA Tryz.func46 rfl (by kernel_rfl) Tryz.ntmps46 rfl (fun w0 M0=>?_)
 refine aD (aJ (aM rfl tyZ30q (fun b20=>?_)))
 obtain⟨x23,h24,hF⟩:=aN hF
 have hF:=qV h24 hF
 refine go ?_ ?_
 refine tI (HsM [(0,fun G21=>([⟨some b20,1,30,3,1,([pS cQ ([]:List Rat)]++[pS cQ ([]:List Rat)]++[pI .i64 0])⟩,⟨some p0,1,72,3,1,([pI .i64 a0]++[pO b4 n6 c5]++[pO b9 n11 c10])⟩,hO (cH g14) b4 c5 24 n6 a1,hO cI b9 c10 3 n11 a2]++gA cQ 42 g14 a3)),(1,fun G21=>([hO cQ ((G21 4).1) x23.length 42 x23.length x23,⟨some b20,1,30,3,1,([pS cQ ([]:List Rat)]++[pS cQ ([]:List Rat)]++[pI .i64 0])⟩,⟨some p0,1,72,3,1,([pI .i64 a0]++[pO b4 n6 c5]++[pO b9 n11 c10])⟩,hO (cH g14) b4 c5 24 n6 a1,hO cI b9 c10 3 n11 a2]++gA cQ 42 g14 a3)),(2,fun G21=>([hO cQ ((G21 9).1) x23.length 42 x23.length x23,⟨some b20,1,30,3,1,([pS cQ ([]:List Rat)]++[pS cQ ([]:List Rat)]++[pI .i64 0])⟩,⟨some p0,1,72,3,1,([pI .i64 a0]++[pO b4 n6 c5]++[pO b9 n11 c10])⟩,hO (cH g14) b4 c5 24 n6 a1,hO cI b9 c10 3 n11 a2]++gA cQ 42 g14 a3)),(3,fun G21=>([hO cQ ((G21 9).1) x23.length 42 x23.length x23,hO cQ ((G21 4).1) x23.length 42 x23.length x23,⟨some b20,1,30,3,1,([pS cQ ([]:List Rat)]++[pS cQ ([]:List Rat)]++[pI .i64 0])⟩,⟨some p0,1,72,3,1,([pI .i64 a0]++[pO b4 n6 c5]++[pO b9 n11 c10])⟩,hO (cH g14) b4 c5 24 n6 a1,hO cI b9 c10 3 n11 a2]++gA cQ 42 g14 a3)),(7,fun G21=>([hO cQ (dB (G21 10).2) x23.length 42 x23.length x23,hO cQ ((G21 10).1) x23.length 42 x23.length x23,⟨some b20,1,30,3,1,([pS cQ ([]:List Rat)]++[pS cQ ([]:List Rat)]++[pI .i64 0])⟩,⟨some p0,1,72,3,1,([pI .i64 a0]++[pO b4 n6 c5]++[pO b9 n11 c10])⟩,hO (cH g14) b4 c5 24 n6 a1,hO cI b9 c10 3 n11 a2]++gA cQ 42 g14 a3))]) [4,9,10] [0,1,3,7,15,0,32,96,224,480,1023,0,4095] 12 1 [.v (.vc (pP (some p0) 0)),.v (.vc (pP (some p0) 0)),.v (.vc (pP (some p0) 0)),.v (.vc (pI .i64 a0)),.g (fun b _=>.vc (pO b x23.length x23.length)),.v (.vc (pP (some p0) 0)),.v (.vc (pP (some p0) 0)),.v (.vc (pP (some p0) 0)),.v (.vc (pI .i64 a0)),.g (fun b _=>.vc (pO b x23.length x23.length)),.g (fun b c=>.va ([pO b x23.length x23.length]++[pO (dB c) x23.length x23.length]++[pI .i64 0])),.a 30 ([pS cQ ([]:List Rat)]++[pS cQ ([]:List Rat)]++[pI .i64 0])] bB ⟨⟨rfl,.run (L:=[0,2]) ⟨fun G21 A=>aO (.inl rfl),fun G21 A=>aO (.inl rfl),trivial⟩ (fun G21=>zU1)⟩,⟨rfl,.run (L:=[0,2]) ⟨fun G21 A=>qJ rfl,fun G21 A=>qJ rfl,trivial⟩ (fun G21=>zU1)⟩,⟨rfl,.run (L:=[0,2]) ⟨fun G21 A=>jW (off:=0) (k:=0) rfl tyF72_0,fun G21 A=>jW (off:=0) (k:=0) rfl tyF72_0,trivial⟩ (fun G21=>zU1)⟩,⟨rfl,.run (L:=[0,2]) ⟨fun G21 A=>iB 1 1 rfl rfl rfl rfl (.one tyO3),fun G21 A=>iB 2 1 rfl rfl rfl rfl (.one tyO3),trivial⟩ (fun G21=>zU1)⟩,⟨rfl,.hvy [0,2] ⟨fun G21 A=>xB (C:=cQ) rfl tyS24 rfl tyZ42q h24,fun G21 A=>aPv (R:=gA cQ 42 g14 a3) [1,0,2,3,4,5] (xB (C:=cQ) rfl tyS24 rfl tyZ42q h24) (fun b_ c_=>⟨[hO cQ (b_) x23.length 42 x23.length x23,hO cQ ((G21 9).1) x23.length 42 x23.length x23,⟨some b20,1,30,3,1,([pS cQ ([]:List Rat)]++[pS cQ ([]:List Rat)]++[pI .i64 0])⟩,⟨some p0,1,72,3,1,([pI .i64 a0]++[pO b4 n6 c5]++[pO b9 n11 c10])⟩,hO (cH g14) b4 c5 24 n6 a1,hO cI b9 c10 3 n11 a2],_,rfl,rfl,rfl⟩),trivial⟩ (fun G21=>zU1)⟩,⟨rfl,.run (L:=[0,1]) ⟨fun G21 A=>aO (.inl rfl),fun G21 A=>aO (.inl rfl),trivial⟩ (fun G21=>zU1)⟩,⟨rfl,.run (L:=[0,1]) ⟨fun G21 A=>qJ rfl,fun G21 A=>qJ rfl,trivial⟩ (fun G21=>zU1)⟩,⟨rfl,.run (L:=[0,1]) ⟨fun G21 A=>jW (off:=0) (k:=0) rfl tyF72_0,fun G21 A=>jW (off:=0) (k:=0) rfl tyF72_0,trivial⟩ (fun G21=>zU1)⟩,⟨rfl,.run (L:=[0,1]) ⟨fun G21 A=>iB 1 1 rfl rfl rfl rfl (.one tyO3),fun G21 A=>iB 2 1 rfl rfl rfl rfl (.one tyO3),trivial⟩ (fun G21=>zU1)⟩,⟨rfl,.hvy [0,1] ⟨fun G21 A=>xB (C:=cQ) rfl tyS24 rfl tyZ42q h24,fun G21 A=>xB (C:=cQ) rfl tyS24 rfl tyZ42q h24,trivial⟩ (fun G21=>zU1)⟩,⟨rfl,.hvy [3] ⟨fun G21 A=>aL4 (Post:=fun b_ x_=>([hO cQ x_ x23.length 42 x23.length x23,hO cQ b_ x23.length 42 x23.length x23,⟨some b20,1,30,3,1,([pS cQ ([]:List Rat)]++[pS cQ ([]:List Rat)]++[pI .i64 0])⟩,⟨some p0,1,72,3,1,([pI .i64 a0]++[pO b4 n6 c5]++[pO b9 n11 c10])⟩,hO (cH g14) b4 c5 24 n6 a1,hO cI b9 c10 3 n11 a2]++gA cQ 42 g14 a3)++A) (out:=fun b_ x_=>.va ([pO b_ x23.length x23.length]++[pO x_ x23.length x23.length]++[pI .i64 0])) ((G21 4).1) ((G21 9).1) (eF (is:=[0,1]) (xs:=[.tmp 11,.tmp 16]) (ps:=[.vc (pO ((G21 4).1) x23.length x23.length),.vc (pO ((G21 9).1) x23.length x23.length)]) rfl tyB30q rfl rfl ⟨trivial,trivial,trivial⟩ rfl),trivial⟩ (fun G21=>zU2)⟩,⟨rfl,.alc tyZ30q⟩,trivial⟩ (fun bs22 G21=>?_)
 refine go ?_ ?_
 refine aL (aY (fun H E=>∃(x69:List Rat),∃(x75:List Rat),k9 K x69 x75=some r∧x69.length=x23.length∧x75.length=x23.length∧H=([⟨some (bs22 11),1,30,3,1,([pO ((G21 10).1) x23.length x23.length]++[pO (dB (G21 10).2) x23.length x23.length]++[pI .i64 0])⟩,hO cQ (dB (G21 10).2) x23.length 42 x23.length x69,hO cQ ((G21 10).1) x23.length 42 x23.length x75,⟨some b20,1,30,3,1,([pS cQ ([]:List Rat)]++[pS cQ ([]:List Rat)]++[pI .i64 0])⟩,⟨some p0,1,72,3,1,([pI .i64 a0]++[pO b4 n6 c5]++[pO b9 n11 c10])⟩,hO (cH g14) b4 c5 24 n6 a1,hO cI b9 c10 3 n11 a2]++gA cQ 42 g14 a3)∧E=[(2,.vc (pP (some b20) 0)),(3,.vc (pP (some (bs22 11)) 0))]) ?_ (fun Jj82=>?_))
 ·rintro _ _ ⟨x69,x75,hF,q73,q79,rfl,rfl⟩
  unfold k9 at hF
  refine aK (aD (aJ (aDz 2 0 0 rfl q79 rfl rfl rfl rfl rfl ?_)))
  refine aDz 1 0 1 rfl q73 rfl rfl rfl rfl rfl ?_
  refine go ?_ ?_
  refine f9 (fU ?_)
  obtain rfl:=iQ hF
  exact jX (.inl rfl) Tryz.results46 (u8 1 3 rfl rfl rfl rfl (.agg tyA30) .nil) rfl 5 [2,3,4] rfl rfl (by decide) ⟨rfl,rfl⟩
 obtain⟨⟨x69',x75'⟩,hL,hRl81⟩:=aN hF
 refine eD (fun k a w=>∃(x56:List Rat),∃(x62:List Rat),∃(x68:Int),bG K a0 a1 a2 a3 k x56 x62 x68=some (x69',x75')∧x56.length=x23.length∧x62.length=x23.length∧hs _ ([⟨some (bs22 11),1,30,3,1,([pO ((G21 10).1) x23.length x23.length]++[pO (dB (G21 10).2) x23.length x23.length]++[pI .i64 0])⟩,hO cQ (dB (G21 10).2) x23.length 42 x23.length x56,hO cQ ((G21 10).1) x23.length 42 x23.length x62,⟨some b20,1,30,3,1,([pS cQ ([]:List Rat)]++[pS cQ ([]:List Rat)]++[pI .i64 0])⟩,⟨some p0,1,72,3,1,([pI .i64 a0]++[pO b4 n6 c5]++[pO b9 n11 c10])⟩,hO (cH g14) b4 c5 24 n6 a1,hO cI b9 c10 3 n11 a2]++gA cQ 42 g14 a3) [(0,.vc (pP (some p0) 0)),(2,.vc (pP (some b20) 0)),(3,.vc (pP (some (bs22 11)) 0)),(21,.vc (pO b9 n11 c10)),(22,.vc (pI .i64 (a2.length:Int))),(23,.vc (pI .i64 x68))] a w) K (fun a w ⟨_,_,_,hF,_,_,_⟩=>by cases hF) (fun k a w ⟨x56,x62,x68,hF,q60,q66,hh⟩=>eE ?_ hh) (fun a w hh=>⟨x23,x23,0,hL,rfl,rfl,aU 7 [0,1,2,3,4,5,6] rfl rfl (by decide) (by exact⟨rfl,rfl,rfl,rfl,rfl,rfl,trivial⟩) hh⟩)
 rw [bG.eq_2] at hF
 refine go ?_ ?_
 refine aC hF rfl (fun h83 hF=>?_) (fun h83 hF=>?_)
 ·refine go ?_ ?_
  refine aL ?_
  obtain⟨v84,h85,v88,h89,v90,h91,v92,h93,hF⟩:=bn4 hF
  obtain⟨v94,h95,hF⟩:=aN hF
  refine go ?_ ?_
  refine jJ [0,1,3,7,0,31,63,0,128,384,896,1920,3968,8191,16383,0,65535] 16 1 [.v (.vc (pP (some p0) 0)),.v (.vc (pP (some p0) 0)),.v (.vc (pP (some p0) 1)),.v (.vc (pO b4 n6 c5)),.v (.vc (pI .i64 x68)),.v (.vc (pE b4 x68 (cH g14).n 0)),.v (.vc (pO (iU g14 v88).1 (iU g14 v88).2.1 (iU g14 v88).2.2)),.v (.vc (pP (some p0) 0)),.v (.vc (pP (some p0) 0)),.v (.vc (pP (some p0) 0)),.v (.vc (pI .i64 a0)),.v (.vc (pI .i64 v90)),.v (.vc (pI .i64 v92)),.v (.vc (pE (iU g14 v88).1 v92 cQ.n 0)),.v (.va (eQ v94)),.a 42 (eQ 0)] bB ⟨d0 (aO (.inl rfl)) zU1,d0 (qJ rfl) zU1,d0 (jW (off:=0) (k:=1) rfl tyF72_1) zU1,d0 (iB 4 1 rfl rfl rfl rfl (.one tyO23)) zU1,d0 (aO (.inl rfl)) zU1,d0 (gU (C:=(cH g14)) 5 rfl tyS23 rfl q7 (aH h89).1 (aH h89).2.1) zU2,d0 (l5 (C:=(cH g14)) (k:=1) 5 rfl rfl h89 rfl (.one tyO24) rfl) zU1,d0 (aO (.inl rfl)) zU1,d0 (qJ rfl) zU1,d0 (jW (off:=0) (k:=0) rfl tyF72_0) zU1,d0 (iB 4 1 rfl rfl rfl rfl (.one tyO3)) zU1,d0 (aCD rfl h91) ⟨oK _ _,rfl,trivial⟩,d0 (yN rfl h93) ⟨rfl,oK _ _,trivial⟩,d0 (gU (7+v88) rfl tyS24 (kS 7 rfl q17 q16 (q18 _ (aT h89))) (fN q17 q16 (q18 _ (aT h89))) (aH h95).1 (aH h95).2.1) zU2,d0 (l5 (k:=4) (7+v88) rfl (kS 7 rfl q17 q16 (q18 _ (aT h89))) h95 rfl (.agg tyA42) rfl) zU1,⟨rfl,.alc tyZ42q⟩,trivial⟩ (fun bs87 G86=>?_)
  refine go ?_ ?_
  refine aL (go ?_ ?_)
  refine aC hF rfl (fun h96 hF=>?_) (fun h96 hF=>?_)
  ·obtain⟨v97,h98,x99,h100,v102,h103,hF⟩:=bn3 hF
   refine go ?_ ?_
   exact aG (fun a w hh=>⟨x99,x62,v102,hF,(bD h100 q60),q66,aU 8 [1,2,3,4,5,6,7] rfl rfl (by decide) (by exact⟨rfl,rfl,rfl,rfl,rfl,rfl,trivial⟩) hh⟩)
  have hF:=qV h91 hF
  refine go ?_ ?_
  refine aC hF rfl (fun h106 hF=>?_) (fun h106 hF=>?_)
  ·obtain⟨v109,h110,hF⟩:=aN hF
   obtain⟨v111,h112,hF⟩:=aN hF
   refine dr [0,1,0,0,8,24,56,124,0,511,1023] 10 1 ?_ (fun bs108 G107=>?_)
   obtain⟨x113,h114,v116,h117,hF⟩:=tZ hF
   refine go ?_ ?_
   exact aG (fun a w hh=>⟨x56,x113,v116,hF,q60,(bD h114 q66),aU 8 [1,2,3,4,5,6,7] rfl rfl (by decide) (by exact⟨rfl,rfl,rfl,rfl,rfl,rfl,trivial⟩) hh⟩)
  obtain⟨v118,h119,hF⟩:=aN hF
  refine go ?_ ?_
  exact aG (fun a w hh=>⟨x56,x62,v118,hF,q60,q66,aU 8 [1,2,3,4,5,6,7] rfl rfl (by decide) (by exact⟨rfl,rfl,rfl,rfl,rfl,rfl,trivial⟩) hh⟩)
 refine bH ?_
 obtain⟨rfl,rfl⟩:=sm2 hF
 exact hU Jj82 ⟨x56,x62,hRl81,q60,q66,rfl,rfl⟩ 7 [0,1,2,3,4,5,6] rfl rfl zU2
def jE (K:Nat):Option Bool:=
 some false
def dO (K:Nat) (a0:Int) (a1:Rat) (a2:Int) (a3:Rat) (a5:List Nat) (a7:List (List Rat)) (x23:Int) (recl24:Int→Option (LR Bool Unit)) (x28:Int):Option (LR Bool Unit):=
 (bN a5 a0).bind fun v32=>(bN (a7.getD v32 []) x28).bind fun v34=>(aDJ v34 a1).bind fun v36=>(bN a5 a2).bind fun v38=>(bN (a7.getD v38 []) x28).bind fun v40=>(aDJ v40 a3).bind fun v42=>(aID v36 v42).bind fun v44=>bif(v44 != 0) then(some (.ret (decide (v44<0)))) else((aR (x23+1)).bind fun v47=>recl24 v47)
def aQ (K:Nat) (a0:Int) (a1:Rat) (a2:Int) (a3:Rat) (a4:Int) (a5:List Nat) (a7:List (List Rat)):Nat→Int→Option (LR Bool Unit)
 |0,_=>none
 |k+1,x23=>bif(decide (x23<a4)) then(bif(decide (x23<0)) then((aR (2*a4)).bind fun v50=>(aR (v50+1)).bind fun v52=>dO K a0 a1 a2 a3 a5 a7 x23 (aQ K a0 a1 a2 a3 a4 a5 a7 k) v52) else(dO K a0 a1 a2 a3 a5 a7 x23 (aQ K a0 a1 a2 a3 a4 a5 a7 k) x23)) else(some (.go ()))
def dU (K:Nat) (a0:Int) (a1:Rat) (a2:Int) (a3:Rat) (a4:Int) (a5:List Nat) (a6:List Int) (a7:List (List Rat)):Option Bool:=
 (aQ K a0 a1 a2 a3 a4 a5 a7 K (-1)).bind fun o=>match o with| .ret r=>some r| .go _=>jE K
theorem rO {K:Nat} {a0:Int} {a1:Rat} {a2:Int} {a3:Rat} {a4:Int} {a5:List Nat} {a6:List Int} {a7:List (List Rat)} {r:Bool} (hF:dU K a0 a1 a2 a3 a4 a5 a6 a7=some r) {p0:Nat} {b4:Option Nat} {c5 n6:Nat} {b9:Option Nat} {c10 n11:Nat} {g14:List rV} {N15:Nat} (q7:a5.length=n6) (q12:a6.length=n11) (q16:a7.length=N15) (q17:dY g14 a7) (q18:∀k∈a5,k<N15):CtO Tryz.prog 48 ([⟨some p0,1,72,3,1,([pI .i64 a4]++[pO b4 n6 c5]++[pO b9 n11 c10])⟩,hO (cH g14) b4 c5 24 n6 a5,hO cI b9 c10 3 n11 a6]++gA cQ 42 g14 a7) [.vc (pP (some p0) 0),.vc (pI .i64 a0),.va (eQ a1),.vc (pI .i64 a2),.va (eQ a3)] (fun Ho q=>Ho=([⟨some p0,1,72,3,1,([pI .i64 a4]++[pO b4 n6 c5]++[pO b9 n11 c10])⟩,hO (cH g14) b4 c5 24 n6 a5,hO cI b9 c10 3 n11 a6]++gA cQ 42 g14 a7)∧q=.vc (pB r)):=by
 unfold dU at hF
 refine aA Tryz.func48 rfl (by kernel_rfl) Tryz.ntmps48 rfl (fun w0 M0=>?_)
 refine aD (aJ (cG rfl rfl trivial (fun b20=>?_)))
 refine cG rfl rfl trivial (fun b21=>?_)
 refine go ?_ ?_
 refine aL (aY (fun H E=>jE K=some r∧H=([⟨some p0,1,72,3,1,([pI .i64 a4]++[pO b4 n6 c5]++[pO b9 n11 c10])⟩,hO (cH g14) b4 c5 24 n6 a5,hO cI b9 c10 3 n11 a6]++gA cQ 42 g14 a7)∧E=[]) ?_ (fun Jj25=>?_))
 ·rintro _ _ ⟨hF,rfl,rfl⟩
  unfold jE at hF
  refine go ?_ ?_
  refine f9 (fU ?_)
  obtain rfl:=iQ hF
  exact jX (.inl rfl) Tryz.results48 (.tmp rfl .nil) rfl 3 [0,1,2] rfl rfl (by decide) ⟨rfl,rfl⟩
 obtain⟨ol24,hL,hRl24⟩:=aN hF
 refine eD (fun k a w=>∃(x23:Int),aQ K a0 a1 a2 a3 a4 a5 a7 k x23=some ol24∧hs _ ([⟨some b21,1,42,4,1,(eQ a3)⟩,⟨some b20,1,42,4,1,(eQ a1)⟩,⟨some p0,1,72,3,1,([pI .i64 a4]++[pO b4 n6 c5]++[pO b9 n11 c10])⟩,hO (cH g14) b4 c5 24 n6 a5,hO cI b9 c10 3 n11 a6]++gA cQ 42 g14 a7) [(0,.vc (pP (some p0) 0)),(1,.vc (pI .i64 a0)),(3,.vc (pI .i64 a2)),(7,.vc (pP (some b20) 0)),(9,.vc (pP (some b21) 0)),(11,.vc (pI .i64 x23))] a w) K (fun a w ⟨_,hF,_⟩=>by cases hF) (fun k a w ⟨x23,hF,hh⟩=>eE ?_ hh) (fun a w hh=>⟨(-1),hL,aU 5 [0,1,2,3,4] rfl rfl (by decide) (by exact⟨rfl,rfl,rfl,rfl,rfl,rfl,trivial⟩) hh⟩)
 rw [aQ.eq_2] at hF
 refine go ?_ ?_
 refine aC hF rfl (fun h26 hF=>?_) (fun h26 hF=>?_)
 ·refine go ?_ ?_
  refine aL (aD (aJ (fJ ?_)))
  refine zM ?_
  refine aV (aK (aD (zB (fun H E=>∃(x28:Int),dO K a0 a1 a2 a3 a5 a7 x23 (aQ K a0 a1 a2 a3 a4 a5 a7 k) x28=some ol24∧H=([⟨some b21,1,42,4,1,(eQ a3)⟩,⟨some b20,1,42,4,1,(eQ a1)⟩,⟨some p0,1,72,3,1,([pI .i64 a4]++[pO b4 n6 c5]++[pO b9 n11 c10])⟩,hO (cH g14) b4 c5 24 n6 a5,hO cI b9 c10 3 n11 a6]++gA cQ 42 g14 a7)∧E=[(0,.vc (pP (some p0) 0)),(1,.vc (pI .i64 a0)),(3,.vc (pI .i64 a2)),(7,.vc (pP (some b20) 0)),(9,.vc (pP (some b21) 0)),(11,.vc (pI .i64 x23)),(12,.vc (pI .i64 x28))]) ?_ (fun Jj29=>?_))))
  ·rintro _ _ ⟨x28,hF,rfl,rfl⟩
   unfold dO at hF
   refine aD ?_
   obtain⟨v32,h33,hF⟩:=aN hF
   obtain⟨v34,h35,hF⟩:=aN hF
   obtain⟨v36,h37,hF⟩:=aX hF yJ
   obtain⟨v38,h39,hF⟩:=aN hF
   obtain⟨v40,h41,hF⟩:=aN hF
   obtain⟨v42,h43,hF⟩:=aX hF yJ
   obtain⟨v44,h45,hF⟩:=aX hF aBe
   refine jJ (0::1::3::7::0::31::63::0::255::511::0::2047::0::4096::12288::28672::0::126976::258048::0::1044480::2093056::0::8388607::16777215::33554431::[]) 26 0 (.v (.vc (pP (some p0) 0))::.v (.vc (pP (some p0) 0))::.v (.vc (pP (some p0) 1))::.v (.vc (pO b4 n6 c5))::.v (.vc (pI .i64 a0))::.v (.vc (pE b4 a0 (cH g14).n 0))::.v (.vc (pO (iU g14 v32).1 (iU g14 v32).2.1 (iU g14 v32).2.2))::.v (.vc (pI .i64 x28))::.v (.vc (pE (iU g14 v32).1 x28 cQ.n 0))::.v (.va (eQ v34))::.v (.va (eQ a1))::.v (.va (eQ v36))::.v (.vc (pP (some p0) 0))::.v (.vc (pP (some p0) 0))::.v (.vc (pP (some p0) 1))::.v (.vc (pO b4 n6 c5))::.v (.vc (pI .i64 a2))::.v (.vc (pE b4 a2 (cH g14).n 0))::.v (.vc (pO (iU g14 v38).1 (iU g14 v38).2.1 (iU g14 v38).2.2))::.v (.vc (pI .i64 x28))::.v (.vc (pE (iU g14 v38).1 x28 cQ.n 0))::.v (.va (eQ v40))::.v (.va (eQ a3))::.v (.va (eQ v42))::.v (.vc (pI .i64 v44))::.v (.vc (pI .i64 v44))::[]) bB ⟨d0 (aO (.inl rfl)) zU1,d0 (qJ rfl) zU1,d0 (jW (off:=0) (k:=1) rfl tyF72_1) zU1,d0 (iB 2 1 rfl rfl rfl rfl (.one tyO23)) zU1,d0 (aO (.inl rfl)) zU1,d0 (gU (C:=(cH g14)) 3 rfl tyS23 rfl q7 (aH h33).1 (aH h33).2.1) zU2,d0 (l5 (C:=(cH g14)) (k:=1) 3 rfl rfl h33 rfl (.one tyO24) rfl) zU1,d0 (aO (.inl rfl)) zU1,d0 (gU (5+v32) rfl tyS24 (kS 5 rfl q17 q16 (q18 _ (aT h33))) (fN q17 q16 (q18 _ (aT h33))) (aH h35).1 (aH h35).2.1) zU2,d0 (l5 (k:=4) (5+v32) rfl (kS 5 rfl q17 q16 (q18 _ (aT h33))) h35 rfl (.agg tyA42) rfl) zU1,d0 (iB 1 4 rfl rfl rfl rfl (.agg tyA42)) zU1,d0 (bK rfl h37 rfl) zU2,d0 (aO (.inl rfl)) zU1,d0 (qJ rfl) zU1,d0 (jW (off:=0) (k:=1) rfl tyF72_1) zU1,d0 (iB 2 1 rfl rfl rfl rfl (.one tyO23)) zU1,d0 (aO (.inl rfl)) zU1,d0 (gU (C:=(cH g14)) 3 rfl tyS23 rfl q7 (aH h39).1 (aH h39).2.1) zU2,d0 (l5 (C:=(cH g14)) (k:=1) 3 rfl rfl h39 rfl (.one tyO24) rfl) zU1,d0 (aO (.inl rfl)) zU1,d0 (gU (5+v38) rfl tyS24 (kS 5 rfl q17 q16 (q18 _ (aT h39))) (fN q17 q16 (q18 _ (aT h39))) (aH h41).1 (aH h41).2.1) zU2,d0 (l5 (k:=4) (5+v38) rfl (kS 5 rfl q17 q16 (q18 _ (aT h39))) h41 rfl (.agg tyA42) rfl) zU1,d0 (iB 0 4 rfl rfl rfl rfl (.agg tyA42)) zU1,d0 (bK rfl h43 rfl) zU2,d0 (bK rfl h45 rfl) zU2,d0 (aO (.inr rfl)) zU1,trivial⟩ (fun bs31 G30=>?_)
   refine go ?_ ?_
   refine aC hF rfl (fun h46 hF=>?_) (fun h46 hF=>?_)
   ·refine go ?_ ?_
    refine f9 (fU ?_)
    obtain rfl:=iQ hF
    obtain rfl:=iQ hRl24
    exact jX (.inl rfl) Tryz.results48 (.tmp rfl .nil) rfl 5 [2,3,4] rfl rfl (by decide) ⟨rfl,rfl⟩
   obtain⟨v47,h48,hF⟩:=aN hF
   refine go ?_ ?_
   exact aG (fun a w hh=>⟨v47,hF,aU 5 [0,1,2,3,4] rfl rfl (by decide) (by exact⟨rfl,rfl,rfl,rfl,rfl,rfl,trivial⟩) hh⟩)
  refine go ?_ ?_
  refine aC hF rfl (fun h49 hF=>?_) (fun h49 hF=>?_)
  ·refine aJ (fJ ?_)
   refine aI (qJ rfl) zU1 ?_
   refine aI (jW (off:=0) (k:=0) rfl tyF72_0) zU1 ?_
   refine aI (iB 2 1 rfl rfl rfl rfl (.one tyO3)) zU1 ?_
   obtain⟨v50,h51,hF⟩:=aN hF
   refine aI (aCD rfl h51) ⟨oK _ _,rfl,trivial⟩ ?_
   obtain⟨v52,h53,hF⟩:=aN hF
   refine aI (yN rfl h53) ⟨rfl,oK _ _,trivial⟩ ?_
   refine zM ?_
   refine aV ?_
   exact hU Jj29 ⟨v52,hF,rfl,rfl⟩ 5 [0,1,2,3,4] rfl rfl ⟨rfl,rfl,rfl,rfl,rfl,rfl,rfl,trivial⟩
  refine iC ?_
  exact hU Jj29 ⟨x23,hF,rfl,rfl⟩ 5 [0,1,2,3,4] rfl rfl ⟨rfl,rfl,rfl,rfl,rfl,rfl,rfl,trivial⟩
 refine bH ?_
 obtain rfl:=iQ hF
 exact hU Jj25 ⟨hRl24,rfl,rfl⟩ 5 [2,3,4] rfl rfl trivial
def iS (K:Nat) (a0:Int) (a1:Int) (a4:List Int) (x57:List Nat) (x71:List (List Rat)):Option (Int×(List Nat)×(List Int)×(List (List Rat))):=
 (bN a4 a0).bind fun v77=>(bN a4 a0).bind fun v79=>(pT a4 a0 a1).bind fun x81=>some (v77,x57,x81,x71)
def iK (K:Nat) (x70:Int) (recl75:(List (List Rat))→Int→Option (List (List Rat))) (x108:List (List Rat)):Option (List (List Rat)):=
 (aR (x70+1)).bind fun v114=>recl75 x108 v114
def cA (K:Nat) (a5:List (List Rat)) (x66:List (List Rat)) (v85:Nat) (v87:Rat):Nat→(List (List Rat))→Int→Option (List (List Rat))
 |0,_,_=>none
 |k+1,x103,x107=>bif(decide (x107<((x66.getD v85 []).length:Int))) then((bN (x103.getD v85 []) x107).bind fun v119=>(bN (x103.getD a5.length []) x107).bind fun v121=>(aEs v87 v121).bind fun v123=>(aE7 v119 v123).bind fun v125=>(bN (x103.getD v85 []) x107).bind fun v127=>(pT (x103.getD v85 []) x107 v125).bind fun x129=>(aR (x107+1)).bind fun v132=>cA K a5 x66 v85 v87 k (x103.set v85 x129) v132) else(some x103)
def bA (K:Nat) (a0:Int) (a1:Int) (a5:List (List Rat)) (x57:List Nat):Nat→(List (List Rat))→Int→Option (List (List Rat))
 |0,_,_=>none
 |k+1,x66,x70=>bif(decide (x70<(x57.length:Int))) then((bN x57 x70).bind fun v85=>(bN (x66.getD v85 []) a1).bind fun v87=>bif(x70==a0) then((aR (x70+1)).bind fun v91=>bA K a0 a1 a5 x57 k x66 v91) else((xO v87).bind fun v93=>bif(v93==0) then((aR (x70+1)).bind fun v96=>bA K a0 a1 a5 x57 k x66 v96) else((cA K a5 x66 v85 v87 K x66 0).bind fun x108=>iK K x70 (bA K a0 a1 a5 x57 k) x108))) else(some x66)
def iR (K:Nat) (a0:Int) (a1:Int) (a3:List Nat) (a4:List Int) (a5:List (List Rat)) (x47:List Rat):Option (Int×(List Nat)×(List Int)×(List (List Rat))):=
 (bN a3 a0).bind fun v55=>(pT a3 a0 a5.length).bind fun x57=>(bA K a0 a1 a5 x57 K (a5++[x47]) 0).bind fun x71=>iS K a0 a1 a4 x57 x71
def cE (K:Nat) (a5:List (List Rat)) (x22:List Rat) (v27:Nat) (v30:Rat):Nat→(List Rat)→Int→Option (List Rat)
 |0,_,_=>none
 |k+1,x40,x46=>bif(decide (x46<((cpL x22 (a5.getD v27 [])).length:Int))) then((bN x40 x46).bind fun v137=>(aDJ v137 v30).bind fun v139=>(bN x40 x46).bind fun v141=>(pT x40 x46 v139).bind fun x143=>(aR (x46+1)).bind fun v146=>cE K a5 x22 v27 v30 k x143 v146) else(some x40)
def iE (K:Nat) (a0:Int) (a1:Int) (a2:Int) (a3:List Nat) (a4:List Int) (a5:List (List Rat)):Option (Int×(List Nat)×(List Int)×(List (List Rat))):=
 (bN a3 a0).bind fun v20=>(yY ((a5.getD v20 []).length:Int) 0).bind fun x22=>(bN a3 a0).bind fun v27=>(bN (cpL x22 (a5.getD v27 [])) a1).bind fun v30=>(cE K a5 x22 v27 v30 K (cpL x22 (a5.getD v27 [])) 0).bind fun x47=>iR K a0 a1 a3 a4 a5 x47
theorem vP {K:Nat} {a0:Int} {a1:Int} {a2:Int} {a3:List Nat} {a4:List Int} {a5:List (List Rat)} {r:Int×(List Nat)×(List Int)×(List (List Rat))} (hF:iE K a0 a1 a2 a3 a4 a5=some r) {p0:Nat} {b4:Option Nat} {c5 n6:Nat} {b9:Option Nat} {c10 n11:Nat} {g14:List rV} {N15:Nat} (q7:a3.length=n6) (q12:a4.length=n11) (q16:a5.length=N15) (q17:dY g14 a5) (q18:∀k∈a3,k<N15):CtO Tryz.prog 49 ([⟨some p0,1,72,3,1,([pI .i64 a2]++[pO b4 n6 c5]++[pO b9 n11 c10])⟩,hO (cH g14) b4 c5 24 n6 a3,hO cI b9 c10 3 n11 a4]++gA cQ 42 g14 a5) [.vc (pP (some p0) 0),.vc (pI .i64 a0),.vc (pI .i64 a1)] (fun Ho q=>∃b1148 c1149 n1150 g1155 N1156,r.2.1.length=n1150∧r.2.2.1.length=n11∧r.2.2.2.length=N1156∧dY g1155 r.2.2.2∧(∀k∈r.2.1,k<N1156)∧Ho=([⟨some p0,1,72,3,1,([pI .i64 a2]++[pO b1148 n1150 c1149]++[pO b9 n11 c10])⟩,hO (cH g1155) b1148 c1149 24 n1150 r.2.1,hO cI b9 c10 3 n11 r.2.2.1]++gA cQ 42 g1155 r.2.2.2)∧q=.vc (pI .i64 r.1)):=by
 unfold iE at hF
 refine aA Tryz.func49 rfl (by kernel_rfl) Tryz.ntmps49 rfl (fun w0 M0=>?_)
 obtain⟨v20,h21,hF⟩:=aN hF
 refine go ?_ ?_
 refine aI (aBV (C:=cQ) (xs:=(a5.getD v20 [])) (T:=42) rfl tyS24 (fN q17 q16 (q18 _ (aT h21)))) zU1 ?_
 obtain⟨x22,h23,hF⟩:=aN hF
 refine p9 (C:=cQ) rfl tyS24 rfl tyZ42q rfl h23 (fun b24=>?_)
 have hF:=qV h21 hF
 refine go ?_ ?_
 refine aI (aQH 0 (4+v20) rfl tyS24 rfl rfl (sW 4 rfl q17 q16 (q18 _ (aT h21))) (fN q17 q16 (q18 _ (aT h21))) rfl) zU2 ?_
 obtain⟨v30,h31,hF⟩:=aN hF
 refine go ?_ ?_
 refine aI (gU (C:=cQ) 0 rfl tyS24 rfl (aC2 rfl) (aH h31).1 (aH h31).2.1) zU2 ?_
 refine aI (l5 (k:=4) 0 rfl rfl h31 rfl (.agg tyA42) rfl) zU1 ?_
 refine aM rfl tyZ42q (fun b32=>?_)
 refine go ?_ ?_
 refine aI (aBV (C:=cQ) (xs:=(cpL x22 (a5.getD v20 []))) (T:=42) rfl tyS24 (aC2 rfl)) zU1 ?_
 refine go ?_ ?_
 refine aL (aY (fun H E=>∃(x47:List Rat),iR K a0 a1 a3 a4 a5 x47=some r∧x47.length=x22.length∧H=([hO cQ b24 x22.length 42 x22.length x47,⟨some p0,1,72,3,1,([pI .i64 a2]++[pO b4 n6 c5]++[pO b9 n11 c10])⟩,hO (cH g14) b4 c5 24 n6 a3,hO cI b9 c10 3 n11 a4]++gA cQ 42 g14 a5)∧E=[(0,.vc (pP (some p0) 0)),(1,.vc (pI .i64 a0)),(2,.vc (pI .i64 a1)),(7,.vc (pO b24 x22.length x22.length))]) ?_ (fun Jj54=>?_))
 ·rintro _ _ ⟨x47,hF,q51,rfl,rfl⟩
  unfold iR at hF
  refine aK (aD (aJ (fJ ?_)))
  refine aI (qJ rfl) zU1 ?_
  refine aI (jW (off:=0) (k:=1) rfl tyF72_1) zU1 ?_
  refine aI (iB 1 1 rfl rfl rfl rfl (.one tyO23)) zU1 ?_
  refine fJ ?_
  refine fJ ?_
  have hF:=qV h21 hF
  refine aI (gU (C:=(cH g14)) 2 rfl tyS23 rfl q7 (aH h21).1 (aH h21).2.1) zU2 ?_
  obtain⟨x57,h58,hF⟩:=aN hF
  refine aQN (show([hO cQ b24 x22.length 42 x22.length x47,⟨some p0,1,72,3,1,([pI .i64 a2]++[pO b4 n6 c5]++[pO b9 n11 c10])⟩,hO (cH (g14++[(b24,x22.length,x22.length)])) b4 c5 24 n6 a3,hO cI b9 c10 3 n11 a4]++gA cQ 42 g14 a5)=([hO cQ b24 x22.length 42 x22.length x47,⟨some p0,1,72,3,1,([pI .i64 a2]++[pO b4 n6 c5]++[pO b9 n11 c10])⟩,hO (cH g14) b4 c5 24 n6 a3,hO cI b9 c10 3 n11 a4]++gA cQ 42 g14 a5) from by rw [aFY (N:=a5.length) (b24,x22.length,x22.length) q17.1 (xS q16 q18)]) ?_
  refine lG (wR (C:=cH (g14++[(b24,x22.length,x22.length)])) (z':=a5.length) 2 rfl rfl h21 h58 tyO24.s (hq:=aMC (b24,x22.length,x22.length) q17.1)) zU2 ?_
  refine aEG (g:=(b24,x22.length,x22.length)) 0 4 rfl rfl rfl q17 ?_
  refine aNJ 7 rfl (aML (N:=a5.length) (b24,x22.length,x22.length) q17.1) ?_
  refine go ?_ ?_
  refine aL (aY (fun H E=>∃(x71:List (List Rat)),iS K a0 a1 a4 x57 x71=some r∧x71.length=(N15+1)∧dY (g14++[(b24,x22.length,x22.length)]) x71∧H=([⟨some p0,1,72,3,1,([pI .i64 a2]++[pO b4 n6 c5]++[pO b9 n11 c10])⟩,hO (cH (g14++[(b24,x22.length,x22.length)])) b4 c5 24 n6 x57,hO cI b9 c10 3 n11 a4]++gA cQ 42 (g14++[(b24,x22.length,x22.length)]) x71)∧E=[(0,.vc (pP (some p0) 0)),(1,.vc (pI .i64 a0)),(2,.vc (pI .i64 a1))]) ?_ (fun Jj76=>?_))
  ·rintro _ _ ⟨x71,hF,q72,q73,rfl,rfl⟩
   unfold iS at hF
   obtain⟨v77,h78,hF⟩:=aN hF
   have hF:=qV h78 hF
   obtain⟨x81,h82,hF⟩:=aN hF
   refine go ?_ ?_
   refine f9 (fU ?_)
   obtain rfl:=iQ hF
   exact jX (.inl rfl) Tryz.results49 (.tmp rfl .nil) rfl 3 [0,1,2] rfl rfl (by decide) ⟨b4,c5,n6,(g14++[(b24,x22.length,x22.length)]),(N15+1),(bD h58 q7),(bD h82 q12),q72,q73,(t5 q18 h58 q16),rfl,rfl⟩
  obtain⟨x71',hL,hRl75⟩:=aN hF
  refine eD (fun k a w=>∃(x66:List (List Rat)),∃(x70:Int),bA K a0 a1 a5 x57 k x66 x70=some x71'∧x66.length=(N15+1)∧dY (g14++[(b24,x22.length,x22.length)]) x66∧hs _ ([⟨some p0,1,72,3,1,([pI .i64 a2]++[pO b4 n6 c5]++[pO b9 n11 c10])⟩,hO (cH (g14++[(b24,x22.length,x22.length)])) b4 c5 24 n6 x57,hO cI b9 c10 3 n11 a4]++gA cQ 42 (g14++[(b24,x22.length,x22.length)]) x66) [(0,.vc (pP (some p0) 0)),(1,.vc (pI .i64 a0)),(2,.vc (pI .i64 a1)),(7,.vc (pO (iU (g14++[(b24,x22.length,x22.length)]) a5.length).1 (iU (g14++[(b24,x22.length,x22.length)]) a5.length).2.1 (iU (g14++[(b24,x22.length,x22.length)]) a5.length).2.2)),(62,.vc (pO b4 n6 c5)),(63,.vc (pI .i64 (x57.length:Int))),(64,.vc (pI .i64 x70))] a w) K (fun a w ⟨_,_,hF,_,_,_⟩=>by cases hF) (fun k a w ⟨x66,x70,hF,q67,q68,hh⟩=>eE ?_ hh) (fun a w hh=>⟨(a5++[x47]),0,hL,(aCZ q16),(aAo q17 q51),aU 3 [0,1,2] rfl rfl (by decide) (by exact⟨rfl,rfl,rfl,rfl,rfl,rfl,rfl,trivial⟩) hh⟩)
  rw [bA.eq_2] at hF
  refine go ?_ ?_
  refine aC hF rfl (fun h84 hF=>?_) (fun h84 hF=>?_)
  ·refine go ?_ ?_
   refine aL ?_
   obtain⟨v85,h86,v87,h88,hF⟩:=tZ hF
   refine go ?_ ?_
   refine aI (gU (3+v85) rfl tyS24 (sW 3 rfl q68 q67 ((t5 q18 h58 q16) _ (aT h86))) (fN q68 q67 ((t5 q18 h58 q16) _ (aT h86))) (aH h88).1 (aH h88).2.1) zU2 ?_
   refine aI (l5 (k:=4) (3+v85) rfl (sW 3 rfl q68 q67 ((t5 q18 h58 q16) _ (aT h86))) h88 rfl (.agg tyA42) rfl) zU1 ?_
   refine aM rfl tyZ42q (fun b89=>?_)
   refine go ?_ ?_
   refine cJ hF (fun h90 hF=>?_) (fun h90 hF=>?_)
   ·refine go ?_ ?_
    refine fE rfl ?_
    refine bH ?_
    obtain⟨v91,h92,hF⟩:=aN hF
    refine go ?_ ?_
    exact aG (fun a w hh=>⟨x66,v91,hF,q67,q68,aU 4 [1,2,3] rfl rfl (by decide) (by exact⟨rfl,rfl,rfl,rfl,rfl,rfl,rfl,trivial⟩) hh⟩)
   obtain⟨v93,h94,hF⟩:=aX hF iG
   refine go ?_ ?_
   refine aC hF rfl (fun h95 hF=>?_) (fun h95 hF=>?_)
   ·refine bH ?_
    obtain⟨v96,h97,hF⟩:=aN hF
    refine go ?_ ?_
    exact aG (fun a w hh=>⟨x66,v96,hF,q67,q68,aU 4 [1,2,3] rfl rfl (by decide) (by exact⟨rfl,rfl,rfl,rfl,rfl,rfl,rfl,trivial⟩) hh⟩)
   refine go ?_ ?_
   refine aI (aBV (C:=cQ) (xs:=(x66.getD v85 [])) (T:=42) rfl tyS24 (fN q68 q67 ((t5 q18 h58 q16) _ (aT h86)))) zU1 ?_
   refine go ?_ ?_
   refine aL (aY (fun H E=>∃(x108:List (List Rat)),iK K x70 (bA K a0 a1 a5 x57 k) x108=some x71'∧x108.length=(N15+1)∧dY (g14++[(b24,x22.length,x22.length)]) x108∧H=([⟨some p0,1,72,3,1,([pI .i64 a2]++[pO b4 n6 c5]++[pO b9 n11 c10])⟩,hO (cH (g14++[(b24,x22.length,x22.length)])) b4 c5 24 n6 x57,hO cI b9 c10 3 n11 a4]++gA cQ 42 (g14++[(b24,x22.length,x22.length)]) x108)∧E=[(0,.vc (pP (some p0) 0)),(1,.vc (pI .i64 a0)),(2,.vc (pI .i64 a1)),(7,.vc (pO (iU (g14++[(b24,x22.length,x22.length)]) a5.length).1 (iU (g14++[(b24,x22.length,x22.length)]) a5.length).2.1 (iU (g14++[(b24,x22.length,x22.length)]) a5.length).2.2)),(62,.vc (pO b4 n6 c5)),(63,.vc (pI .i64 (x57.length:Int))),(64,.vc (pI .i64 x70)),(77,.va (eQ v87)),(78,.vc (pI .i64 v93)),(79,.vc (pB (v93==0)))]) ?_ (fun Jj113=>?_))
   ·rintro _ _ ⟨x108,hF,q109,q110,rfl,rfl⟩
    unfold iK at hF
    obtain⟨v114,h115,hF⟩:=aN hF
    refine go ?_ ?_
    exact aG (fun a w hh=>⟨x108,v114,hF,q109,q110,aU 3 [0,1,2] rfl rfl (by decide) (by exact⟨rfl,rfl,rfl,rfl,rfl,rfl,rfl,trivial⟩) hh⟩)
   obtain⟨x108',hL,hRl112⟩:=aN hF
   refine eD (fun k a w=>∃(x103:List (List Rat)),∃(x107:Int),cA K a5 x66 v85 v87 k x103 x107=some x108'∧x103.length=(N15+1)∧dY (g14++[(b24,x22.length,x22.length)]) x103∧hs _ ([⟨some b89,1,42,4,1,(eQ v87)⟩,⟨some p0,1,72,3,1,([pI .i64 a2]++[pO b4 n6 c5]++[pO b9 n11 c10])⟩,hO (cH (g14++[(b24,x22.length,x22.length)])) b4 c5 24 n6 x57,hO cI b9 c10 3 n11 a4]++gA cQ 42 (g14++[(b24,x22.length,x22.length)]) x103) [(0,.vc (pP (some p0) 0)),(1,.vc (pI .i64 a0)),(2,.vc (pI .i64 a1)),(7,.vc (pO (iU (g14++[(b24,x22.length,x22.length)]) a5.length).1 (iU (g14++[(b24,x22.length,x22.length)]) a5.length).2.1 (iU (g14++[(b24,x22.length,x22.length)]) a5.length).2.2)),(11,.vc (pO (iU (g14++[(b24,x22.length,x22.length)]) v85).1 (iU (g14++[(b24,x22.length,x22.length)]) v85).2.1 (iU (g14++[(b24,x22.length,x22.length)]) v85).2.2)),(12,.vc (pP (some b89) 0)),(62,.vc (pO b4 n6 c5)),(63,.vc (pI .i64 (x57.length:Int))),(64,.vc (pI .i64 x70)),(77,.va (eQ v87)),(78,.vc (pI .i64 v93)),(79,.vc (pB (v93==0))),(82,.vc (pI .i64 ((x66.getD v85 []).length:Int))),(83,.vc (pI .i64 x107))] a w) K (fun a w ⟨_,_,hF,_,_,_⟩=>by cases hF) (fun k a w ⟨x103,x107,hF,q104,q105,hh⟩=>eE ?_ hh) (fun a w hh=>⟨x66,0,hL,q67,q68,aU 4 [0,1,2,3] rfl rfl (by decide) (by exact⟨rfl,rfl,rfl,rfl,rfl,rfl,rfl,rfl,rfl,rfl,rfl,rfl,rfl,rfl,trivial⟩) hh⟩)
   rw [cA.eq_2] at hF
   refine go ?_ ?_
   refine aC hF rfl (fun h116 hF=>?_) (fun h116 hF=>?_)
   ·refine go ?_ ?_
    refine aL ?_
    obtain⟨v119,h120,v121,h122,hF⟩:=tZ hF
    obtain⟨v123,h124,hF⟩:=aX hF yL
    obtain⟨v125,h126,hF⟩:=aX hF yB
    have hF:=qV h120 hF
    refine go ?_ ?_
    refine jJ [0,0,0,0,12,28,0,0,0,384,896,1984,4092,8191,16383] 14 1 [.v (.vc (pO (iU (g14++[(b24,x22.length,x22.length)]) v85).1 (iU (g14++[(b24,x22.length,x22.length)]) v85).2.1 (iU (g14++[(b24,x22.length,x22.length)]) v85).2.2)),.v (.vc (pI .i64 x107)),.v (.vc (pO (iU (g14++[(b24,x22.length,x22.length)]) v85).1 (iU (g14++[(b24,x22.length,x22.length)]) v85).2.1 (iU (g14++[(b24,x22.length,x22.length)]) v85).2.2)),.v (.vc (pI .i64 x107)),.v (.vc (pE (iU (g14++[(b24,x22.length,x22.length)]) v85).1 x107 cQ.n 0)),.v (.va (eQ v119)),.v (.va (eQ v87)),.v (.vc (pO (iU (g14++[(b24,x22.length,x22.length)]) a5.length).1 (iU (g14++[(b24,x22.length,x22.length)]) a5.length).2.1 (iU (g14++[(b24,x22.length,x22.length)]) a5.length).2.2)),.v (.vc (pI .i64 x107)),.v (.vc (pE (iU (g14++[(b24,x22.length,x22.length)]) a5.length).1 x107 cQ.n 0)),.v (.va (eQ v121)),.v (.va (eQ v123)),.v (.va (eQ v125)),.v (.vc (pE (iU (g14++[(b24,x22.length,x22.length)]) v85).1 x107 cQ.n 0))] bB ⟨d0 (aO (.inl rfl)) zU1,d0 (aO (.inl rfl)) zU1,d0 (aO (.inl rfl)) zU1,d0 (aO (.inl rfl)) zU1,d0 (gU (4+v85) rfl tyS24 (kS 4 rfl q105 q104 ((t5 q18 h58 q16) _ (aT h86))) (fN q105 q104 ((t5 q18 h58 q16) _ (aT h86))) (aH h120).1 (aH h120).2.1) zU2,d0 (l5 (k:=4) (4+v85) rfl (kS 4 rfl q105 q104 ((t5 q18 h58 q16) _ (aT h86))) h120 rfl (.agg tyA42) rfl) zU1,d0 (iB 0 4 rfl rfl rfl rfl (.agg tyA42)) zU1,d0 (aO (.inl rfl)) zU1,d0 (aO (.inl rfl)) zU1,d0 (gU (4+a5.length) rfl tyS24 (kS 4 rfl q105 q104 (aFX q16)) (fN q105 q104 (aFX q16)) (aH h122).1 (aH h122).2.1) zU2,d0 (l5 (k:=4) (4+a5.length) rfl (kS 4 rfl q105 q104 (aFX q16)) h122 rfl (.agg tyA42) rfl) zU1,d0 (bK rfl h124 rfl) zU2,d0 (bK rfl h126 rfl) zU2,d0 (gU (4+v85) rfl tyS24 (kS 4 rfl q105 q104 ((t5 q18 h58 q16) _ (aT h86))) (fN q105 q104 ((t5 q18 h58 q16) _ (aT h86))) (aH h120).1 (aH h120).2.1) zU2,trivial⟩ (fun bs118 G117=>?_)
    obtain⟨x129,h130,hF⟩:=aN hF
    refine lG (wR (H':=([⟨some b89,1,42,4,1,(eQ v87)⟩,⟨some p0,1,72,3,1,([pI .i64 a2]++[pO b4 n6 c5]++[pO b9 n11 c10])⟩,hO (cH (g14++[(b24,x22.length,x22.length)])) b4 c5 24 n6 x57,hO cI b9 c10 3 n11 a4]++gA cQ 42 (g14++[(b24,x22.length,x22.length)]) (x103.set v85 x129))) (4+v85) rfl (sW 4 rfl q105 q104 ((t5 q18 h58 q16) _ (aT h86))) h120 h130 tyA42.s (hH:=stN 4 rfl q105 q104 ((t5 q18 h58 q16) _ (aT h86)))) zU2 ?_
    obtain⟨v132,h133,hF⟩:=aN hF
    refine go ?_ ?_
    exact aG (fun a w hh=>⟨(x103.set v85 x129),v132,hF,(aCV q104),(aEN q105 q104 ((t5 q18 h58 q16) _ (aT h86)) (bD h130 rfl)),aU 4 [0,1,2,3] rfl rfl (by decide) (by exact⟨rfl,rfl,rfl,rfl,rfl,rfl,rfl,rfl,rfl,rfl,rfl,rfl,rfl,rfl,trivial⟩) hh⟩)
   refine bH ?_
   obtain rfl:=iQ hF
   exact hU Jj113 ⟨x103,hRl112,q104,q105,rfl,rfl⟩ 4 [1,2,3] rfl rfl ⟨rfl,rfl,rfl,rfl,rfl,rfl,rfl,rfl,rfl,rfl,trivial⟩
  refine bH ?_
  obtain rfl:=iQ hF
  exact hU Jj76 ⟨x66,hRl75,q67,q68,rfl,rfl⟩ 3 [0,1,2] rfl rfl ⟨rfl,rfl,rfl,trivial⟩
 obtain⟨x47',hL,hRl53⟩:=aN hF
 refine eD (fun k a w=>∃(x40:List Rat),∃(x46:Int),cE K a5 x22 v20 v30 k x40 x46=some x47'∧x40.length=x22.length∧hs _ ([⟨some b32,1,42,4,1,(eQ v30)⟩,hO cQ b24 x22.length 42 x22.length x40,⟨some p0,1,72,3,1,([pI .i64 a2]++[pO b4 n6 c5]++[pO b9 n11 c10])⟩,hO (cH g14) b4 c5 24 n6 a3,hO cI b9 c10 3 n11 a4]++gA cQ 42 g14 a5) [(0,.vc (pP (some p0) 0)),(1,.vc (pI .i64 a0)),(2,.vc (pI .i64 a1)),(7,.vc (pO b24 x22.length x22.length)),(8,.vc (pP (some b32) 0)),(38,.vc (pI .i64 ((cpL x22 (a5.getD v20 [])).length:Int))),(39,.vc (pI .i64 x46))] a w) K (fun a w ⟨_,_,hF,_,_⟩=>by cases hF) (fun k a w ⟨x40,x46,hF,q44,hh⟩=>eE ?_ hh) (fun a w hh=>⟨(cpL x22 (a5.getD v20 [])),0,hL,(aC2 rfl),aU 5 [0,1,2,3,4] rfl rfl (by decide) (by exact⟨rfl,rfl,rfl,rfl,rfl,rfl,rfl,trivial⟩) hh⟩)
 rw [cE.eq_2] at hF
 refine go ?_ ?_
 refine aC hF rfl (fun h134 hF=>?_) (fun h134 hF=>?_)
 ·refine go ?_ ?_
  refine aL ?_
  obtain⟨v137,h138,hF⟩:=aN hF
  obtain⟨v139,h140,hF⟩:=aX hF yJ
  have hF:=qV h138 hF
  refine go ?_ ?_
  refine dr [0,0,0,0,12,28,0,124,255,511] 9 1 ?_ (fun bs136 G135=>?_)
  obtain⟨x143,h144,v146,h147,hF⟩:=tZ hF
  refine go ?_ ?_
  exact aG (fun a w hh=>⟨x143,v146,hF,(bD h144 q44),aU 5 [0,1,2,3,4] rfl rfl (by decide) (by exact⟨rfl,rfl,rfl,rfl,rfl,rfl,rfl,trivial⟩) hh⟩)
 refine bH ?_
 obtain rfl:=iQ hF
 exact hU Jj54 ⟨x40,hRl53,q44,rfl,rfl⟩ 5 [1,2,3,4] rfl rfl ⟨rfl,rfl,rfl,rfl,trivial⟩
def sE (K:Nat):Option (aF×Int):=
 none
def nR (K:Nat) (x86:Int) (v90:Int×(List Nat)×(List Int)×(List (List Rat))) (x116:Int) (recl87:(List Nat)→(List Int)→(List (List Rat))→Int→Int→Int→Option (LR (aF×Int) Unit)) (x122:Int):Option (LR (aF×Int) Unit):=
 bif(decide (x122<0)) then(some (.ret ((⟨([]:List Rat),([]:List Rat),0⟩:aF),15))) else((aR (x86+1)).bind fun v126=>recl87 v90.2.1 v90.2.2.1 v90.2.2.2 x122 x116 v126)
def cU (K:Nat) (v6:Int×(List Nat)×(List Int)×(List (List Rat))) (v90:Int×(List Nat)×(List Int)×(List (List Rat))) (x116:Int):Nat→Int→Int→Option Int
 |0,_,_=>none
 |k+1,x120,x121=>bif(decide (x121<(v90.2.1.length:Int))) then((bN v90.2.1 x121).bind fun v129=>(bN (v90.2.2.2.getD v129 []) x116).bind fun v133=>(xO v133).bind fun v135=>bif(decide (0<v135)) then(bif(decide (x120<0)) then((aR (x121+1)).bind fun v139=>cU K v6 v90 x116 k x121 v139) else((bN (v90.2.2.2.getD v129 []) x116).bind fun v141=>(bN v90.2.1 x120).bind fun v143=>(bN (v90.2.2.2.getD v143 []) x116).bind fun v145=>(dU K x121 v141 x120 v145 v6.1 v90.2.1 v90.2.2.1 v90.2.2.2).bind fun v147=>bif v147 then((aR (x121+1)).bind fun v150=>cU K v6 v90 x116 k x121 v150) else((aR (x121+1)).bind fun v152=>cU K v6 v90 x116 k x120 v152))) else((aR (x121+1)).bind fun v154=>cU K v6 v90 x116 k x120 v154)) else(some x120)
def jK (K:Nat) (v6:Int×(List Nat)×(List Int)×(List (List Rat))) (x86:Int) (v90:Int×(List Nat)×(List Int)×(List (List Rat))) (recl87:(List Nat)→(List Int)→(List (List Rat))→Int→Int→Int→Option (LR (aF×Int) Unit)) (x116:Int):Option (LR (aF×Int) Unit):=
 (cU K v6 v90 x116 K (-1) 0).bind fun x122=>nR K x86 v90 x116 recl87 x122
def cL (K:Nat) (a2:Int) (v6:Int×(List Nat)×(List Int)×(List (List Rat))):Nat→(List Nat)→(List Int)→(List (List Rat))→Int→Int→Int→Option (LR (aF×Int) Unit)
 |0,_,_,_,_,_,_=>none
 |k+1,x66,x72,x78,x84,x85,x86=>bif(x86==a2) then(some (.ret ((⟨([]:List Rat),([]:List Rat),0⟩:aF),16))) else((iE K x84 x85 v6.1 x66 x72 x78).bind fun v90=>(aR (2*v6.1)).bind fun v105=>bif(v90.1==v105) then((eI K v6.1 v90.2.1 v90.2.2.1 v90.2.2.2).bind fun v108=>(aR (x86+1)).bind fun v111=>some (.ret ((⟨v108.z,v108.w,v111⟩:aF),0))) else((aR (v90.1+v6.1)).bind fun v113=>bif(decide (v6.1≤v90.1)) then((aR (v90.1-v6.1)).bind fun v157=>jK K v6 x86 v90 (cL K a2 v6 k) v157) else(jK K v6 x86 v90 (cL K a2 v6 k) v113)))
def oS (K:Nat) (a2:Int) (v6:Int×(List Nat)×(List Int)×(List (List Rat))) (x40:Int):Option (aF×Int):=
 (aR (2*v6.1)).bind fun v43=>(cL K a2 v6 K v6.2.1 v6.2.2.1 v6.2.2.2 x40 v43 0).bind fun o=>match o with| .ret r=>some r| .go _=>sE K
def fY (K:Nat) (v6:Int×(List Nat)×(List Int)×(List (List Rat))) (v33:Rat):Nat→Int→Int→Option Int
 |0,_,_=>none
 |k+1,x38,x39=>bif(decide (x39<v6.1)) then((dU K x39 v33 x38 v33 v6.1 v6.2.1 v6.2.2.1 v6.2.2.2).bind fun v160=>bif v160 then((aR (x39+1)).bind fun v163=>fY K v6 v33 k x39 v163) else((aR (x39+1)).bind fun v165=>fY K v6 v33 k x38 v165)) else(some x38)
def cP (K:Nat) (a0:List (List Rat)) (a1:List Rat) (a2:Int):Option (aF×Int):=
 (dS K a0 a1).bind fun v2=>bif(!v2) then(some ((⟨([]:List Rat),([]:List Rat),0⟩:aF),1)) else(bif(decide (a2<0)) then(some ((⟨([]:List Rat),([]:List Rat),0⟩:aF),1)) else((mG K a0 a1).bind fun v6=>(gM K a1).bind fun v28=>bif(!v28) then((eI K v6.1 v6.2.1 v6.2.2.1 v6.2.2.2).bind fun v31=>some (v31,0)) else((qof 1 1).bind fun v33=>(fY K v6 v33 K 0 0).bind fun x40=>oS K a2 v6 x40)))
theorem oI {K:Nat} {a0:List (List Rat)} {a1:List Rat} {a2:Int} {r:aF×Int} (hF:cP K a0 a1 a2=some r):Ct Tryz.prog 13 [.vc (pS (iM cQ) a0),.vc (pS cQ a1),.vc (pI .i64 a2)] (.t2 (.va (aF.enc r.1)) (.vc (pI .i64 r.2))):=by
 unfold cP at hF
 refine aA Tryz.func13 rfl (by kernel_rfl) Tryz.ntmps13 rfl (fun w0 M0=>?_)
 refine aD (aJ (aM rfl tyZ30q (fun b1=>?_)))
 obtain⟨v2,h3,hF⟩:=aX hF rG
 refine go ?_ ?_
 refine cJ hF (fun h4 hF=>?_) (fun h4 hF=>?_)
 ·refine go ?_ ?_
  refine fE rfl ?_
  refine aD (aJ (aI (eF (is:=[]) (xs:=[]) (ps:=[]) rfl tyB30q rfl rfl trivial rfl) trivial ?_))
  exact bO
 refine go ?_ ?_
 refine aC hF rfl (fun h5 hF=>?_) (fun h5 hF=>?_)
 ·refine aD (aJ (aI (eF (is:=[]) (xs:=[]) (ps:=[]) rfl tyB30q rfl rfl trivial rfl) trivial ?_))
  exact bO
 obtain⟨v6,h7,hF⟩:=aN hF
 refine go ?_ ?_
 refine aGJ [] [0] rfl (zT h7) zU2 rfl rfl (by decide) ?_
 rintro _ _ ⟨b8,b12,c13,n14,b17,c18,n19,g22,N23,q15,q20,q24,q25,q26,rfl,rfl⟩
 refine lK (jN [⟨some b8,1,72,3,1,([pI .i64 v6.1]++[pO b12 n14 c13]++[pO b17 n19 c18])⟩,hO (cH g22) b12 c13 24 n14 v6.2.1,hO cI b17 c18 3 n19 v6.2.2.1] (gA cQ 42 g22 v6.2.2.2) [⟨some b1,1,30,3,1,([pS cQ ([]:List Rat)]++[pS cQ ([]:List Rat)]++[pI .i64 0])⟩]) ?_
 obtain⟨v28,h29,hF⟩:=aX hF oP
 refine go ?_ ?_
 refine aC hF rfl (fun h30 hF=>?_) (fun h30 hF=>?_)
 ·obtain⟨v31,h32,hF⟩:=aN hF
  refine go ?_ ?_
  refine mW 4 [0,1,2] [3] rfl (qQ h32 q15 q20 q24 q25 q26) zU1 rfl rfl rfl (by decide) ?_
  rintro _ _ ⟨rfl,rfl⟩
  refine lK (jN [⟨some b8,1,72,3,1,([pI .i64 v6.1]++[pO b12 n14 c13]++[pO b17 n19 c18])⟩,hO (cH g22) b12 c13 24 n14 v6.2.1,hO cI b17 c18 3 n19 v6.2.2.1] (gA cQ 42 g22 v6.2.2.2) [⟨some b1,1,30,3,1,([pS cQ ([]:List Rat)]++[pS cQ ([]:List Rat)]++[pI .i64 0])⟩]) ?_
  exact bO
 obtain⟨v33,h34,hF⟩:=aX hF sZ
 refine go ?_ ?_
 refine aM rfl tyZ42q (fun b35=>?_)
 refine go ?_ ?_
 refine aL (aY (fun H E=>∃(x40:Int),oS K a2 v6 x40=some r∧H=([⟨some b8,1,72,3,1,([pI .i64 v6.1]++[pO b12 n14 c13]++[pO b17 n19 c18])⟩,hO (cH g22) b12 c13 24 n14 v6.2.1,hO cI b17 c18 3 n19 v6.2.2.1,⟨some b1,1,30,3,1,([pS cQ ([]:List Rat)]++[pS cQ ([]:List Rat)]++[pI .i64 0])⟩]++gA cQ 42 g22 v6.2.2.2)∧E=[(2,.vc (pI .i64 a2)),(6,.vc (pP (some b1) 0)),(8,.vc (pP (some b8) 0)),(10,.vc (pI .i64 x40))]) ?_ (fun Jj42=>?_))
 ·rintro _ _ ⟨x40,hF,rfl,rfl⟩
  unfold oS at hF
  obtain⟨v43,h44,hF⟩:=aN hF
  refine go ?_ ?_
  refine aL (aY (fun H E=>sE K=some r∧H=[]∧E=[]) ?_ (fun Jj88=>?_))
  ·rintro _ _ ⟨hF,rfl,rfl⟩
   unfold sE at hF
   cases hF
  obtain⟨ol87,hL,hRl87⟩:=aN hF
  refine eD (fun k a w=>∃(x66:List Nat),∃(x72:List Int),∃(x78:List (List Rat)),∃(x84:Int),∃(x85:Int),∃(x86:Int),∃(b67:Option Nat),∃(c68:Nat),∃(n69:Nat),∃(g79:List rV),∃(N80:Nat),cL K a2 v6 k x66 x72 x78 x84 x85 x86=some ol87∧x66.length=n69∧x72.length=n19∧x78.length=N80∧dY g79 x78∧(∀k∈x66,k<N80)∧hs _ ([⟨some b8,1,72,3,1,([pI .i64 v6.1]++[pO b67 n69 c68]++[pO b17 n19 c18])⟩,hO (cH g79) b67 c68 24 n69 x66,hO cI b17 c18 3 n19 x72,⟨some b1,1,30,3,1,([pS cQ ([]:List Rat)]++[pS cQ ([]:List Rat)]++[pI .i64 0])⟩]++gA cQ 42 g79 x78) [(2,.vc (pI .i64 a2)),(6,.vc (pP (some b1) 0)),(8,.vc (pP (some b8) 0)),(10,.vc (pI .i64 x84)),(12,.vc (pI .i64 x85)),(13,.vc (pI .i64 x86))] a w) K (fun a w ⟨_,_,_,_,_,_,_,_,_,_,_,hF,_,_,_,_,_,_⟩=>by cases hF) (fun k a w ⟨x66,x72,x78,x84,x85,x86,b67,c68,n69,g79,N80,hF,q70,q76,q81,q82,q83,hh⟩=>eE ?_ hh) (fun a w hh=>⟨v6.2.1,v6.2.2.1,v6.2.2.2,x40,v43,0,b12,c13,n14,g22,N23,hL,q15,q20,q24,q25,q26,aU 4 [0,1,2,3] rfl rfl (by decide) (by exact⟨rfl,rfl,rfl,rfl,rfl,rfl,trivial⟩) hh⟩)
  rw [cL.eq_2] at hF
  refine aD (aL (go ?_ ?_))
  refine aC hF rfl (fun h89 hF=>?_) (fun h89 hF=>?_)
  ·refine aD (aJ (aI (eF (is:=[]) (xs:=[]) (ps:=[]) rfl tyB30q rfl rfl trivial rfl) trivial ?_))
   exact bO
  obtain⟨v90,h91,hF⟩:=aN hF
  refine go ?_ ?_
  refine mW 4 [0,1,2] [3] rfl (vP h91 q70 q76 q81 q82 q83) ⟨rfl,rfl,rfl,trivial⟩ rfl rfl rfl (by decide) ?_
  rintro _ _ ⟨b92,c93,n94,g99,N100,q95,q97,q101,q102,q103,rfl,rfl⟩
  refine lK (jN [⟨some b8,1,72,3,1,([pI .i64 v6.1]++[pO b92 n94 c93]++[pO b17 n19 c18])⟩,hO (cH g99) b92 c93 24 n94 v90.2.1,hO cI b17 c18 3 n19 v90.2.2.1] (gA cQ 42 g99 v90.2.2.2) [⟨some b1,1,30,3,1,([pS cQ ([]:List Rat)]++[pS cQ ([]:List Rat)]++[pI .i64 0])⟩]) ?_
  have hF:=qV h44 hF
  refine go ?_ ?_
  refine aC hF rfl (fun h107 hF=>?_) (fun h107 hF=>?_)
  ·obtain⟨v108,h109,hF⟩:=aN hF
   refine go ?_ ?_
   refine mW 4 [0,1,2] [3] rfl (qQ h109 q95 q97 q101 q102 q103) zU1 rfl rfl rfl (by decide) ?_
   rintro _ _ ⟨rfl,rfl⟩
   refine lK (jN [⟨some b8,1,72,3,1,([pI .i64 v6.1]++[pO b92 n94 c93]++[pO b17 n19 c18])⟩,hO (cH g99) b92 c93 24 n94 v90.2.1,hO cI b17 c18 3 n19 v90.2.2.1] (gA cQ 42 g99 v90.2.2.2) [⟨some b1,1,30,3,1,([pS cQ ([]:List Rat)]++[pS cQ ([]:List Rat)]++[pI .i64 0])⟩]) ?_
   refine aM rfl tyZ30q (fun b110=>?_)
   obtain⟨v111,h112,hF⟩:=aN hF
   exact bO
  refine iC (aK (aD (aJ (fJ ?_))))
  refine fJ ?_
  refine aI (qJ rfl) zU1 ?_
  refine aI (jW (off:=0) (k:=0) rfl tyF72_0) zU1 ?_
  refine aI (iB 0 1 rfl rfl rfl rfl (.one tyO3)) zU1 ?_
  obtain⟨v113,h114,hF⟩:=aN hF
  refine aI (yN rfl h114) zU2 ?_
  refine zM ?_
  refine aV (aK (aD (zB (fun H E=>∃(x116:Int),jK K v6 x86 v90 (cL K a2 v6 k) x116=some ol87∧H=([⟨some b8,1,72,3,1,([pI .i64 v6.1]++[pO b92 n94 c93]++[pO b17 n19 c18])⟩,hO (cH g99) b92 c93 24 n94 v90.2.1,hO cI b17 c18 3 n19 v90.2.2.1,⟨some b1,1,30,3,1,([pS cQ ([]:List Rat)]++[pS cQ ([]:List Rat)]++[pI .i64 0])⟩]++gA cQ 42 g99 v90.2.2.2)∧E=[(2,.vc (pI .i64 a2)),(6,.vc (pP (some b1) 0)),(8,.vc (pP (some b8) 0)),(12,.vc (pI .i64 x116)),(13,.vc (pI .i64 x86))]) ?_ (fun Jj117=>?_))))
  ·rintro _ _ ⟨x116,hF,rfl,rfl⟩
   unfold jK at hF
   refine go ?_ ?_
   refine aL (aY (fun H E=>∃(x122:Int),nR K x86 v90 x116 (cL K a2 v6 k) x122=some ol87∧H=([⟨some b8,1,72,3,1,([pI .i64 v6.1]++[pO b92 n94 c93]++[pO b17 n19 c18])⟩,hO (cH g99) b92 c93 24 n94 v90.2.1,hO cI b17 c18 3 n19 v90.2.2.1,⟨some b1,1,30,3,1,([pS cQ ([]:List Rat)]++[pS cQ ([]:List Rat)]++[pI .i64 0])⟩]++gA cQ 42 g99 v90.2.2.2)∧E=[(2,.vc (pI .i64 a2)),(6,.vc (pP (some b1) 0)),(8,.vc (pP (some b8) 0)),(10,.vc (pI .i64 x122)),(12,.vc (pI .i64 x116)),(13,.vc (pI .i64 x86))]) ?_ (fun Jj124=>?_))
   ·rintro _ _ ⟨x122,hF,rfl,rfl⟩
    unfold nR at hF
    refine go ?_ ?_
    refine aC hF rfl (fun h125 hF=>?_) (fun h125 hF=>?_)
    ·refine aD (aJ (aI (eF (is:=[]) (xs:=[]) (ps:=[]) rfl tyB30q rfl rfl trivial rfl) trivial ?_))
     exact bO
    obtain⟨v126,h127,hF⟩:=aN hF
    refine go ?_ ?_
    exact aG (fun a w hh=>⟨v90.2.1,v90.2.2.1,v90.2.2.2,x122,x116,v126,b92,c93,n94,g99,N100,hF,q95,q97,q101,q102,q103,aU 4 [0,1,2,3] rfl rfl (by decide) (by exact⟨rfl,rfl,rfl,rfl,rfl,rfl,trivial⟩) hh⟩)
   obtain⟨x122',hL,hRl123⟩:=aN hF
   refine eD (fun k a w=>∃(x120:Int),∃(x121:Int),cU K v6 v90 x116 k x120 x121=some x122'∧hs _ ([⟨some b8,1,72,3,1,([pI .i64 v6.1]++[pO b92 n94 c93]++[pO b17 n19 c18])⟩,hO (cH g99) b92 c93 24 n94 v90.2.1,hO cI b17 c18 3 n19 v90.2.2.1,⟨some b1,1,30,3,1,([pS cQ ([]:List Rat)]++[pS cQ ([]:List Rat)]++[pI .i64 0])⟩]++gA cQ 42 g99 v90.2.2.2) [(2,.vc (pI .i64 a2)),(6,.vc (pP (some b1) 0)),(8,.vc (pP (some b8) 0)),(10,.vc (pI .i64 x120)),(12,.vc (pI .i64 x116)),(13,.vc (pI .i64 x86)),(100,.vc (pO b92 n94 c93)),(101,.vc (pI .i64 (v90.2.1.length:Int))),(102,.vc (pI .i64 x121))] a w) K (fun a w ⟨_,_,hF,_⟩=>by cases hF) (fun k a w ⟨x120,x121,hF,hh⟩=>eE ?_ hh) (fun a w hh=>⟨(-1),0,hL,aU 4 [0,1,2,3] rfl rfl (by decide) (by exact⟨rfl,rfl,rfl,rfl,rfl,rfl,rfl,rfl,rfl,trivial⟩) hh⟩)
   rw [cU.eq_2] at hF
   refine go ?_ ?_
   refine aC hF rfl (fun h128 hF=>?_) (fun h128 hF=>?_)
   ·refine go ?_ ?_
    refine aL ?_
    obtain⟨v129,h130,v133,h134,hF⟩:=tZ hF
    obtain⟨v135,h136,hF⟩:=aX hF iG
    refine go ?_ ?_
    rcases Bool.eq_false_or_eq_true (decide (0<v135)) with h137|h137
    ·have hF:=rT h137 hF
     rcases Bool.eq_false_or_eq_true (decide (x120<0)) with h138|h138
     ·have hF:=rT h138 hF
      refine jJ (0::0::3::7::15::31::63::127::255::511::1023::1023::1023::1023::13311::29695::1023::1023::132095::394239::918527::1023::4064255::8258559::1023::33424383::66978815::134217727::268435455::536870911::[]) 27 3 (.v (.vc (pO (iU g99 v129).1 (iU g99 v129).2.1 (iU g99 v129).2.2))::.v (.vc (pI .i64 x116))::.v (.vc (pE (iU g99 v129).1 x116 cQ.n 0))::.v (.va (eQ v133))::.v (.vc (pI .i64 v135))::.v (.vc (pB (decide (0<v135))))::.v (.vc (pB true))::.v (.vc (pI .i64 x120))::.v (.vc (pB (decide (x120<0))))::.v (.vc (pB true))::.v .un::.v .un::.v .un::.v .un::.v .un::.v .un::.v .un::.v .un::.v .un::.v .un::.v .un::.v .un::.v .un::.v .un::.v .un::.v .un::.v .un::[]) bB ⟨d0 (aO (.inl rfl)) zU1,d0 (aO (.inl rfl)) zU1,d0 (gU (4+v129) rfl tyS24 (kS 4 rfl q102 q101 (q103 _ (aT h130))) (fN q102 q101 (q103 _ (aT h130))) (aH h134).1 (aH h134).2.1) zU2,d0 (l5 (k:=4) (4+v129) rfl (kS 4 rfl q102 q101 (q103 _ (aT h130))) h134 rfl (.agg tyA42) rfl) zU1,d0 (bK rfl h136 rfl) zU1,d0 (aKl rfl) ⟨rfl,oK _ _,trivial⟩,d0 (mC (aO (.inl rfl)) h137) zU1,g0 (aO (.inl rfl)) zU1,g0 (aFW rfl) ⟨rfl,oK _ _,trivial⟩,g0 (mC (aO (.inl rfl)) h138) zU1,⟨rfl,.skipN⟩,⟨rfl,.skipN⟩,⟨rfl,.skipN⟩,⟨rfl,.skipN⟩,⟨rfl,.skipN⟩,⟨rfl,.skipN⟩,⟨rfl,.skipN⟩,⟨rfl,.skipN⟩,⟨rfl,.skipN⟩,⟨rfl,.skipN⟩,⟨rfl,.skipN⟩,⟨rfl,.skipN⟩,⟨rfl,.skipN⟩,⟨rfl,.skipN⟩,⟨rfl,.skipN⟩,⟨rfl,.skipN⟩,⟨rfl,.skipN⟩,trivial⟩ (fun bs132 G131=>?_)
      refine go ?_ ?_
      refine fE rfl ?_
      obtain⟨v139,h140,hF⟩:=aN hF
      refine go ?_ ?_
      exact aG (fun a w hh=>⟨x121,v139,hF,aU 4 [0,1,2,3] rfl rfl (by decide) (by exact⟨rfl,rfl,rfl,rfl,rfl,rfl,rfl,rfl,rfl,trivial⟩) hh⟩)
     have hF:=pX h138 hF
     have hF:=qV h134 hF
     obtain⟨v143,h144,hF⟩:=aN hF
     obtain⟨v145,h146,hF⟩:=aN hF
     refine jJ (0::0::3::7::15::31::63::127::255::511::1023::1023::1023::1023::13311::29695::1023::1023::132095::394239::918527::1023::4064255::8258559::1023::33424383::66978815::134217727::268435455::536870911::[]) 27 3 (.v (.vc (pO (iU g99 v129).1 (iU g99 v129).2.1 (iU g99 v129).2.2))::.v (.vc (pI .i64 x116))::.v (.vc (pE (iU g99 v129).1 x116 cQ.n 0))::.v (.va (eQ v133))::.v (.vc (pI .i64 v135))::.v (.vc (pB (decide (0<v135))))::.v (.vc (pB true))::.v (.vc (pI .i64 x120))::.v (.vc (pB (decide (x120<0))))::.v (.vc (pB false))::.v (.vc (pP (some b8) 0))::.v (.vc (pI .i64 x121))::.v (.vc (pO (iU g99 v129).1 (iU g99 v129).2.1 (iU g99 v129).2.2))::.v (.vc (pI .i64 x116))::.v (.vc (pE (iU g99 v129).1 x116 cQ.n 0))::.v (.va (eQ v133))::.v (.vc (pI .i64 x120))::.v (.vc (pP (some b8) 0))::.v (.vc (pP (some b8) 0))::.v (.vc (pP (some b8) 1))::.v (.vc (pO b92 n94 c93))::.v (.vc (pI .i64 x120))::.v (.vc (pE b92 x120 (cH g99).n 0))::.v (.vc (pO (iU g99 v143).1 (iU g99 v143).2.1 (iU g99 v143).2.2))::.v (.vc (pI .i64 x116))::.v (.vc (pE (iU g99 v143).1 x116 cQ.n 0))::.v (.va (eQ v145))::[]) bB ⟨d0 (aO (.inl rfl)) zU1,d0 (aO (.inl rfl)) zU1,d0 (gU (4+v129) rfl tyS24 (kS 4 rfl q102 q101 (q103 _ (aT h130))) (fN q102 q101 (q103 _ (aT h130))) (aH h134).1 (aH h134).2.1) zU2,d0 (l5 (k:=4) (4+v129) rfl (kS 4 rfl q102 q101 (q103 _ (aT h130))) h134 rfl (.agg tyA42) rfl) zU1,d0 (bK rfl h136 rfl) zU1,d0 (aKl rfl) ⟨rfl,oK _ _,trivial⟩,d0 (mC (aO (.inl rfl)) h137) zU1,g0 (aO (.inl rfl)) zU1,g0 (aFW rfl) ⟨rfl,oK _ _,trivial⟩,g0 (mC (aO (.inl rfl)) h138) zU1,g0 (aO (.inl rfl)) zU1,g0 (aO (.inl rfl)) zU1,g0 (aO (.inl rfl)) zU1,g0 (aO (.inl rfl)) zU1,g0 (gU (4+v129) rfl tyS24 (kS 4 rfl q102 q101 (q103 _ (aT h130))) (fN q102 q101 (q103 _ (aT h130))) (aH h134).1 (aH h134).2.1) zU2,g0 (l5 (k:=4) (4+v129) rfl (kS 4 rfl q102 q101 (q103 _ (aT h130))) h134 rfl (.agg tyA42) rfl) zU1,g0 (aO (.inl rfl)) zU1,g0 (aO (.inl rfl)) zU1,g0 (qJ rfl) zU1,g0 (jW (off:=0) (k:=1) rfl tyF72_1) zU1,g0 (iB 0 1 rfl rfl rfl rfl (.one tyO23)) zU1,g0 (aO (.inl rfl)) zU1,g0 (gU (C:=(cH g99)) 1 rfl tyS23 rfl q95 (aH h144).1 (aH h144).2.1) zU2,g0 (l5 (C:=(cH g99)) (k:=1) 1 rfl rfl h144 rfl (.one tyO24) rfl) zU1,g0 (aO (.inl rfl)) zU1,g0 (gU (4+v143) rfl tyS24 (kS 4 rfl q102 q101 (q103 _ (aT h144))) (fN q102 q101 (q103 _ (aT h144))) (aH h146).1 (aH h146).2.1) zU2,g0 (l5 (k:=4) (4+v143) rfl (kS 4 rfl q102 q101 (q103 _ (aT h144))) h146 rfl (.agg tyA42) rfl) zU1,trivial⟩ (fun bs132 G131=>?_)
     obtain⟨v147,h148,hF⟩:=aN hF
     refine vT (aKE 4 [0,1,2] [3] [0,1,2,3] rfl (rO h148 q95 q97 q101 q102 q103) rfl rfl rfl rfl (by decide) (by decide) rfl) ⟨rfl,rfl,rfl,rfl,rfl,trivial⟩ ?_
     refine go ?_ ?_
     refine aC hF rfl (fun h149 hF=>?_) (fun h149 hF=>?_)
     ·obtain⟨v150,h151,hF⟩:=aN hF
      refine go ?_ ?_
      exact aG (fun a w hh=>⟨x121,v150,hF,aU 4 [0,1,2,3] rfl rfl (by decide) (by exact⟨rfl,rfl,rfl,rfl,rfl,rfl,rfl,rfl,rfl,trivial⟩) hh⟩)
     obtain⟨v152,h153,hF⟩:=aN hF
     refine go ?_ ?_
     exact aG (fun a w hh=>⟨x120,v152,hF,aU 4 [0,1,2,3] rfl rfl (by decide) (by exact⟨rfl,rfl,rfl,rfl,rfl,rfl,rfl,rfl,rfl,trivial⟩) hh⟩)
    have hF:=pX h137 hF
    refine jJ (0::0::3::7::15::31::63::127::255::511::1023::1023::1023::1023::13311::29695::1023::1023::132095::394239::918527::1023::4064255::8258559::1023::33424383::66978815::134217727::268435455::536870911::[]) 27 3 (.v (.vc (pO (iU g99 v129).1 (iU g99 v129).2.1 (iU g99 v129).2.2))::.v (.vc (pI .i64 x116))::.v (.vc (pE (iU g99 v129).1 x116 cQ.n 0))::.v (.va (eQ v133))::.v (.vc (pI .i64 v135))::.v (.vc (pB (decide (0<v135))))::.v (.vc (pB false))::.v .un::.v .un::.v .un::.v .un::.v .un::.v .un::.v .un::.v .un::.v .un::.v .un::.v .un::.v .un::.v .un::.v .un::.v .un::.v .un::.v .un::.v .un::.v .un::.v .un::[]) bB ⟨d0 (aO (.inl rfl)) zU1,d0 (aO (.inl rfl)) zU1,d0 (gU (4+v129) rfl tyS24 (kS 4 rfl q102 q101 (q103 _ (aT h130))) (fN q102 q101 (q103 _ (aT h130))) (aH h134).1 (aH h134).2.1) zU2,d0 (l5 (k:=4) (4+v129) rfl (kS 4 rfl q102 q101 (q103 _ (aT h130))) h134 rfl (.agg tyA42) rfl) zU1,d0 (bK rfl h136 rfl) zU1,d0 (aKl rfl) ⟨rfl,oK _ _,trivial⟩,d0 (mC (aO (.inl rfl)) h137) zU1,⟨rfl,.skipN⟩,⟨rfl,.skipN⟩,⟨rfl,.skipN⟩,⟨rfl,.skipU⟩,⟨rfl,.skipU⟩,⟨rfl,.skipU⟩,⟨rfl,.skipU⟩,⟨rfl,.skipU⟩,⟨rfl,.skipU⟩,⟨rfl,.skipU⟩,⟨rfl,.skipU⟩,⟨rfl,.skipU⟩,⟨rfl,.skipU⟩,⟨rfl,.skipU⟩,⟨rfl,.skipU⟩,⟨rfl,.skipU⟩,⟨rfl,.skipU⟩,⟨rfl,.skipU⟩,⟨rfl,.skipU⟩,⟨rfl,.skipU⟩,trivial⟩ (fun bs132 G131=>?_)
    refine go ?_ ?_
    refine uX rfl ?_
    obtain⟨v154,h155,hF⟩:=aN hF
    refine go ?_ ?_
    exact aG (fun a w hh=>⟨x120,v154,hF,aU 4 [0,1,2,3] rfl rfl (by decide) (by exact⟨rfl,rfl,rfl,rfl,rfl,rfl,rfl,rfl,rfl,trivial⟩) hh⟩)
   refine bH ?_
   obtain rfl:=iQ hF
   exact hU Jj124 ⟨x120,hRl123,rfl,rfl⟩ 4 [0,1,2,3] rfl rfl ⟨rfl,rfl,rfl,rfl,rfl,rfl,trivial⟩
  refine go ?_ ?_
  refine aC hF rfl (fun h156 hF=>?_) (fun h156 hF=>?_)
  ·refine aJ (fJ ?_)
   refine fJ ?_
   refine aI (qJ rfl) zU1 ?_
   refine aI (jW (off:=0) (k:=0) rfl tyF72_0) zU1 ?_
   refine aI (iB 0 1 rfl rfl rfl rfl (.one tyO3)) zU1 ?_
   obtain⟨v157,h158,hF⟩:=aN hF
   refine aI (aI9 rfl h158) zU2 ?_
   refine zM ?_
   refine aV ?_
   exact hU Jj117 ⟨v157,hF,rfl,rfl⟩ 4 [0,1,2,3] rfl rfl ⟨rfl,rfl,rfl,rfl,rfl,trivial⟩
  refine iC ?_
  exact hU Jj117 ⟨v113,hF,rfl,rfl⟩ 4 [0,1,2,3] rfl rfl ⟨rfl,rfl,rfl,rfl,rfl,trivial⟩
 obtain⟨x40',hL,hRl41⟩:=aN hF
 refine eD (fun k a w=>∃(x38:Int),∃(x39:Int),fY K v6 v33 k x38 x39=some x40'∧hs _ ([⟨some b35,1,42,4,1,(eQ v33)⟩,⟨some b8,1,72,3,1,([pI .i64 v6.1]++[pO b12 n14 c13]++[pO b17 n19 c18])⟩,hO (cH g22) b12 c13 24 n14 v6.2.1,hO cI b17 c18 3 n19 v6.2.2.1,⟨some b1,1,30,3,1,([pS cQ ([]:List Rat)]++[pS cQ ([]:List Rat)]++[pI .i64 0])⟩]++gA cQ 42 g22 v6.2.2.2) [(2,.vc (pI .i64 a2)),(6,.vc (pP (some b1) 0)),(8,.vc (pP (some b8) 0)),(9,.vc (pP (some b35) 0)),(10,.vc (pI .i64 x38)),(39,.vc (pI .i64 v6.1)),(40,.vc (pI .i64 x39))] a w) K (fun a w ⟨_,_,hF,_⟩=>by cases hF) (fun k a w ⟨x38,x39,hF,hh⟩=>eE ?_ hh) (fun a w hh=>⟨0,0,hL,aU 5 [0,1,2,3,4] rfl rfl (by decide) (by exact⟨rfl,rfl,rfl,rfl,rfl,rfl,rfl,trivial⟩) hh⟩)
 rw [fY.eq_2] at hF
 refine go ?_ ?_
 refine aC hF rfl (fun h159 hF=>?_) (fun h159 hF=>?_)
 ·refine go ?_ ?_
  refine aL ?_
  obtain⟨v160,h161,hF⟩:=aN hF
  refine go ?_ ?_
  refine mW 5 [1,2,3] [0,4] rfl (rO h161 q15 q20 q24 q25 q26) ⟨rfl,rfl,rfl,rfl,rfl,trivial⟩ rfl rfl rfl (by decide) ?_
  rintro _ _ ⟨rfl,rfl⟩
  refine lK (jN [⟨some b8,1,72,3,1,([pI .i64 v6.1]++[pO b12 n14 c13]++[pO b17 n19 c18])⟩,hO (cH g22) b12 c13 24 n14 v6.2.1,hO cI b17 c18 3 n19 v6.2.2.1] (gA cQ 42 g22 v6.2.2.2) [⟨some b35,1,42,4,1,(eQ v33)⟩,⟨some b1,1,30,3,1,([pS cQ ([]:List Rat)]++[pS cQ ([]:List Rat)]++[pI .i64 0])⟩]) ?_
  refine aV (aK (aC hF rfl (fun h162 hF=>?_) (fun h162 hF=>?_)))
  ·obtain⟨v163,h164,hF⟩:=aN hF
   refine go ?_ ?_
   exact aG (fun a w hh=>⟨x39,v163,hF,aU 5 [3,0,1,2,4] rfl rfl (by decide) (by exact⟨rfl,rfl,rfl,rfl,rfl,rfl,rfl,trivial⟩) hh⟩)
  obtain⟨v165,h166,hF⟩:=aN hF
  refine go ?_ ?_
  exact aG (fun a w hh=>⟨x38,v165,hF,aU 5 [3,0,1,2,4] rfl rfl (by decide) (by exact⟨rfl,rfl,rfl,rfl,rfl,rfl,rfl,trivial⟩) hh⟩)
 refine bH ?_
 obtain rfl:=iQ hF
 exact hU Jj42 ⟨x38,hRl41,rfl,rfl⟩ 5 [1,2,3,4] rfl rfl ⟨rfl,rfl,rfl,rfl,trivial⟩
def pN (K:Nat):Option Bool:=
 some true
def jC (K:Nat) (a0:List Rat):Nat→Int→Option (LR Bool Unit)
 |0,_=>none
 |k+1,x2=>bif(decide (x2<(a0.length:Int))) then((bN a0 x2).bind fun v6=>(aKq v6).bind fun v8=>bif(!v8) then(some (.ret false)) else((aR (x2+1)).bind fun v11=>jC K a0 k v11)) else(some (.go ()))
def mN (K:Nat) (a0:List Rat):Option Bool:=
 (jC K a0 K 0).bind fun o=>match o with| .ret r=>some r| .go _=>pN K
theorem w4 {K:Nat} {a0:List Rat} {r:Bool} (hF:mN K a0=some r):Ct Tryz.prog 63 [.vc (pS cQ a0)] (.vc (pB r)):=by
 unfold mN at hF
 refine aA Tryz.func63 rfl (by kernel_rfl) Tryz.ntmps63 rfl (fun w0 M0=>?_)
 refine go ?_ ?_
 refine aL (aY (fun H E=>pN K=some r∧H=[]∧E=[]) ?_ (fun Jj4=>?_))
 ·rintro _ _ ⟨hF,rfl,rfl⟩
  unfold pN at hF
  exact bO
 obtain⟨ol3,hL,hRl3⟩:=aN hF
 refine eD (fun k a w=>∃(x2:Int),jC K a0 k x2=some ol3∧hs _ [] [(0,.vc (pS cQ a0)),(3,.vc (pI .i64 x2))] a w) K (fun a w ⟨_,hF,_⟩=>by cases hF) (fun k a w ⟨x2,hF,hh⟩=>eE ?_ hh) (fun a w hh=>⟨0,hL,gR [] hh⟩)
 rw [jC.eq_2] at hF
 refine go ?_ ?_
 refine aC hF rfl (fun h5 hF=>?_) (fun h5 hF=>?_)
 ·refine go ?_ ?_
  refine aL ?_
  obtain⟨v6,h7,hF⟩:=aN hF
  obtain⟨v8,h9,hF⟩:=aX hF aA2
  refine go ?_ ?_
  refine aC hF rfl (fun h10 hF=>?_) (fun h10 hF=>?_)
  ·exact bO
  obtain⟨v11,h12,hF⟩:=aN hF
  refine go ?_ ?_
  exact aG (fun a w hh=>⟨v11,hF,gR [] hh⟩)
 refine bH ?_
 obtain rfl:=iQ hF
 exact qD Jj4 ⟨hRl3,rfl,rfl⟩ []
def oV (K:Nat):Option Bool:=
 some true
def dH (K:Nat) (a0:List (List Rat)) (a1:List Rat):Nat→Int→Option (LR Bool Unit)
 |0,_=>none
 |k+1,x7=>bif(decide (x7<(a0.length:Int))) then((bN a0 x7).bind fun v11=>bif((v11.length:Int) != (a1.length:Int)) then(some (.ret false)) else((bN a0 x7).bind fun v14=>(mN K v14).bind fun v16=>bif(!v16) then(some (.ret false)) else((aR (x7+1)).bind fun v19=>dH K a0 a1 k v19))) else(some (.go ()))
def gQ (K:Nat) (a0:List (List Rat)) (a1:List Rat):Option Bool:=
 bif((a0.length:Int) != (a1.length:Int)) then(some false) else(bif(decide (32<(a1.length:Int))) then(some false) else((mN K a1).bind fun v3=>bif(!v3) then(some false) else((dH K a0 a1 K 0).bind fun o=>match o with| .ret r=>some r| .go _=>oV K)))
theorem aA4 {K:Nat} {a0:List (List Rat)} {a1:List Rat} {r:Bool} (hF:gQ K a0 a1=some r):Ct Tryz.prog 28 [.vc (pS (iM cQ) a0),.vc (pS cQ a1)] (.vc (pB r)):=by
 unfold gQ at hF
 refine aA Tryz.func28 rfl (by kernel_rfl) Tryz.ntmps28 rfl (fun w0 M0=>?_)
 refine go ?_ ?_
 refine cJ hF (fun h1 hF=>?_) (fun h1 hF=>?_)
 ·refine go ?_ ?_
  refine fE rfl ?_
  exact bO
 refine go ?_ ?_
 refine cJ hF (fun h2 hF=>?_) (fun h2 hF=>?_)
 ·refine go ?_ ?_
  refine fE rfl ?_
  exact bO
 obtain⟨v3,h4,hF⟩:=aX hF w4
 refine go ?_ ?_
 refine aC hF rfl (fun h5 hF=>?_) (fun h5 hF=>?_)
 ·exact bO
 refine go ?_ ?_
 refine aL (aY (fun H E=>oV K=some r∧H=[]∧E=[]) ?_ (fun Jj9=>?_))
 ·rintro _ _ ⟨hF,rfl,rfl⟩
  unfold oV at hF
  exact bO
 obtain⟨ol8,hL,hRl8⟩:=aN hF
 refine eD (fun k a w=>∃(x7:Int),dH K a0 a1 k x7=some ol8∧hs _ [] [(0,.vc (pS (iM cQ) a0)),(1,.vc (pS cQ a1)),(5,.vc (pI .i64 x7))] a w) K (fun a w ⟨_,hF,_⟩=>by cases hF) (fun k a w ⟨x7,hF,hh⟩=>eE ?_ hh) (fun a w hh=>⟨0,hL,gR [] hh⟩)
 rw [dH.eq_2] at hF
 refine go ?_ ?_
 refine aC hF rfl (fun h10 hF=>?_) (fun h10 hF=>?_)
 ·refine go ?_ ?_
  refine aL ?_
  obtain⟨v11,h12,hF⟩:=aN hF
  refine go ?_ ?_
  refine cJ hF (fun h13 hF=>?_) (fun h13 hF=>?_)
  ·refine go ?_ ?_
   refine fE rfl ?_
   exact bO
  have hF:=qV h12 hF
  obtain⟨v16,h17,hF⟩:=aX hF w4
  refine go ?_ ?_
  refine aC hF rfl (fun h18 hF=>?_) (fun h18 hF=>?_)
  ·exact bO
  obtain⟨v19,h20,hF⟩:=aN hF
  refine go ?_ ?_
  exact aG (fun a w hh=>⟨v19,hF,gR [] hh⟩)
 refine bH ?_
 obtain rfl:=iQ hF
 exact qD Jj9 ⟨hRl8,rfl,rfl⟩ []
def mA (K:Nat):Option Bool:=
 some false
def fO (K:Nat) (a0:List Rat):Nat→Int→Option (LR Bool Unit)
 |0,_=>none
 |k+1,x2=>bif(decide (x2<(a0.length:Int))) then((bN a0 x2).bind fun v6=>(xO v6).bind fun v8=>bif(decide (v8<0)) then(some (.ret true)) else((aR (x2+1)).bind fun v11=>fO K a0 k v11)) else(some (.go ()))
def lJ (K:Nat) (a0:List Rat):Option Bool:=
 (fO K a0 K 0).bind fun o=>match o with| .ret r=>some r| .go _=>mA K
theorem zR {K:Nat} {a0:List Rat} {r:Bool} (hF:lJ K a0=some r):Ct Tryz.prog 33 [.vc (pS cQ a0)] (.vc (pB r)):=by
 unfold lJ at hF
 refine aA Tryz.func33 rfl (by kernel_rfl) Tryz.ntmps33 rfl (fun w0 M0=>?_)
 refine go ?_ ?_
 refine aL (aY (fun H E=>mA K=some r∧H=[]∧E=[]) ?_ (fun Jj4=>?_))
 ·rintro _ _ ⟨hF,rfl,rfl⟩
  unfold mA at hF
  exact bO
 obtain⟨ol3,hL,hRl3⟩:=aN hF
 refine eD (fun k a w=>∃(x2:Int),fO K a0 k x2=some ol3∧hs _ [] [(0,.vc (pS cQ a0)),(3,.vc (pI .i64 x2))] a w) K (fun a w ⟨_,hF,_⟩=>by cases hF) (fun k a w ⟨x2,hF,hh⟩=>eE ?_ hh) (fun a w hh=>⟨0,hL,gR [] hh⟩)
 rw [fO.eq_2] at hF
 refine go ?_ ?_
 refine aC hF rfl (fun h5 hF=>?_) (fun h5 hF=>?_)
 ·refine go ?_ ?_
  refine aL ?_
  obtain⟨v6,h7,hF⟩:=aN hF
  obtain⟨v8,h9,hF⟩:=aX hF wZ
  refine go ?_ ?_
  refine aC hF rfl (fun h10 hF=>?_) (fun h10 hF=>?_)
  ·exact bO
  obtain⟨v11,h12,hF⟩:=aN hF
  refine go ?_ ?_
  exact aG (fun a w hh=>⟨v11,hF,gR [] hh⟩)
 refine bH ?_
 obtain rfl:=iQ hF
 exact qD Jj4 ⟨hRl3,rfl,rfl⟩ []
def nX (K:Nat):Option Bool:=
 some false
def fF (K:Nat) (a0:List Rat) (a1:List Rat):Nat→Int→Option (LR Bool Unit)
 |0,_=>none
 |k+1,x2=>bif(decide (x2<(a0.length:Int))) then(bif(decide (x2<(a1.length:Int))) then((bN a0 x2).bind fun v9=>(bN a1 x2).bind fun v11=>(aID v9 v11).bind fun v13=>bif(v13 != 0) then(some (.ret (decide (v13<0)))) else((aR (x2+1)).bind fun v16=>fF K a0 a1 k v16)) else(some (.go ()))) else(some (.go ()))
def jU (K:Nat) (a0:List Rat) (a1:List Rat):Option Bool:=
 (fF K a0 a1 K 0).bind fun o=>match o with| .ret r=>some r| .go _=>nX K
theorem vS {K:Nat} {a0:List Rat} {a1:List Rat} {r:Bool} (hF:jU K a0 a1=some r):Ct Tryz.prog 51 [.vc (pS cQ a0),.vc (pS cQ a1)] (.vc (pB r)):=by
 unfold jU at hF
 refine aA Tryz.func51 rfl (by kernel_rfl) Tryz.ntmps51 rfl (fun w0 M0=>?_)
 refine go ?_ ?_
 refine aL (aY (fun H E=>nX K=some r∧H=[]∧E=[]) ?_ (fun Jj4=>?_))
 ·rintro _ _ ⟨hF,rfl,rfl⟩
  unfold nX at hF
  exact bO
 obtain⟨ol3,hL,hRl3⟩:=aN hF
 refine eD (fun k a w=>∃(x2:Int),fF K a0 a1 k x2=some ol3∧hs _ [] [(0,.vc (pS cQ a0)),(1,.vc (pS cQ a1)),(5,.vc (pI .i64 x2))] a w) K (fun a w ⟨_,hF,_⟩=>by cases hF) (fun k a w ⟨x2,hF,hh⟩=>eE ?_ hh) (fun a w hh=>⟨0,hL,gR [] hh⟩)
 rw [fF.eq_2] at hF
 refine go ?_ ?_
 refine cJ hF (fun h5 hF=>?_) (fun h5 hF=>?_)
 ·refine go ?_ ?_
  refine aC hF rfl (fun h6 hF=>?_) (fun h6 hF=>?_)
  ·refine go ?_ ?_
   refine aL (aD ?_)
   obtain⟨v9,h10,hF⟩:=aN hF
   obtain⟨v11,h12,hF⟩:=aN hF
   obtain⟨v13,h14,hF⟩:=aX hF aAD
   refine dr [0,0,3,7,0,0,48,112,255,511] 10 0 ?_ (fun bs8 G7=>?_)
   refine go ?_ ?_
   refine aC hF rfl (fun h15 hF=>?_) (fun h15 hF=>?_)
   ·exact bO
   obtain⟨v16,h17,hF⟩:=aN hF
   refine go ?_ ?_
   exact aG (fun a w hh=>⟨v16,hF,gR [] hh⟩)
  refine bH ?_
  obtain rfl:=iQ hF
  exact qD Jj4 ⟨hRl3,rfl,rfl⟩ []
 refine go ?_ ?_
 refine uX rfl ?_
 refine bH ?_
 obtain rfl:=iQ hF
 exact qD Jj4 ⟨hRl3,rfl,rfl⟩ []
def pV (K:Nat) (x29:List Rat):Option (List Rat):=
 some x29
def jD (K:Nat) (a0:List Rat) (a1:Int) (a2:Rat):Nat→(List Rat)→Int→Option (List Rat)
 |0,_,_=>none
 |k+1,x22,x28=>bif(decide (x28<a1)) then((bN a0 x28).bind fun v40=>(aDJ v40 a2).bind fun v42=>(sF x22 [v42]).bind fun x44=>(aR (x28+1)).bind fun v51=>jD K a0 a1 a2 k x44 v51) else(some x22)
def kJ (K:Nat) (a0:List Rat) (a1:Int) (a2:Rat):Option (List Rat):=
 (aR (2*a1)).bind fun v4=>(aR (v4+1)).bind fun v6=>(bN a0 v6).bind fun v8=>(aDJ v8 a2).bind fun v10=>(jD K a0 a1 a2 K [v10] 0).bind fun x29=>pV K x29
theorem sM {K:Nat} {a0:List Rat} {a1:Int} {a2:Rat} {r:List Rat} (hF:kJ K a0 a1 a2=some r):Ct Tryz.prog 52 [.vc (pS cQ a0),.vc (pI .i64 a1),.va (eQ a2)] (.vc (pS cQ r)):=by
 unfold kJ at hF
 refine aA Tryz.func52 rfl (by kernel_rfl) Tryz.ntmps52 rfl (fun w0 M0=>?_)
 refine aD (aJ (cG rfl rfl trivial (fun b1=>?_)))
 refine aI (aO (.inr rfl)) ⟨eM cQ,trivial⟩ ?_
 obtain⟨v4,h5,v6,h7,v8,h9,hF⟩:=bn3 hF
 obtain⟨v10,h11,hF⟩:=aX hF uP
 refine go ?_ ?_
 refine dr [0,0,2,6,15,31,0,127,255,511] 8 2 ?_ (fun bs3 G2=>?_)
 refine aGI (aDD (C:=cQ) (xs:=[.tmp 16]) (ps:=[.va (eQ v10)]) (zs:=[v10]) rfl tyS24 rfl ⟨⟨trivial,rfl⟩,trivial⟩ rfl) zU1 (fun b12 _=>?_)
 refine go ?_ ?_
 refine aL (aY (fun H E=>∃(x29:List Rat),∃(b30:Option Nat),∃(c31:Nat),∃(n32:Nat),pV K x29=some r∧x29.length=n32∧H=[hO cQ b30 c31 42 n32 x29]∧E=[(7,.vc (pO b30 n32 c31))]) ?_ (fun Jj36=>?_))
 ·rintro _ _ ⟨x29,b30,c31,n32,hF,q33,rfl,rfl⟩
  unfold pV at hF
  refine go ?_ ?_
  refine f9 (fU (mS 0 [6,7,32] rfl q33 ⟨rfl,rfl,rfl,trivial⟩ rfl ?_))
  obtain rfl:=iQ hF
  exact iA (.inl rfl) Tryz.results52 (.tmp rfl .nil) rfl rfl
 obtain⟨x29',hL,hRl35⟩:=aN hF
 refine eD (fun k a w=>∃(x22:List Rat),∃(x28:Int),∃(b23:Option Nat),∃(c24:Nat),∃(n25:Nat),jD K a0 a1 a2 k x22 x28=some x29'∧x22.length=n25∧hs _ [hO cQ b23 c24 42 n25 x22,⟨some b1,1,42,4,1,(eQ a2)⟩] [(0,.vc (pS cQ a0)),(1,.vc (pI .i64 a1)),(5,.vc (pP (some b1) 0)),(7,.vc (pO b23 n25 c24)),(8,.vc (pI .i64 x28))] a w) K (fun a w ⟨_,_,_,_,_,hF,_,_⟩=>by cases hF) (fun k a w ⟨x22,x28,b23,c24,n25,hF,q26,hh⟩=>eE ?_ hh) (fun a w hh=>⟨[v10],0,b12,1,1,hL,rfl,gR [0,1] hh⟩)
 rw [jD.eq_2] at hF
 refine go ?_ ?_
 refine aC hF rfl (fun h37 hF=>?_) (fun h37 hF=>?_)
 ·refine go ?_ ?_
  refine aL ?_
  obtain⟨v40,h41,hF⟩:=aN hF
  obtain⟨v42,h43,hF⟩:=aX hF uP
  refine jJ [0,0,0,6,14,0,62,126,255,511] 8 2 [.v (.vc (pO b23 n25 c24)),.v (.vc (pS cQ a0)),.v (.vc (pI .i64 x28)),.v (.vc (pM (cQ.e v40))),.v (.va (eQ v40)),.v (.va (eQ a2)),.v (.va (eQ v42)),.v (.vc (pS cQ [v42]))] bB ⟨d0 (aO (.inl rfl)) zU1,d0 (aO (.inl rfl)) zU1,d0 (aO (.inl rfl)) zU1,d0 (yO rfl tyS24 h41) zU2,d0 (wY 4 rfl rfl (.agg tyA42)) zU1,d0 (iB 1 4 rfl rfl rfl rfl (.agg tyA42)) zU1,d0 (bK rfl h43 rfl) zU2,d0 (gJ (C:=cQ) (xs:=[.tmp 29]) (ps:=[.va (eQ v42)]) (zs:=[v42]) rfl tyS24 rfl ⟨⟨trivial,rfl⟩,trivial⟩ rfl) zU1,trivial⟩ (fun bs39 G38=>?_)
  obtain⟨x44,h45,hF⟩:=aN hF
  refine k8 0 rfl tyS24 rfl rfl q26 rfl rfl h45 (fun b46 c47 H48 e49=>?_)
  cases e49
  obtain⟨v51,h52,hF⟩:=aN hF
  refine go ?_ ?_
  exact aG (fun a w hh=>⟨x44,v51,b46,c47,(n25+[v42].length),hF,(bS h45 q26),gR [0,1] hh⟩)
 refine bH ?_
 obtain rfl:=iQ hF
 exact qD Jj36 ⟨x22,b23,c24,n25,hRl35,q26,rfl,rfl⟩ [0]
def n4 (K:Nat) (x41:List (List Rat)):Option (List (List Rat)):=
 some x41
def nL (K:Nat) (x34:List (List Rat)) (x40:Int) (recl47:(List (List Rat))→Int→Option (List (List Rat))) (x76:List Rat):Option (List (List Rat)):=
 (sF x34 [x76]).bind fun x84=>(aR (x40+1)).bind fun v91=>recl47 x84 v91
def gV (K:Nat) (a0:List (List Rat)) (a2:Int) (x17:List Rat) (x40:Int):Nat→(List Rat)→Int→Option (List Rat)
 |0,_,_=>none
 |k+1,x69,x75=>bif(decide (x75<(x17.length:Int))) then((bN a0 x40).bind fun v96=>(bN v96 x75).bind fun v98=>(bN a0 x40).bind fun v100=>(bN v100 a2).bind fun v102=>(bN x17 x75).bind fun v104=>(aEs v102 v104).bind fun v106=>(aE7 v98 v106).bind fun v108=>(sF x69 [v108]).bind fun x110=>(aR (x75+1)).bind fun v117=>gV K a0 a2 x17 x40 k x110 v117) else(some x69)
def cT (K:Nat) (a0:List (List Rat)) (a1:Int) (a2:Int) (x17:List Rat):Nat→(List (List Rat))→Int→Option (List (List Rat))
 |0,_,_=>none
 |k+1,x34,x40=>bif(decide (x40<(a0.length:Int))) then(bif(x40==a1) then((sF x34 [x17]).bind fun x51=>(aR (x40+1)).bind fun v58=>cT K a0 a1 a2 x17 k x51 v58) else((gV K a0 a2 x17 x40 K ([]:List Rat) 0).bind fun x76=>nL K x34 x40 (cT K a0 a1 a2 x17 k) x76)) else(some x34)
def nP (K:Nat) (a0:List (List Rat)) (a1:Int) (a2:Int) (x17:List Rat):Option (List (List Rat)):=
 (cT K a0 a1 a2 x17 K ([]:List (List Rat)) 0).bind fun x41=>n4 K x41
def gZ (K:Nat) (a0:List (List Rat)) (a1:Int) (a2:Int):Nat→(List Rat)→Int→Option (List Rat)
 |0,_,_=>none
 |k+1,x10,x16=>(bN a0 a1).bind fun v119=>bif(decide (x16<(v119.length:Int))) then((bN a0 a1).bind fun v124=>(bN v124 x16).bind fun v126=>(bN a0 a1).bind fun v128=>(bN v128 a2).bind fun v130=>(aDJ v126 v130).bind fun v132=>(sF x10 [v132]).bind fun x134=>(aR (x16+1)).bind fun v141=>gZ K a0 a1 a2 k x134 v141) else(some x10)
def oG (K:Nat) (a0:List (List Rat)) (a1:Int) (a2:Int):Option (List (List Rat)):=
 (gZ K a0 a1 a2 K ([]:List Rat) 0).bind fun x17=>nP K a0 a1 a2 x17
theorem aBi {K:Nat} {a0:List (List Rat)} {a1:Int} {a2:Int} {r:List (List Rat)} (hF:oG K a0 a1 a2=some r):Ct Tryz.prog 53 [.vc (pS (iM cQ) a0),.vc (pI .i64 a1),.vc (pI .i64 a2)] (.vc (pS (iM cQ) r)):=by
 unfold oG at hF
 refine aA Tryz.func53 rfl (by kernel_rfl) Tryz.ntmps53 rfl (fun w0 M0=>?_)
 refine aD (aJ (aI (aO (.inr rfl)) ⟨eM (iM cQ),trivial⟩ ?_))
 refine aV (aK (aD (aJ (qA cQ 42 rfl ?_))))
 refine go ?_ ?_
 refine aL (aY (fun H E=>∃(x17:List Rat),∃(b18:Option Nat),∃(c19:Nat),∃(n20:Nat),nP K a0 a1 a2 x17=some r∧x17.length=n20∧H=[hO cQ b18 c19 42 n20 x17]∧E=[(0,.vc (pS (iM cQ) a0)),(1,.vc (pI .i64 a1)),(2,.vc (pI .i64 a2)),(7,.vc (pO b18 n20 c19))]) ?_ (fun Jj24=>?_))
 ·rintro _ _ ⟨x17,b18,c19,n20,hF,q21,rfl,rfl⟩
  unfold nP at hF
  refine aK (aD (aJ (qA (iM cQ) 24 rfl ?_)))
  refine go ?_ ?_
  refine aL (aJr 1 [7] rfl q21 zU1 rfl ?_)
  refine aY (fun H E=>∃(x41:List (List Rat)),∃(b42:Option Nat),∃(c43:Nat),∃(n44:Nat),n4 K x41=some r∧x41.length=n44∧H=[hO (iM cQ) b42 c43 24 n44 x41]∧E=[(9,.vc (pO b42 n44 c43))]) ?_ (fun Jj48=>?_)
  ·rintro _ _ ⟨x41,b42,c43,n44,hF,q45,rfl,rfl⟩
   unfold n4 at hF
   refine go ?_ ?_
   refine f9 (fU (mS 0 [6,9,86] rfl q45 ⟨rfl,rfl,rfl,trivial⟩ rfl ?_))
   obtain rfl:=iQ hF
   exact iA (.inl rfl) Tryz.results53 (.tmp rfl .nil) rfl rfl
  obtain⟨x41',hL,hRl47⟩:=aN hF
  refine eD (fun k a w=>∃(x34:List (List Rat)),∃(x40:Int),∃(b35:Option Nat),∃(c36:Nat),∃(n37:Nat),cT K a0 a1 a2 x17 k x34 x40=some x41'∧x34.length=n37∧hs _ [hO (iM cQ) b35 c36 24 n37 x34] [(0,.vc (pS (iM cQ) a0)),(1,.vc (pI .i64 a1)),(2,.vc (pI .i64 a2)),(7,.vc (pS cQ x17)),(9,.vc (pO b35 n37 c36)),(10,.vc (pI .i64 x40))] a w) K (fun a w ⟨_,_,_,_,_,hF,_,_⟩=>by cases hF) (fun k a w ⟨x34,x40,b35,c36,n37,hF,q38,hh⟩=>eE ?_ hh) (fun a w hh=>⟨([]:List (List Rat)),0,none,0,0,hL,rfl,gR [0] hh⟩)
  rw [cT.eq_2] at hF
  refine go ?_ ?_
  refine aC hF rfl (fun h49 hF=>?_) (fun h49 hF=>?_)
  ·refine go ?_ ?_
   refine aL (go ?_ ?_)
   refine aC hF rfl (fun h50 hF=>?_) (fun h50 hF=>?_)
   ·refine go ?_ ?_
    refine aI (gJ (C:=(iM cQ)) (xs:=[.tmp 50]) (ps:=[.vc (pS cQ x17)]) (zs:=[x17]) rfl tyS23 rfl ⟨⟨trivial,rfl⟩,trivial⟩ rfl) zU1 ?_
    obtain⟨x51,h52,hF⟩:=aN hF
    refine k8 0 rfl tyS23 rfl rfl q38 rfl rfl h52 (fun b53 c54 H55 e56=>?_)
    cases e56
    refine go ?_ ?_
    refine bH ?_
    obtain⟨v58,h59,hF⟩:=aN hF
    refine go ?_ ?_
    exact aG (fun a w hh=>⟨x51,v58,b53,c54,(n37+[x17].length),hF,(bS h52 q38),gR [0] hh⟩)
   refine iC (aK (aD (aJ (qA cQ 42 rfl ?_))))
   refine go ?_ ?_
   refine aL (aY (fun H E=>∃(x76:List Rat),∃(b77:Option Nat),∃(c78:Nat),∃(n79:Nat),nL K x34 x40 (cT K a0 a1 a2 x17 k) x76=some x41'∧x76.length=n79∧H=[hO cQ b77 c78 42 n79 x76,hO (iM cQ) b35 c36 24 n37 x34]∧E=[(0,.vc (pS (iM cQ) a0)),(1,.vc (pI .i64 a1)),(2,.vc (pI .i64 a2)),(7,.vc (pS cQ x17)),(9,.vc (pO b35 n37 c36)),(10,.vc (pI .i64 x40)),(11,.vc (pO b77 n79 c78))]) ?_ (fun Jj83=>?_))
   ·rintro _ _ ⟨x76,b77,c78,n79,hF,q80,rfl,rfl⟩
    unfold nL at hF
    refine aK (aJ (fJ ?_))
    refine fJ ?_
    refine vY 0 [11,83] rfl q80 zU2 rfl ?_
    refine aI (gJ (C:=(iM cQ)) (xs:=[.tmp 83]) (ps:=[.vc (pS cQ x76)]) (zs:=[x76]) rfl tyS23 rfl ⟨⟨trivial,rfl⟩,trivial⟩ rfl) zU1 ?_
    obtain⟨x84,h85,hF⟩:=aN hF
    refine k8 0 rfl tyS23 rfl rfl q38 rfl rfl h85 (fun b86 c87 H88 e89=>?_)
    cases e89
    obtain⟨v91,h92,hF⟩:=aN hF
    refine go ?_ ?_
    exact aG (fun a w hh=>⟨x84,v91,b86,c87,(n37+[x76].length),hF,(bS h85 q38),gR [0] hh⟩)
   obtain⟨x76',hL,hRl82⟩:=aN hF
   refine eD (fun k a w=>∃(x69:List Rat),∃(x75:Int),∃(b70:Option Nat),∃(c71:Nat),∃(n72:Nat),gV K a0 a2 x17 x40 k x69 x75=some x76'∧x69.length=n72∧hs _ [hO cQ b70 c71 42 n72 x69,hO (iM cQ) b35 c36 24 n37 x34] [(0,.vc (pS (iM cQ) a0)),(1,.vc (pI .i64 a1)),(2,.vc (pI .i64 a2)),(7,.vc (pS cQ x17)),(9,.vc (pO b35 n37 c36)),(10,.vc (pI .i64 x40)),(11,.vc (pO b70 n72 c71)),(12,.vc (pI .i64 x75))] a w) K (fun a w ⟨_,_,_,_,_,hF,_,_⟩=>by cases hF) (fun k a w ⟨x69,x75,b70,c71,n72,hF,q73,hh⟩=>eE ?_ hh) (fun a w hh=>⟨([]:List Rat),0,none,0,0,hL,rfl,gR [0,1] hh⟩)
   rw [gV.eq_2] at hF
   refine go ?_ ?_
   refine aC hF rfl (fun h93 hF=>?_) (fun h93 hF=>?_)
   ·refine go ?_ ?_
    refine aL ?_
    obtain⟨v96,h97,hF⟩:=aN hF
    obtain⟨v98,h99,hF⟩:=aN hF
    have hF:=qV h97 hF
    obtain⟨v102,h103,hF⟩:=aN hF
    obtain⟨v104,h105,hF⟩:=aN hF
    obtain⟨v106,h107,hF⟩:=aX hF xN
    obtain⟨v108,h109,hF⟩:=aX hF aCo
    refine jJ [0,0,0,6,14,0,62,126,0,0,768,1792,0,7936,16128,0,0,98304,229376,524032,1048574,2097150,4194303,8388607] 22 2 [.v (.vc (pO b70 n72 c71)),.v (.vc (pS (iM cQ) a0)),.v (.vc (pI .i64 x40)),.v (.vc (pM ((iM cQ).e v96))),.v (.vc (pS cQ v96)),.v (.vc (pI .i64 x75)),.v (.vc (pM (cQ.e v98))),.v (.va (eQ v98)),.v (.vc (pS (iM cQ) a0)),.v (.vc (pI .i64 x40)),.v (.vc (pM ((iM cQ).e v96))),.v (.vc (pS cQ v96)),.v (.vc (pI .i64 a2)),.v (.vc (pM (cQ.e v102))),.v (.va (eQ v102)),.v (.vc (pS cQ x17)),.v (.vc (pI .i64 x75)),.v (.vc (pM (cQ.e v104))),.v (.va (eQ v104)),.v (.va (eQ v106)),.v (.va (eQ v108)),.v (.vc (pS cQ [v108]))] bB ⟨d0 (aO (.inl rfl)) zU1,d0 (aO (.inl rfl)) zU1,d0 (aO (.inl rfl)) zU1,d0 (yO rfl tyS23 h97) zU2,d0 (wY 1 rfl rfl (.one tyO24)) zU1,d0 (aO (.inl rfl)) zU1,d0 (yO rfl tyS24 h99) zU2,d0 (wY 4 rfl rfl (.agg tyA42)) zU1,d0 (aO (.inl rfl)) zU1,d0 (aO (.inl rfl)) zU1,d0 (yO rfl tyS23 h97) zU2,d0 (wY 1 rfl rfl (.one tyO24)) zU1,d0 (aO (.inl rfl)) zU1,d0 (yO rfl tyS24 h103) zU2,d0 (wY 4 rfl rfl (.agg tyA42)) zU1,d0 (aO (.inl rfl)) zU1,d0 (aO (.inl rfl)) zU1,d0 (yO rfl tyS24 h105) zU2,d0 (wY 4 rfl rfl (.agg tyA42)) zU1,d0 (bK rfl h107 rfl) zU2,d0 (bK rfl h109 rfl) zU2,d0 (gJ (C:=cQ) (xs:=[.tmp 79]) (ps:=[.va (eQ v108)]) (zs:=[v108]) rfl tyS24 rfl ⟨⟨trivial,rfl⟩,trivial⟩ rfl) zU1,trivial⟩ (fun bs95 G94=>?_)
    obtain⟨x110,h111,hF⟩:=aN hF
    refine k8 0 rfl tyS24 rfl rfl q73 rfl rfl h111 (fun b112 c113 H114 e115=>?_)
    cases e115
    obtain⟨v117,h118,hF⟩:=aN hF
    refine go ?_ ?_
    exact aG (fun a w hh=>⟨x110,v117,b112,c113,(n72+[v108].length),hF,(bS h111 q73),gR [0,1] hh⟩)
   refine bH ?_
   obtain rfl:=iQ hF
   exact qD Jj83 ⟨x69,b70,c71,n72,hRl82,q73,rfl,rfl⟩ [0,1]
  refine bH ?_
  obtain rfl:=iQ hF
  exact qD Jj48 ⟨x34,b35,c36,n37,hRl47,q38,rfl,rfl⟩ [0]
 obtain⟨x17',hL,hRl23⟩:=aN hF
 refine eD (fun k a w=>∃(x10:List Rat),∃(x16:Int),∃(b11:Option Nat),∃(c12:Nat),∃(n13:Nat),gZ K a0 a1 a2 k x10 x16=some x17'∧x10.length=n13∧hs _ [hO cQ b11 c12 42 n13 x10] [(0,.vc (pS (iM cQ) a0)),(1,.vc (pI .i64 a1)),(2,.vc (pI .i64 a2)),(7,.vc (pO b11 n13 c12)),(8,.vc (pI .i64 x16))] a w) K (fun a w ⟨_,_,_,_,_,hF,_,_⟩=>by cases hF) (fun k a w ⟨x10,x16,b11,c12,n13,hF,q14,hh⟩=>eE ?_ hh) (fun a w hh=>⟨([]:List Rat),0,none,0,0,hL,rfl,gR [0] hh⟩)
 rw [gZ.eq_2] at hF
 obtain⟨v119,h120,hF⟩:=aN hF
 refine go ?_ ?_
 refine aC hF rfl (fun h121 hF=>?_) (fun h121 hF=>?_)
 ·refine go ?_ ?_
  refine aL ?_
  have hF:=qV h120 hF
  obtain⟨v126,h127,hF⟩:=aN hF
  have hF:=qV h120 hF
  obtain⟨v130,h131,hF⟩:=aN hF
  obtain⟨v132,h133,hF⟩:=aX hF uP
  refine jJ [0,0,0,6,14,0,62,126,0,0,768,1792,0,7936,16128,32766,65534,131071,262143] 17 2 [.v (.vc (pO b11 n13 c12)),.v (.vc (pS (iM cQ) a0)),.v (.vc (pI .i64 a1)),.v (.vc (pM ((iM cQ).e v119))),.v (.vc (pS cQ v119)),.v (.vc (pI .i64 x16)),.v (.vc (pM (cQ.e v126))),.v (.va (eQ v126)),.v (.vc (pS (iM cQ) a0)),.v (.vc (pI .i64 a1)),.v (.vc (pM ((iM cQ).e v119))),.v (.vc (pS cQ v119)),.v (.vc (pI .i64 a2)),.v (.vc (pM (cQ.e v130))),.v (.va (eQ v130)),.v (.va (eQ v132)),.v (.vc (pS cQ [v132]))] bB ⟨d0 (aO (.inl rfl)) zU1,d0 (aO (.inl rfl)) zU1,d0 (aO (.inl rfl)) zU1,d0 (yO rfl tyS23 h120) zU2,d0 (wY 1 rfl rfl (.one tyO24)) zU1,d0 (aO (.inl rfl)) zU1,d0 (yO rfl tyS24 h127) zU2,d0 (wY 4 rfl rfl (.agg tyA42)) zU1,d0 (aO (.inl rfl)) zU1,d0 (aO (.inl rfl)) zU1,d0 (yO rfl tyS23 h120) zU2,d0 (wY 1 rfl rfl (.one tyO24)) zU1,d0 (aO (.inl rfl)) zU1,d0 (yO rfl tyS24 h131) zU2,d0 (wY 4 rfl rfl (.agg tyA42)) zU1,d0 (bK rfl h133 rfl) zU2,d0 (gJ (C:=cQ) (xs:=[.tmp 37]) (ps:=[.va (eQ v132)]) (zs:=[v132]) rfl tyS24 rfl ⟨⟨trivial,rfl⟩,trivial⟩ rfl) zU1,trivial⟩ (fun bs123 G122=>?_)
  obtain⟨x134,h135,hF⟩:=aN hF
  refine k8 0 rfl tyS24 rfl rfl q14 rfl rfl h135 (fun b136 c137 H138 e139=>?_)
  cases e139
  obtain⟨v141,h142,hF⟩:=aN hF
  refine go ?_ ?_
  exact aG (fun a w hh=>⟨x134,v141,b136,c137,(n13+[v132].length),hF,(bS h135 q14),gR [0] hh⟩)
 refine bH ?_
 obtain rfl:=iQ hF
 exact qD Jj24 ⟨x10,b11,c12,n13,hRl23,q14,rfl,rfl⟩ [0]
end Go.Proofs.YtolfcbpgmfbgmaaGreat
