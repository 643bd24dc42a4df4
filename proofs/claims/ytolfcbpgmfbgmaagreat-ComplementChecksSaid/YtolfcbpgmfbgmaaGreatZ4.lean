/- Texts of the proof, part 4: Q1. -/
import Derived.Test.YtolfcbpgmfbgmaaGreatZ3
set_option linter.unusedSimpArgs false
set_option linter.unusedVariables false
set_option maxRecDepth 100000
namespace Go.Proofs.YtolfcbpgmfbgmaaGreat
structure aHb where
 vars:Int
 rows:Int
 cols:Int
 t:List (List Rat)
 costs:List Rat
 basis:List Int
noncomputable def aHb.enc (x:aHb):List CP:=[pI .i64 x.vars]++[pI .i64 x.rows]++[pI .i64 x.cols]++[pS (fZ cQ) x.t]++[pS cQ x.costs]++[pS cI x.basis]
noncomputable def aHb.cod:Cd aHb:=⟨6,aHb.enc,fun _=>rfl⟩
structure aHg where
 rows:List (List Rat)
 pivots:List Int
 det:Rat
noncomputable def aHg.enc (x:aHg):List CP:=[pS (fZ cQ) x.rows]++[pS cI x.pivots]++(eQ x.det)
noncomputable def aHg.cod:Cd aHg:=⟨6,aHg.enc,fun _=>rfl⟩
structure aMS where
 z:List Rat
 w:List Rat
 pivots:Int
noncomputable def aMS.enc (x:aMS):List CP:=[pS cQ x.z]++[pS cQ x.w]++[pI .i64 x.pivots]
noncomputable def aMS.cod:Cd aMS:=⟨3,aMS.enc,fun _=>rfl⟩
structure aMH where
 n:Int
 rows:List (List Rat)
 basic:List Int
noncomputable def aMH.enc (x:aMH):List CP:=[pI .i64 x.n]++[pS (fZ cQ) x.rows]++[pS cI x.basic]
noncomputable def aMH.cod:Cd aMH:=⟨3,aMH.enc,fun _=>rfl⟩
structure aP where
 a:List Rat
 b:Rat
noncomputable def aP.enc (x:aP):List CP:=[pS cQ x.a]++(eQ x.b)
noncomputable def aP.cod:Cd aP:=⟨5,aP.enc,fun _=>rfl⟩
structure aMK where
 vars:Int
 lines:List aP
 goal:List Rat
noncomputable def aMK.enc (x:aMK):List CP:=[pI .i64 x.vars]++[pS aP.cod x.lines]++[pS cQ x.goal]
noncomputable def aMK.cod:Cd aMK:=⟨3,aMK.enc,fun _=>rfl⟩
structure aL1 where
 a:List Rat
 b:Rat
noncomputable def aL1.enc (x:aL1):List CP:=[pS cQ x.a]++(eQ x.b)
noncomputable def aL1.cod:Cd aL1:=⟨5,aL1.enc,fun _=>rfl⟩
structure aMJ where
 kind:Int
 x:List Rat
 y:List Rat
 value:Rat
noncomputable def aMJ.enc (x:aMJ):List CP:=[pI .i64 x.kind]++[pS cQ x.x]++[pS cQ x.y]++(eQ x.value)
noncomputable def aMJ.cod:Cd aMJ:=⟨7,aMJ.enc,fun _=>rfl⟩
structure oI where
 kind:Int
 x:List Rat
 y:List Rat
 value:Rat
noncomputable def oI.enc (x:oI):List CP:=[pI .i64 x.kind]++[pS cQ x.x]++[pS cQ x.y]++(eQ x.value)
noncomputable def oI.cod:Cd oI:=⟨7,oI.enc,fun _=>rfl⟩
structure aN where
 z:List Rat
 w:List Rat
 pivots:Int
noncomputable def aN.enc (x:aN):List CP:=[pS cQ x.z]++[pS cQ x.w]++[pI .i64 x.pivots]
noncomputable def aN.cod:Cd aN:=⟨3,aN.enc,fun _=>rfl⟩
structure aS where
 vars:Int
 lines:List aP
 goal:List Rat
noncomputable def aS.enc (x:aS):List CP:=[pI .i64 x.vars]++[pS aP.cod x.lines]++[pS cQ x.goal]
noncomputable def aS.cod:Cd aS:=⟨3,aS.enc,fun _=>rfl⟩
structure pD where
 n:Int
 rows:List (List Rat)
 basic:List Int
noncomputable def pD.enc (x:pD):List CP:=[pI .i64 x.n]++[pS (fZ cQ) x.rows]++[pS cI x.basic]
noncomputable def pD.cod:Cd pD:=⟨3,pD.enc,fun _=>rfl⟩
structure w5 where
 rows:List (List Rat)
 pivots:List Int
 det:Rat
noncomputable def w5.enc (x:w5):List CP:=[pS (fZ cQ) x.rows]++[pS cI x.pivots]++(eQ x.det)
noncomputable def w5.cod:Cd w5:=⟨6,w5.enc,fun _=>rfl⟩
structure uN where
 vars:Int
 rows:Int
 cols:Int
 t:List (List Rat)
 costs:List Rat
 basis:List Int
noncomputable def uN.enc (x:uN):List CP:=[pI .i64 x.vars]++[pI .i64 x.rows]++[pI .i64 x.cols]++[pS (fZ cQ) x.t]++[pS cQ x.costs]++[pS cI x.basis]
noncomputable def uN.cod:Cd uN:=⟨6,uN.enc,fun _=>rfl⟩
instance tyA139:TyA Tryz.prog 139 6:=mkA Tryz.underlying139 rfl (by kernel_rfl)
instance tyA90:TyA Tryz.prog 90 3:=mkA Tryz.underlying90 rfl (by kernel_rfl)
instance tyA92:TyA Tryz.prog 92 5:=mkA Tryz.underlying92 rfl (by kernel_rfl)
instance tyA94:TyA Tryz.prog 94 7:=mkA Tryz.underlying94 rfl (by kernel_rfl)
theorem tyB123_o3_o4_o5q:TyB Tryz.prog 123 [(0,1),(1,1),(2,1),(3,1),(4,1),(5,1)] ([pI .i64 0]++[pI .i64 0]++[pI .i64 0]++[pO none 0 0]++[pO none 0 0]++[pO none 0 0]):=mkB (z:=.agg #[.int .i64 0,.int .i64 0,.int .i64 0,.slice none 0 0,.slice none 0 0,.slice none 0 0]) (by kernel_rfl) Tryz.underlying123 (by kernel_rfl) (fun M=>bC.app (bC.app (bC.app (bC.app (bC.app (show bC M [pI .i64 0] [.int .i64 0] from zU1) (show bC M [pI .i64 0] [.int .i64 0] from zU1)) (show bC M [pI .i64 0] [.int .i64 0] from zU1)) (show bC M [pO none 0 0] [.slice none 0 0] from⟨.inl rfl,trivial⟩)) (show bC M [pO none 0 0] [.slice none 0 0] from⟨.inl rfl,trivial⟩)) (show bC M [pO none 0 0] [.slice none 0 0] from⟨.inl rfl,trivial⟩))
theorem tyB30q:TyB Tryz.prog 30 [(0,1),(1,1),(2,1)] ([pS cQ ([]:List Rat)]++[pS cQ ([]:List Rat)]++[pI .i64 0]):=mkB (z:=.agg #[.slice none 0 0,.slice none 0 0,.int .i64 0]) (by kernel_rfl) Tryz.underlying30 (by kernel_rfl) (fun M=>bC.app (bC.app (show bC M [pS cQ ([]:List Rat)] [.slice none 0 0] from⟨eM cQ M,trivial⟩) (show bC M [pS cQ ([]:List Rat)] [.slice none 0 0] from⟨eM cQ M,trivial⟩)) (show bC M [pI .i64 0] [.int .i64 0] from zU1))
theorem tyB42q:TyB Tryz.prog 42 [(0,2),(2,2)] (eQ 0):=mkB (z:=.agg #[.bool false,.slice none 0 0,.bool false,.slice none 0 0]) (by kernel_rfl) Tryz.underlying42 (by kernel_rfl) (fun M=>eQ0 M)
theorem tyB72_o1_o2q:TyB Tryz.prog 72 [(0,1),(1,1),(2,1)] ([pI .i64 0]++[pO none 0 0]++[pO none 0 0]):=mkB (z:=.agg #[.int .i64 0,.slice none 0 0,.slice none 0 0]) (by kernel_rfl) Tryz.underlying72 (by kernel_rfl) (fun M=>bC.app (bC.app (show bC M [pI .i64 0] [.int .i64 0] from zU1) (show bC M [pO none 0 0] [.slice none 0 0] from⟨.inl rfl,trivial⟩)) (show bC M [pO none 0 0] [.slice none 0 0] from⟨.inl rfl,trivial⟩))
theorem tyB90_o1q:TyB Tryz.prog 90 [(0,1),(1,1),(2,1)] ([pI .i64 0]++[pO none 0 0]++[pS cQ ([]:List Rat)]):=mkB (z:=.agg #[.int .i64 0,.slice none 0 0,.slice none 0 0]) (by kernel_rfl) Tryz.underlying90 (by kernel_rfl) (fun M=>bC.app (bC.app (show bC M [pI .i64 0] [.int .i64 0] from zU1) (show bC M [pO none 0 0] [.slice none 0 0] from⟨.inl rfl,trivial⟩)) (show bC M [pS cQ ([]:List Rat)] [.slice none 0 0] from⟨eM cQ M,trivial⟩))
theorem tyB92q:TyB Tryz.prog 92 [(0,1),(1,4)] ([pS cQ ([]:List Rat)]++(eQ 0)):=mkB (z:=.agg #[.slice none 0 0,.bool false,.slice none 0 0,.bool false,.slice none 0 0]) (by kernel_rfl) Tryz.underlying92 (by kernel_rfl) (fun M=>bC.app (show bC M [pS cQ ([]:List Rat)] [.slice none 0 0] from⟨eM cQ M,trivial⟩) (eQ0 M))
theorem tyB92_o0q:TyB Tryz.prog 92 [(0,1),(1,4)] ([pO none 0 0]++(eQ 0)):=mkB (z:=.agg #[.slice none 0 0,.bool false,.slice none 0 0,.bool false,.slice none 0 0]) (by kernel_rfl) Tryz.underlying92 (by kernel_rfl) (fun M=>bC.app (show bC M [pO none 0 0] [.slice none 0 0] from⟨.inl rfl,trivial⟩) (eQ0 M))
theorem tyB94q:TyB Tryz.prog 94 [(0,1),(1,1),(2,1),(3,4)] ([pI .i64 0]++[pS cQ ([]:List Rat)]++[pS cQ ([]:List Rat)]++(eQ 0)):=mkB (z:=.agg #[.int .i64 0,.slice none 0 0,.slice none 0 0,.bool false,.slice none 0 0,.bool false,.slice none 0 0]) (by kernel_rfl) Tryz.underlying94 (by kernel_rfl) (fun M=>bC.app (bC.app (bC.app (show bC M [pI .i64 0] [.int .i64 0] from zU1) (show bC M [pS cQ ([]:List Rat)] [.slice none 0 0] from⟨eM cQ M,trivial⟩)) (show bC M [pS cQ ([]:List Rat)] [.slice none 0 0] from⟨eM cQ M,trivial⟩)) (eQ0 M))
instance tyF123_0:TyF Tryz.prog 123 0 0:=mkF (ft:=3) (k:=0) Tryz.underlying123 rfl rfl rfl (by kernel_rfl)
instance tyF123_1:TyF Tryz.prog 123 1 1:=mkF (ft:=3) (k:=0) Tryz.underlying123 rfl rfl rfl (by kernel_rfl)
instance tyF123_2:TyF Tryz.prog 123 2 2:=mkF (ft:=3) (k:=0) Tryz.underlying123 rfl rfl rfl (by kernel_rfl)
instance tyF123_3:TyF Tryz.prog 123 3 3:=mkF (ft:=23) (k:=0) Tryz.underlying123 rfl rfl rfl (by kernel_rfl)
instance tyF123_4:TyF Tryz.prog 123 4 4:=mkF (ft:=24) (k:=0) Tryz.underlying123 rfl rfl rfl (by kernel_rfl)
instance tyF123_5:TyF Tryz.prog 123 5 5:=mkF (ft:=22) (k:=0) Tryz.underlying123 rfl rfl rfl (by kernel_rfl)
instance tyF139_0:TyF Tryz.prog 139 0 0:=mkF (ft:=23) (k:=0) Tryz.underlying139 rfl rfl rfl (by kernel_rfl)
instance tyF139_1:TyF Tryz.prog 139 1 1:=mkF (ft:=22) (k:=0) Tryz.underlying139 rfl rfl rfl (by kernel_rfl)
instance tyF139_2:TyF Tryz.prog 139 2 2:=mkF (ft:=42) (k:=3) Tryz.underlying139 rfl rfl rfl (by kernel_rfl)
instance tyF30_0:TyF Tryz.prog 30 0 0:=mkF (ft:=24) (k:=0) Tryz.underlying30 rfl rfl rfl (by kernel_rfl)
instance tyF30_1:TyF Tryz.prog 30 1 1:=mkF (ft:=24) (k:=0) Tryz.underlying30 rfl rfl rfl (by kernel_rfl)
instance tyF30_2:TyF Tryz.prog 30 2 2:=mkF (ft:=3) (k:=0) Tryz.underlying30 rfl rfl rfl (by kernel_rfl)
instance tyF72_0:TyF Tryz.prog 72 0 0:=mkF (ft:=3) (k:=0) Tryz.underlying72 rfl rfl rfl (by kernel_rfl)
instance tyF72_1:TyF Tryz.prog 72 1 1:=mkF (ft:=23) (k:=0) Tryz.underlying72 rfl rfl rfl (by kernel_rfl)
instance tyF72_2:TyF Tryz.prog 72 2 2:=mkF (ft:=22) (k:=0) Tryz.underlying72 rfl rfl rfl (by kernel_rfl)
instance tyF90_0:TyF Tryz.prog 90 0 0:=mkF (ft:=3) (k:=0) Tryz.underlying90 rfl rfl rfl (by kernel_rfl)
instance tyF90_1:TyF Tryz.prog 90 1 1:=mkF (ft:=88) (k:=0) Tryz.underlying90 rfl rfl rfl (by kernel_rfl)
instance tyF90_2:TyF Tryz.prog 90 2 2:=mkF (ft:=24) (k:=0) Tryz.underlying90 rfl rfl rfl (by kernel_rfl)
instance tyF92_0:TyF Tryz.prog 92 0 0:=mkF (ft:=24) (k:=0) Tryz.underlying92 rfl rfl rfl (by kernel_rfl)
instance tyF92_1:TyF Tryz.prog 92 1 1:=mkF (ft:=42) (k:=3) Tryz.underlying92 rfl rfl rfl (by kernel_rfl)
instance tyF94_0:TyF Tryz.prog 94 0 0:=mkF (ft:=3) (k:=0) Tryz.underlying94 rfl rfl rfl (by kernel_rfl)
instance tyF94_1:TyF Tryz.prog 94 1 1:=mkF (ft:=24) (k:=0) Tryz.underlying94 rfl rfl rfl (by kernel_rfl)
instance tyF94_3:TyF Tryz.prog 94 3 3:=mkF (ft:=42) (k:=3) Tryz.underlying94 rfl rfl rfl (by kernel_rfl)
instance tyO120:Ty1 Tryz.prog 120:=mk1 Tryz.underlying120 rfl (by kernel_rfl)
instance tyO88:Ty1 Tryz.prog 88:=mk1 Tryz.underlying88 rfl (by kernel_rfl)
instance tyS85:TyS Tryz.prog 85 4 1 1:=mkS (z:=.bool false) (k:=0) Tryz.underlying85 (by kernel_rfl) rfl
instance tyS88:TyS Tryz.prog 88 92 5 88:=mkS (z:=.agg #[.slice none 0 0,.bool false,.slice none 0 0,.bool false,.slice none 0 0]) (k:=4) Tryz.underlying88 (by kernel_rfl) rfl
instance tyZ120q:TyZ Tryz.prog 120 [aP0]:=mkZ (z:=.pointer none) (k:=1) (by kernel_rfl) rfl (fun M=>show bC M [aP0] [.pointer none] from zU1)
instance tyZ139q:TyZ Tryz.prog 139 ([pS (fZ cQ) ([]:List (List Rat))]++[pS cI ([]:List Int)]++(eQ 0)):=mkZ (z:=.agg #[.slice none 0 0,.slice none 0 0,.bool false,.slice none 0 0,.bool false,.slice none 0 0]) (k:=6) (by kernel_rfl) rfl (fun M=>bC.app (bC.app (show bC M [pS (fZ cQ) ([]:List (List Rat))] [.slice none 0 0] from⟨eM (fZ cQ) M,trivial⟩) (show bC M [pS cI ([]:List Int)] [.slice none 0 0] from⟨eM cI M,trivial⟩)) (eQ0 M))
instance tyZ24q:TyZ Tryz.prog 24 [pS cQ ([]:List Rat)]:=mkZ (z:=.slice none 0 0) (k:=1) (by kernel_rfl) rfl (fun M=>show bC M [pS cQ ([]:List Rat)] [.slice none 0 0] from⟨eM cQ M,trivial⟩)
instance tyZ3q:TyZ Tryz.prog 3 [pI .i64 0]:=mkZ (z:=.int .i64 0) (k:=1) (by kernel_rfl) rfl (fun M=>show bC M [pI .i64 0] [.int .i64 0] from zU1)
instance tyZ30q:TyZ Tryz.prog 30 ([pS cQ ([]:List Rat)]++[pS cQ ([]:List Rat)]++[pI .i64 0]):=mkZ (z:=.agg #[.slice none 0 0,.slice none 0 0,.int .i64 0]) (k:=3) (by kernel_rfl) rfl (fun M=>bC.app (bC.app (show bC M [pS cQ ([]:List Rat)] [.slice none 0 0] from⟨eM cQ M,trivial⟩) (show bC M [pS cQ ([]:List Rat)] [.slice none 0 0] from⟨eM cQ M,trivial⟩)) (show bC M [pI .i64 0] [.int .i64 0] from zU1))
instance tyZ4q:TyZ Tryz.prog 4 [pB false]:=mkZ (z:=.bool false) (k:=1) (by kernel_rfl) rfl (fun M=>show bC M [pB false] [.bool false] from zU1)
instance tyZ42q:TyZ Tryz.prog 42 (eQ 0):=mkZ (z:=.agg #[.bool false,.slice none 0 0,.bool false,.slice none 0 0]) (k:=4) (by kernel_rfl) rfl (fun M=>eQ0 M)
instance tyZ90q:TyZ Tryz.prog 90 ([pI .i64 0]++[pS aP.cod ([]:List aP)]++[pS cQ ([]:List Rat)]):=mkZ (z:=.agg #[.int .i64 0,.slice none 0 0,.slice none 0 0]) (k:=3) (by kernel_rfl) rfl (fun M=>bC.app (bC.app (show bC M [pI .i64 0] [.int .i64 0] from zU1) (show bC M [pS aP.cod ([]:List aP)] [.slice none 0 0] from⟨eM aP.cod M,trivial⟩)) (show bC M [pS cQ ([]:List Rat)] [.slice none 0 0] from⟨eM cQ M,trivial⟩))
instance tyZ92q:TyZ Tryz.prog 92 ([pS cQ ([]:List Rat)]++(eQ 0)):=mkZ (z:=.agg #[.slice none 0 0,.bool false,.slice none 0 0,.bool false,.slice none 0 0]) (k:=5) (by kernel_rfl) rfl (fun M=>bC.app (show bC M [pS cQ ([]:List Rat)] [.slice none 0 0] from⟨eM cQ M,trivial⟩) (eQ0 M))
instance tyZ94q:TyZ Tryz.prog 94 ([pI .i64 0]++[pS cQ ([]:List Rat)]++[pS cQ ([]:List Rat)]++(eQ 0)):=mkZ (z:=.agg #[.int .i64 0,.slice none 0 0,.slice none 0 0,.bool false,.slice none 0 0,.bool false,.slice none 0 0]) (k:=7) (by kernel_rfl) rfl (fun M=>bC.app (bC.app (bC.app (show bC M [pI .i64 0] [.int .i64 0] from zU1) (show bC M [pS cQ ([]:List Rat)] [.slice none 0 0] from⟨eM cQ M,trivial⟩)) (show bC M [pS cQ ([]:List Rat)] [.slice none 0 0] from⟨eM cQ M,trivial⟩)) (eQ0 M))
def cE (a0:Int) (a1:Int):Option Int:=
 bif(decide (a0<0)) then((aR (a0+1)).bind fun v2=>(aR (-v2)).bind fun v4=>(zP v4 a1).bind fun v6=>some v6) else((zP a0 a1).bind fun v8=>some v8)
theorem gQ {a0:Int} {a1:Int} {r:Int} (hF:cE a0 a1=some r):Ct Tryz.prog 12 [.vc (pI .i64 a0),.vc (pI .i64 a1)] (.vc (pI .i64 r)):=by
 unfold cE at hF
 refine aA Tryz.func12 rfl (by kernel_rfl) Tryz.ntmps12 rfl (fun w0 M0=>?_)
 refine go ?_ ?_
 refine aC hF rfl (fun h1 hF=>?_) (fun h1 hF=>?_)
 ·obtain⟨v2,h3,v4,h5,v6,h7,hF⟩:=bn3 hF
  exact bP
 obtain⟨v8,h9,hF⟩:=aO hF
 exact bP
structure wV where
 z:List aE
 w:List aE
 pivots:Int
noncomputable def wV.enc (x:wV):List CP:=[pS aE.c x.z]++[pS aE.c x.w]++[pI .i64 x.pivots]
noncomputable def wV.cod:Cd wV:=⟨3,wV.enc,fun _=>rfl⟩
structure aLS where
 neg:Bool
 d:List Int
noncomputable def aLS.enc (x:aLS):List CP:=[pB x.neg]++[pS cI x.d]
noncomputable def aLS.cod:Cd aLS:=⟨2,aLS.enc,fun _=>rfl⟩
structure aLJ where
 p:aB
 q:aB
noncomputable def aLJ.enc (x:aLJ):List CP:=(aB.e x.p)++(aB.e x.q)
noncomputable def aLJ.cod:Cd aLJ:=⟨4,aLJ.enc,fun _=>rfl⟩
instance tyA30:TyA Tryz.prog 30 3:=mkA Tryz.underlying30 rfl (by kernel_rfl)
theorem tyB42r:TyB Tryz.prog 42 [(0,2),(2,2)] (([pB false]++[pS cI ([]:List Int)])++([pB false]++[pS cI ([]:List Int)])):=mkB (z:=.agg #[.bool false,.slice none 0 0,.bool false,.slice none 0 0]) (by kernel_rfl) Tryz.underlying42 (by kernel_rfl) (fun M=>bC.app (bC.app (show bC M [pB false] [.bool false] from zU1) (show bC M [pS cI ([]:List Int)] [.slice none 0 0] from⟨eM cI M,trivial⟩)) (bC.app (show bC M [pB false] [.bool false] from zU1) (show bC M [pS cI ([]:List Int)] [.slice none 0 0] from⟨eM cI M,trivial⟩)))
instance tyO23:Ty1 Tryz.prog 23:=mk1 Tryz.underlying23 rfl (by kernel_rfl)
instance tyO24:Ty1 Tryz.prog 24:=mk1 Tryz.underlying24 rfl (by kernel_rfl)
instance tyS23:TyS Tryz.prog 23 24 1 24:=mkS (z:=.slice none 0 0) (k:=0) Tryz.underlying23 (by kernel_rfl) rfl
instance tyS24:TyS Tryz.prog 24 42 4 64:=mkS (z:=.agg #[.bool false,.slice none 0 0,.bool false,.slice none 0 0]) (k:=3) Tryz.underlying24 (by kernel_rfl) rfl
instance tyZ30r:TyZ Tryz.prog 30 ([pS aE.c ([]:List aE)]++[pS aE.c ([]:List aE)]++[pI .i64 0]):=mkZ (z:=.agg #[.slice none 0 0,.slice none 0 0,.int .i64 0]) (k:=3) (by kernel_rfl) rfl (fun M=>bC.app (bC.app (show bC M [pS aE.c ([]:List aE)] [.slice none 0 0] from⟨eM aE.c M,trivial⟩) (show bC M [pS aE.c ([]:List aE)] [.slice none 0 0] from⟨eM aE.c M,trivial⟩)) (show bC M [pI .i64 0] [.int .i64 0] from zU1))
instance tyZ42r:TyZ Tryz.prog 42 (([pB false]++[pS cI ([]:List Int)])++([pB false]++[pS cI ([]:List Int)])):=mkZ (z:=.agg #[.bool false,.slice none 0 0,.bool false,.slice none 0 0]) (k:=4) (by kernel_rfl) rfl (fun M=>bC.app (bC.app (show bC M [pB false] [.bool false] from zU1) (show bC M [pS cI ([]:List Int)] [.slice none 0 0] from⟨eM cI M,trivial⟩)) (bC.app (show bC M [pB false] [.bool false] from zU1) (show bC M [pS cI ([]:List Int)] [.slice none 0 0] from⟨eM cI M,trivial⟩)))
abbrev zU:Nat:=11
def iU (K:Nat) (a1:List aE) (a2:Int) (a3:Int) (x31:List Nat) (x37:List (List aE)):Option ((List (List aE))×(List aE)):=
 (sD ([]:List aE) a1).bind fun x48=>bif((x31.length:Int)==0) then((sD (y5 x37 x31) [x48]).bind fun x57=>some (x57,x48)) else((cE a3 (x31.length:Int)).bind fun v64=>(zL a3 7).bind fun v66=>(bO x31 v64).bind fun v68=>(cE v66 ((x37.getD v68 []).length:Int)).bind fun v70=>(cE a2 6).bind fun v72=>bif(v72==0) then((slL (y5 x37 x31) 0 v64).bind fun x76=>some (x76,x48)) else(bif(v72==1) then((bO (y5 x37 x31) v64).bind fun v80=>(slL v80 0 v70).bind fun x82=>(bO (y5 x37 x31) v64).bind fun v84=>(pA (y5 x37 x31) v64 x82).bind fun x86=>some (x86,x48)) else(bif(v72==2) then((sD x48 [(⟨(⟨false,([]:List Int)⟩:aB),(⟨false,([]:List Int)⟩:aB)⟩:aE)]).bind fun x90=>some ((y5 x37 x31),x90)) else(bif(v72==3) then((bO x31 v64).bind fun v99=>(bO (x37.getD v99 []) v70).bind fun v101=>(pA (x37.getD v99 []) v70 (⟨v101.p,(⟨true,v101.q.d⟩:aB)⟩:aE)).bind fun x103=>some ((y5 (x37.set v99 x103) x31),x48)) else(bif(v72==4) then((bO x48 v64).bind fun v111=>(sD ([]:List Int) v111.p.d).bind fun x113=>(sD x113 [0]).bind fun x120=>(bO x48 v64).bind fun v127=>(pA x48 v64 (⟨(⟨v127.p.neg,x120⟩:aB),v127.q⟩:aE)).bind fun x129=>some ((y5 x37 x31),x129)) else((bO x31 v64).bind fun v135=>(cE a3 9).bind fun v137=>(aR (v137-4)).bind fun v139=>(mU K v139 1).bind fun v141=>(bO (x37.getD v135 []) v70).bind fun v143=>(pA (x37.getD v135 []) v70 v141).bind fun x145=>some ((y5 (x37.set v135 x145) x31),x48)))))))
def cT (K:Nat) (a0:List (List aE)):Nat→(List Nat)→(List (List aE))→Int→Option ((List Nat)×(List (List aE)))
 |0,_,_,_=>none
 |k+1,x18,x24,x30=>bif(decide (x30<(a0.length:Int))) then((bO a0 x30).bind fun v153=>(sD ([]:List aE) v153).bind fun x155=>(sD x18 [x24.length]).bind fun x163=>(aR (x30+1)).bind fun v170=>cT K a0 k x163 (x24++[x155]) v170) else(some (x18,x24))
def gL (K:Nat) (a0:List (List aE)) (a1:List aE) (a2:Int) (a3:Int):Option ((List (List aE))×(List aE)):=
 (cT K a0 K ([]:List Nat) ([]:List (List aE)) 0).bind fun(x31,x37)=>iU K a1 a2 a3 x31 x37
theorem y8 {K:Nat} {a0:List (List aE)} {a1:List aE} {a2:Int} {a3:Int} {r:(List (List aE))×(List aE)} (hF:gL K a0 a1 a2 a3=some r):Ct Tryz.prog 11 [.vc (pS (fZ aE.c) a0),.vc (pS aE.c a1),.vc (pI .i64 a2),.vc (pI .i64 a3)] (.t2 (.vc (pS (fZ aE.c) r.1)) (.vc (pS aE.c r.2))):=by
 unfold gL at hF
 refine aA Tryz.func11 rfl (by kernel_rfl) Tryz.ntmps11 rfl (fun w0 M0=>?_)
 refine aD (aK (aH (aM (.inr rfl)) ⟨eM (fZ aE.c),trivial⟩ ?_))
 refine aH (aM (.inr rfl)) ⟨eM aE.c,trivial⟩ ?_
 refine aU (aJ (aD (aK (aGB aE.c 42 ?_))))
 refine pN (cH ([]:List sE)) 24 rfl ?_
 refine go ?_ ?_
 refine aI (aY (fun H E=>∃(x31:List Nat),∃(x37:List (List aE)),∃(b32:Option Nat),∃(c33:Nat),∃(n34:Nat),∃(g38:List sE),∃(N39:Nat),iU K a1 a2 a3 x31 x37=some r∧x31.length=n34∧x37.length=N39∧d7 g38 x37∧(∀k∈x31,k<N39)∧H=([hO (cH g38) b32 c33 24 n34 x31]++gD aE.c 42 g38 x37)∧E=[(1,.vc (pS aE.c a1)),(2,.vc (pI .i64 a2)),(3,.vc (pI .i64 a3)),(10,.vc (pO b32 n34 c33))]) ?_ (fun Jj44=>?_))
 ·rintro _ _ ⟨x31,x37,b32,c33,n34,g38,N39,hF,q35,q40,q41,q42,rfl,rfl⟩
  unfold iU at hF
  refine go ?_ ?_
  refine aFl (aCM (C:=aE.c) (xs:=[]) (ps:=[]) (zs:=([]:List aE)) rfl tyS24 rfl trivial rfl) trivial (fun b45 _=>?_)
  refine fL ?_
  obtain⟨x48,h49,hF⟩:=aO hF
  refine kK 0 rfl tyS24 rfl rfl rfl rfl rfl h49 (fun b50 c51 H52 e53=>?_)
  cases e53
  refine go ?_ ?_
  refine aC hF rfl (fun h55 hF=>?_) (fun h55 hF=>?_)
  ·refine aD (aMN 1 2 rfl rfl q41 (yY q40 q42) ?_)
   refine aHA 0 [12,32] rfl (bL h49 rfl) zU2 rfl ?_
   refine go ?_ ?_
   refine aH (gP (C:=(fZ aE.c)) (xs:=[.tmp 37]) (ps:=[.vc (pS aE.c x48)]) (zs:=[x48]) rfl tyS23 rfl ⟨⟨trivial,rfl⟩,trivial⟩ rfl) zU1 ?_
   obtain⟨x57,h58,hF⟩:=aO hF
   refine kK 0 rfl tyS23 rfl rfl ((uR _ _).trans q35) rfl rfl h58 (fun b59 c60 H61 e62=>?_)
   cases e62
   refine go ?_ ?_
   refine fX (fY (mL 0 [8,39] rfl (bL h58 ((uR _ _).trans q35)) zU2 rfl ?_))
   obtain rfl:=iR hF
   exact gW (.inl rfl) Tryz.results11 (.tmp rfl (.tmp rfl .nil)) rfl rfl
  obtain⟨v64,h65,hF⟩:=aX hF gQ
  obtain⟨v66,h67,v68,h69,hF⟩:=tY hF
  refine go ?_ ?_
  refine aH (aAW (C:=aE.c) (xs:=(x37.getD v68 [])) (T:=42) rfl tyS24 (fQ q41 q40 (q42 _ (aT h69)))) zU1 ?_
  obtain⟨v70,h71,hF⟩:=aX hF gQ
  obtain⟨v72,h73,hF⟩:=aX hF gQ
  refine go ?_ ?_
  refine aI (go ?_ ?_)
  refine aC hF rfl (fun h74 hF=>?_) (fun h74 hF=>?_)
  ·refine aMN 1 2 rfl rfl q41 (yY q40 q42) ?_
   refine aK (fL ?_)
   refine fL ?_
   refine wI 1 [10,33,42,47,67] rfl ((uR _ _).trans q35) ⟨rfl,rfl,rfl,rfl,rfl,trivial⟩ rfl ?_
   obtain⟨x76,h77,hF⟩:=aO hF
   refine go ?_ ?_
   refine fX (fY (mL 0 [9,12,32,115] rfl (bL h49 rfl) ⟨rfl,rfl,rfl,rfl,trivial⟩ rfl ?_))
   obtain rfl:=iR hF
   exact gW (.inl rfl) Tryz.results11 (.tmp rfl (.tmp rfl .nil)) rfl rfl
  refine go ?_ ?_
  refine aC hF rfl (fun h78 hF=>?_) (fun h78 hF=>?_)
  ·refine aMN 1 2 rfl rfl q41 (yY q40 q42) ?_
   obtain⟨v80,h81,hF⟩:=aO hF
   refine go ?_ ?_
   refine aH (gN (C:=(fZ aE.c)) 1 rfl tyS23 rfl ((uR _ _).trans q35) (aG h81).1 (aG h81).2.1) zU2 ?_
   obtain⟨x82,h83,hF⟩:=aO hF
   have hF:=qB h81 hF
   refine go ?_ ?_
   refine aH (gN (C:=(fZ aE.c)) 1 rfl tyS23 rfl ((uR _ _).trans q35) (aG h81).1 (aG h81).2.1) zU2 ?_
   obtain⟨x86,h87,hF⟩:=aO hF
   refine go ?_ ?_
   refine fX (fY (mL 1 [8,10,33,42,47,72,74,114] rfl (bE h87 ((uR _ _).trans q35)) ⟨rfl,rfl,rfl,rfl,rfl,rfl,rfl,rfl,trivial⟩ rfl ?_))
   refine mL 0 [9,12,32,115] rfl (bL h49 rfl) ⟨rfl,rfl,rfl,rfl,trivial⟩ rfl ?_
   obtain rfl:=iR hF
   exact gW (.inl rfl) Tryz.results11 (.tmp rfl (.tmp rfl .nil)) rfl rfl
  refine go ?_ ?_
  refine aC hF rfl (fun h89 hF=>?_) (fun h89 hF=>?_)
  ·refine aK (fL ?_)
   refine aH (fG (is:=[]) (xs:=[]) (ps:=[]) rfl tyB42r rfl rfl trivial rfl) trivial ?_
   refine aH (gP (C:=aE.c) (xs:=[.tmp 84]) (ps:=[.va (([pB false]++[pS cI ([]:List Int)])++([pB false]++[pS cI ([]:List Int)]))]) (zs:=[(⟨(⟨false,([]:List Int)⟩:aB),(⟨false,([]:List Int)⟩:aB)⟩:aE)]) rfl tyS24 rfl ⟨⟨trivial,rfl⟩,trivial⟩ rfl) zU1 ?_
   obtain⟨x90,h91,hF⟩:=aO hF
   refine kK 0 rfl tyS24 rfl rfl (bL h49 rfl) rfl rfl h91 (fun b92 c93 H94 e95=>?_)
   cases e95
   refine go ?_ ?_
   refine fX (fY (aJl 1 2 rfl rfl q41 (yY q40 q42) ?_))
   refine mL 1 [8,10,33,42,47,114] rfl ((uR _ _).trans q35) ⟨rfl,rfl,rfl,rfl,rfl,rfl,trivial⟩ rfl ?_
   refine mL 0 [9,12,86,115] rfl (bL h91 (bL h49 rfl)) ⟨rfl,rfl,rfl,rfl,trivial⟩ rfl ?_
   obtain rfl:=iR hF
   exact gW (.inl rfl) Tryz.results11 (.tmp rfl (.tmp rfl .nil)) rfl rfl
  refine go ?_ ?_
  refine aC hF rfl (fun h98 hF=>?_) (fun h98 hF=>?_)
  ·have hF:=qB h69 hF
   obtain⟨v101,h102,hF⟩:=aO hF
   refine go ?_ ?_
   refine aH (gN (2+v68) rfl tyS24 (s9 2 rfl q41 q40 (q42 _ (aT h69))) (fQ q41 q40 (q42 _ (aT h69))) (aG h102).1 (aG h102).2.1) zU2 ?_
   refine aH (aFF (off:=0) (k:=2) rfl tyF42_1) zU1 ?_
   refine aH (aFF (off:=2) (k:=0) rfl tyF40_0) zU1 ?_
   obtain⟨x103,h104,hF⟩:=aO hF
   refine lI (wB (H':=([hO aE.c b50 c51 42 (0+a1.length) x48,hO (cH g38) b32 c33 24 n34 x31]++gD aE.c 42 g38 (x37.set v68 x103))) (2+v68) rfl (s9 2 rfl q41 q40 (q42 _ (aT h69))) h102 h104 tyO4.s (hH:=stN 2 rfl q41 q40 (q42 _ (aT h69)))) ⟨rfl,k_B _,trivial⟩ ?_
   refine go ?_ ?_
   refine fX (fY (aJl 1 2 rfl rfl (aEO q41 q40 (q42 _ (aT h69)) (bE h104 rfl)) (yY (aDd q40) q42) ?_))
   refine mL 1 [8,10,33,42,47,89,114] rfl ((uR _ _).trans q35) ⟨rfl,rfl,rfl,rfl,rfl,rfl,rfl,trivial⟩ rfl ?_
   refine mL 0 [9,12,32,115] rfl (bL h49 rfl) ⟨rfl,rfl,rfl,rfl,trivial⟩ rfl ?_
   obtain rfl:=iR hF
   exact gW (.inl rfl) Tryz.results11 (.tmp rfl (.tmp rfl .nil)) rfl rfl
  refine go ?_ ?_
  refine aC hF rfl (fun h107 hF=>?_) (fun h107 hF=>?_)
  ·refine go ?_ ?_
   refine aFl (aCM (C:=cI) (xs:=[]) (ps:=[]) (zs:=([]:List Int)) rfl tyS22 rfl trivial rfl) trivial (fun b108 _=>?_)
   refine fL ?_
   refine fL ?_
   obtain⟨v111,h112,hF⟩:=aO hF
   refine aH (gN (C:=aE.c) 1 rfl tyS24 rfl (bL h49 rfl) (aG h112).1 (aG h112).2.1) zU2 ?_
   obtain⟨x113,h114,hF⟩:=aO hF
   refine go ?_ ?_
   refine kK 0 rfl tyS22 rfl rfl rfl rfl rfl h114 (fun b115 c116 H117 e118=>?_)
   cases e118
   refine aH (gP (C:=cI) (xs:=[.const (.int .i64 (0))]) (ps:=[.vc (pI .i64 0)]) (zs:=[0]) rfl tyS22 rfl ⟨⟨trivial,rfl⟩,trivial⟩ rfl) ⟨oJ _ _,trivial⟩ ?_
   obtain⟨x120,h121,hF⟩:=aO hF
   refine kK 0 rfl tyS22 rfl rfl (bL h114 rfl) rfl rfl h121 (fun b122 c123 H124 e125=>?_)
   cases e125
   have hF:=qB h112 hF
   refine aH (gN (C:=aE.c) 1 rfl tyS24 rfl (bL h49 rfl) (aG h112).1 (aG h112).2.1) zU2 ?_
   refine aH (aFF (off:=0) (k:=0) rfl tyF42_0) zU1 ?_
   refine aH (aFF (off:=0) (k:=1) rfl tyF40_1) zU1 ?_
   refine wI 0 [110] rfl (bL h121 (bL h114 rfl)) zU1 rfl ?_
   obtain⟨x129,h130,hF⟩:=aO hF
   refine go ?_ ?_
   refine fX (fY (aJl 1 2 rfl rfl q41 (yY q40 q42) ?_))
   refine mL 1 [8,10,33,42,47,114] rfl ((uR _ _).trans q35) ⟨rfl,rfl,rfl,rfl,rfl,rfl,trivial⟩ rfl ?_
   refine mL 0 [9,12,32,99,102,115] rfl (bE h130 (bL h49 rfl)) ⟨rfl,rfl,rfl,rfl,rfl,rfl,trivial⟩ rfl ?_
   obtain rfl:=iR hF
   exact gW (.inl rfl) Tryz.results11 (.tmp rfl (.tmp rfl .nil)) rfl rfl
  have hF:=qB h69 hF
  obtain⟨v137,h138,hF⟩:=aX hF gQ
  obtain⟨v139,h140,hF⟩:=aO hF
  obtain⟨v141,h142,hF⟩:=aX hF zB
  obtain⟨v143,h144,hF⟩:=aO hF
  refine iG [0,0,3,7,0,0,32,96,224,511,1023] 10 1 [.v (.vc (pO b32 n34 c33)),.v (.vc (pI .i64 v64)),.v (.vc (pE b32 v64 (cH g38).n 0)),.v (.vc (pO (jB g38 v68).1 (jB g38 v68).2.1 (jB g38 v68).2.2)),.v (.vc (pI .i64 v70)),.v (.vc (pI .i64 a3)),.v (.vc (pI .i64 v137)),.v (.vc (pI .i64 v139)),.v (.va (aE.e v141)),.v (.vc (pE (jB g38 v68).1 v70 aE.c.n 0))] aW ⟨d0 (aM (.inl rfl)) zU1,d0 (aM (.inl rfl)) zU1,d0 (gN (C:=(cH g38)) 1 rfl tyS23 rfl q35 (aG h69).1 (aG h69).2.1) zU2,d0 (lZ (C:=(cH g38)) (k:=1) 1 rfl rfl h69 rfl (.one tyO24) rfl) zU1,d0 (aM (.inl rfl)) zU1,d0 (aM (.inl rfl)) zU1,d0 (bD rfl h138 rfl) ⟨rfl,oJ _ _,trivial⟩,d0 (aHp rfl h140) ⟨rfl,oJ _ _,trivial⟩,d0 (bD rfl h142 rfl) ⟨rfl,oJ _ _,trivial⟩,d0 (gN (2+v68) rfl tyS24 (kX 2 rfl q41 q40 (q42 _ (aT h69))) (fQ q41 q40 (q42 _ (aT h69))) (aG h144).1 (aG h144).2.1) zU2,trivial⟩ (fun bs134 G133=>?_)
  obtain⟨x145,h146,hF⟩:=aO hF
  refine lI (wB (H':=([hO aE.c b50 c51 42 (0+a1.length) x48,hO (cH g38) b32 c33 24 n34 x31]++gD aE.c 42 g38 (x37.set v68 x145))) (2+v68) rfl (s9 2 rfl q41 q40 (q42 _ (aT h69))) h144 h146 tyA42.s (hH:=stN 2 rfl q41 q40 (q42 _ (aT h69)))) zU2 ?_
  refine go ?_ ?_
  refine fX (fY (aJl 1 2 rfl rfl (aEO q41 q40 (q42 _ (aT h69)) (bE h146 rfl)) (yY (aDd q40) q42) ?_))
  refine mL 1 [8,10,33,42,47,55,114] rfl ((uR _ _).trans q35) ⟨rfl,rfl,rfl,rfl,rfl,rfl,rfl,trivial⟩ rfl ?_
  refine mL 0 [9,12,32,115] rfl (bL h49 rfl) ⟨rfl,rfl,rfl,rfl,trivial⟩ rfl ?_
  obtain rfl:=iR hF
  exact gW (.inl rfl) Tryz.results11 (.tmp rfl (.tmp rfl .nil)) rfl rfl
 obtain⟨⟨x31',x37'⟩,hL,hRl43⟩:=aO hF
 refine dW (fun k a w=>∃(x18:List Nat),∃(x24:List (List aE)),∃(x30:Int),∃(b19:Option Nat),∃(c20:Nat),∃(n21:Nat),∃(g25:List sE),∃(N26:Nat),cT K a0 k x18 x24 x30=some (x31',x37')∧x18.length=n21∧x24.length=N26∧d7 g25 x24∧(∀k∈x18,k<N26)∧hs _ ([hO (cH g25) b19 c20 24 n21 x18]++gD aE.c 42 g25 x24) [(0,.vc (pS (fZ aE.c) a0)),(1,.vc (pS aE.c a1)),(2,.vc (pI .i64 a2)),(3,.vc (pI .i64 a3)),(10,.vc (pO b19 n21 c20)),(11,.vc (pI .i64 x30))] a w) K (fun a w ⟨_,_,_,_,_,_,_,_,hF,_,_,_,_,_⟩=>by cases hF) (fun k a w ⟨x18,x24,x30,b19,c20,n21,g25,N26,hF,q22,q27,q28,q29,hh⟩=>dV ?_ hh) (fun a w hh=>⟨([]:List Nat),([]:List (List aE)),0,none,0,0,([]:List sE),0,hL,rfl,(rfl),aDn,(by simp),aV 1 [0] rfl rfl (by decide) (by exact⟨rfl,rfl,rfl,rfl,rfl,rfl,trivial⟩) hh⟩)
 rw [cT.eq_2] at hF
 refine go ?_ ?_
 refine aC hF rfl (fun h149 hF=>?_) (fun h149 hF=>?_)
 ·refine go ?_ ?_
  refine aI (aK (fL ?_))
  refine aFl (aCM (C:=aE.c) (xs:=[]) (ps:=[]) (zs:=([]:List aE)) rfl tyS24 rfl trivial rfl) trivial (fun b150 _=>?_)
  obtain⟨v153,h154,x155,h156,hF⟩:=tY hF
  refine go ?_ ?_
  refine kK 0 rfl tyS24 rfl rfl rfl rfl rfl h156 (fun b157 c158 H159 e160=>?_)
  cases e160
  refine aH (aLE (rs:=x24) rfl tyS23 q28.1 (show([hO aE.c b157 c158 42 (0+v153.length) x155,hO (cH (g25++[(b157,(0+v153.length),c158)])) b19 c20 24 n21 x18]++gD aE.c 42 g25 x24)=([hO aE.c b157 c158 42 (0+v153.length) x155,hO (cH g25) b19 c20 24 n21 x18]++gD aE.c 42 g25 x24) from by rw [aGn (N:=x24.length) (b157,(0+v153.length),c158) q28.1 (yY q27 q29)])) zU1 ?_
  refine aEc (g:=(b157,(0+v153.length),c158)) 0 2 rfl rfl rfl q28 ?_
  obtain⟨x163,h164,hF⟩:=aO hF
  refine kK 0 rfl tyS23 rfl rfl q22 rfl rfl h164 (fun b165 c166 H167 e168=>?_)
  cases e168
  obtain⟨v170,h171,hF⟩:=aO hF
  refine go ?_ ?_
  exact aF (fun a w hh=>⟨x163,(x24++[x155]),v170,b165,c166,(n21+[x24.length].length),(g25++[(b157,(0+v153.length),c158)]),(N26+1),hF,(bL h164 q22),(aCX q27),(aAB q28 (bL h156 rfl)),(aIF q29 q27 h164),aV 1 [0] rfl rfl (by decide) (by exact⟨rfl,rfl,rfl,rfl,rfl,rfl,trivial⟩) hh⟩)
 refine bI ?_
 obtain⟨rfl,rfl⟩:=sm2 hF
 exact iE Jj44 ⟨x18,x24,b19,c20,n21,g25,N26,hRl43,q22,q27,q28,q29,rfl,rfl⟩ 1 [0] rfl rfl ⟨rfl,rfl,rfl,rfl,trivial⟩
def m5 (K:Nat):Option Bool:=
 some true
def gI (K:Nat) (a0:List aE):Nat→Int→Option (LR Bool Unit)
 |0,_=>none
 |k+1,x2=>bif(decide (x2<(a0.length:Int))) then((bO a0 x2).bind fun v6=>(jG K v6).bind fun v9=>bif(!v9) then(some (.ret false)) else((aR (x2+1)).bind fun v12=>gI K a0 k v12)) else(some (.go ()))
def jK (K:Nat) (a0:List aE):Option Bool:=
 (gI K a0 K 0).bind fun o=>match o with| .ret r=>some r| .go _=>m5 K
theorem sQ {K:Nat} {a0:List aE} {r:Bool} (hF:jK K a0=some r):Ct Tryz.prog 56 [.vc (pS aE.c a0)] (.vc (pB r)):=by
 unfold jK at hF
 refine aA Tryz.func56 rfl (by kernel_rfl) Tryz.ntmps56 rfl (fun w0 M0=>?_)
 refine go ?_ ?_
 refine aI (aY (fun H E=>m5 K=some r∧H=[]∧E=[]) ?_ (fun Jj4=>?_))
 ·rintro _ _ ⟨hF,rfl,rfl⟩
  unfold m5 at hF
  exact bP
 obtain⟨ol3,hL,hRl3⟩:=aO hF
 refine dW (fun k a w=>∃(x2:Int),gI K a0 k x2=some ol3∧hs _ [] [(5,.vc (pS aE.c a0)),(6,.vc (pI .i64 (a0.length:Int))),(7,.vc (pI .i64 x2))] a w) K (fun a w ⟨_,hF,_⟩=>by cases hF) (fun k a w ⟨x2,hF,hh⟩=>dV ?_ hh) (fun a w hh=>⟨0,hL,gO [] hh⟩)
 rw [gI.eq_2] at hF
 refine go ?_ ?_
 refine aC hF rfl (fun h5 hF=>?_) (fun h5 hF=>?_)
 ·refine go ?_ ?_
  refine aI ?_
  obtain⟨v6,h7,hF⟩:=aO hF
  refine go ?_ ?_
  refine aL rfl tyZ42r (fun b8=>?_)
  obtain⟨v9,h10,hF⟩:=aX hF aCC
  refine go ?_ ?_
  refine aC hF rfl (fun h11 hF=>?_) (fun h11 hF=>?_)
  ·exact bP
  obtain⟨v12,h13,hF⟩:=aO hF
  refine go ?_ ?_
  exact aF (fun a w hh=>⟨v12,hF,gO [] hh⟩)
 refine bI ?_
 obtain rfl:=iR hF
 exact p6 Jj4 ⟨hRl3,rfl,rfl⟩ []
def mG (K:Nat):Option Bool:=
 some true
def fR (K:Nat) (a0:List (List aE)) (a1:List aE):Nat→Int→Option (LR Bool Unit)
 |0,_=>none
 |k+1,x7=>bif(decide (x7<(a0.length:Int))) then((bO a0 x7).bind fun v11=>bif((v11.length:Int) != (a1.length:Int)) then(some (.ret false)) else((jK K v11).bind fun v14=>bif(!v14) then(some (.ret false)) else((aR (x7+1)).bind fun v17=>fR K a0 a1 k v17))) else(some (.go ()))
def gA (K:Nat) (a0:List (List aE)) (a1:List aE):Option Bool:=
 bif((a0.length:Int) != (a1.length:Int)) then(some false) else(bif(decide (32<(a0.length:Int))) then(some false) else((jK K a1).bind fun v3=>bif(!v3) then(some false) else((fR K a0 a1 K 0).bind fun o=>match o with| .ret r=>some r| .go _=>mG K)))
theorem aAm {K:Nat} {a0:List (List aE)} {a1:List aE} {r:Bool} (hF:gA K a0 a1=some r):Ct Tryz.prog 43 [.vc (pS (fZ aE.c) a0),.vc (pS aE.c a1)] (.vc (pB r)):=by
 unfold gA at hF
 refine aA Tryz.func43 rfl (by kernel_rfl) Tryz.ntmps43 rfl (fun w0 M0=>?_)
 refine go ?_ ?_
 refine cG hF (fun h1 hF=>?_) (fun h1 hF=>?_)
 ·refine go ?_ ?_
  refine eU rfl ?_
  exact bP
 refine go ?_ ?_
 refine cG hF (fun h2 hF=>?_) (fun h2 hF=>?_)
 ·refine go ?_ ?_
  refine eU rfl ?_
  exact bP
 obtain⟨v3,h4,hF⟩:=aX hF sQ
 refine go ?_ ?_
 refine aC hF rfl (fun h5 hF=>?_) (fun h5 hF=>?_)
 ·exact bP
 refine go ?_ ?_
 refine aI (aY (fun H E=>mG K=some r∧H=[]∧E=[]) ?_ (fun Jj9=>?_))
 ·rintro _ _ ⟨hF,rfl,rfl⟩
  unfold mG at hF
  exact bP
 obtain⟨ol8,hL,hRl8⟩:=aO hF
 refine dW (fun k a w=>∃(x7:Int),fR K a0 a1 k x7=some ol8∧hs _ [] [(1,.vc (pS aE.c a1)),(22,.vc (pS (fZ aE.c) a0)),(23,.vc (pI .i64 (a0.length:Int))),(24,.vc (pI .i64 x7))] a w) K (fun a w ⟨_,hF,_⟩=>by cases hF) (fun k a w ⟨x7,hF,hh⟩=>dV ?_ hh) (fun a w hh=>⟨0,hL,gO [] hh⟩)
 rw [fR.eq_2] at hF
 refine go ?_ ?_
 refine aC hF rfl (fun h10 hF=>?_) (fun h10 hF=>?_)
 ·refine go ?_ ?_
  refine aI ?_
  obtain⟨v11,h12,hF⟩:=aO hF
  refine go ?_ ?_
  refine cG hF (fun h13 hF=>?_) (fun h13 hF=>?_)
  ·refine go ?_ ?_
   refine eU rfl ?_
   exact bP
  obtain⟨v14,h15,hF⟩:=aX hF sQ
  refine go ?_ ?_
  refine aC hF rfl (fun h16 hF=>?_) (fun h16 hF=>?_)
  ·exact bP
  obtain⟨v17,h18,hF⟩:=aO hF
  refine go ?_ ?_
  exact aF (fun a w hh=>⟨v17,hF,gO [] hh⟩)
 refine bI ?_
 obtain rfl:=iR hF
 exact p6 Jj9 ⟨hRl8,rfl,rfl⟩ []
def mD (K:Nat):Option Bool:=
 some true
def fU (K:Nat) (a0:List aE):Nat→Int→Option (LR Bool Unit)
 |0,_=>none
 |k+1,x2=>bif(decide (x2<(a0.length:Int))) then((bO a0 x2).bind fun v6=>(bT K v6).bind fun v8=>bif(!v8) then(some (.ret false)) else((aR (x2+1)).bind fun v11=>fU K a0 k v11)) else(some (.go ()))
def iP (K:Nat) (a0:List aE):Option Bool:=
 (fU K a0 K 0).bind fun o=>match o with| .ret r=>some r| .go _=>mD K
theorem rT {K:Nat} {a0:List aE} {r:Bool} (hF:iP K a0=some r):Ct Tryz.prog 63 [.vc (pS aE.c a0)] (.vc (pB r)):=by
 unfold iP at hF
 refine aA Tryz.func63 rfl (by kernel_rfl) Tryz.ntmps63 rfl (fun w0 M0=>?_)
 refine go ?_ ?_
 refine aI (aY (fun H E=>mD K=some r∧H=[]∧E=[]) ?_ (fun Jj4=>?_))
 ·rintro _ _ ⟨hF,rfl,rfl⟩
  unfold mD at hF
  exact bP
 obtain⟨ol3,hL,hRl3⟩:=aO hF
 refine dW (fun k a w=>∃(x2:Int),fU K a0 k x2=some ol3∧hs _ [] [(0,.vc (pS aE.c a0)),(3,.vc (pI .i64 x2))] a w) K (fun a w ⟨_,hF,_⟩=>by cases hF) (fun k a w ⟨x2,hF,hh⟩=>dV ?_ hh) (fun a w hh=>⟨0,hL,gO [] hh⟩)
 rw [fU.eq_2] at hF
 refine go ?_ ?_
 refine aC hF rfl (fun h5 hF=>?_) (fun h5 hF=>?_)
 ·refine go ?_ ?_
  refine aI ?_
  obtain⟨v6,h7,hF⟩:=aO hF
  obtain⟨v8,h9,hF⟩:=aX hF w8
  refine go ?_ ?_
  refine aC hF rfl (fun h10 hF=>?_) (fun h10 hF=>?_)
  ·exact bP
  obtain⟨v11,h12,hF⟩:=aO hF
  refine go ?_ ?_
  exact aF (fun a w hh=>⟨v11,hF,gO [] hh⟩)
 refine bI ?_
 obtain rfl:=iR hF
 exact p6 Jj4 ⟨hRl3,rfl,rfl⟩ []
def lP (K:Nat):Option Bool:=
 some true
def eW (K:Nat) (a0:List (List aE)) (a1:List aE):Nat→Int→Option (LR Bool Unit)
 |0,_=>none
 |k+1,x7=>bif(decide (x7<(a0.length:Int))) then((bO a0 x7).bind fun v11=>bif((v11.length:Int) != (a1.length:Int)) then(some (.ret false)) else((bO a0 x7).bind fun v14=>(iP K v14).bind fun v16=>bif(!v16) then(some (.ret false)) else((aR (x7+1)).bind fun v19=>eW K a0 a1 k v19))) else(some (.go ()))
def fC (K:Nat) (a0:List (List aE)) (a1:List aE):Option Bool:=
 bif((a0.length:Int) != (a1.length:Int)) then(some false) else(bif(decide (32<(a1.length:Int))) then(some false) else((iP K a1).bind fun v3=>bif(!v3) then(some false) else((eW K a0 a1 K 0).bind fun o=>match o with| .ret r=>some r| .go _=>lP K)))
theorem zJ {K:Nat} {a0:List (List aE)} {a1:List aE} {r:Bool} (hF:fC K a0 a1=some r):Ct Tryz.prog 28 [.vc (pS (fZ aE.c) a0),.vc (pS aE.c a1)] (.vc (pB r)):=by
 unfold fC at hF
 refine aA Tryz.func28 rfl (by kernel_rfl) Tryz.ntmps28 rfl (fun w0 M0=>?_)
 refine go ?_ ?_
 refine cG hF (fun h1 hF=>?_) (fun h1 hF=>?_)
 ·refine go ?_ ?_
  refine eU rfl ?_
  exact bP
 refine go ?_ ?_
 refine cG hF (fun h2 hF=>?_) (fun h2 hF=>?_)
 ·refine go ?_ ?_
  refine eU rfl ?_
  exact bP
 obtain⟨v3,h4,hF⟩:=aX hF rT
 refine go ?_ ?_
 refine aC hF rfl (fun h5 hF=>?_) (fun h5 hF=>?_)
 ·exact bP
 refine go ?_ ?_
 refine aI (aY (fun H E=>lP K=some r∧H=[]∧E=[]) ?_ (fun Jj9=>?_))
 ·rintro _ _ ⟨hF,rfl,rfl⟩
  unfold lP at hF
  exact bP
 obtain⟨ol8,hL,hRl8⟩:=aO hF
 refine dW (fun k a w=>∃(x7:Int),eW K a0 a1 k x7=some ol8∧hs _ [] [(0,.vc (pS (fZ aE.c) a0)),(1,.vc (pS aE.c a1)),(5,.vc (pI .i64 x7))] a w) K (fun a w ⟨_,hF,_⟩=>by cases hF) (fun k a w ⟨x7,hF,hh⟩=>dV ?_ hh) (fun a w hh=>⟨0,hL,gO [] hh⟩)
 rw [eW.eq_2] at hF
 refine go ?_ ?_
 refine aC hF rfl (fun h10 hF=>?_) (fun h10 hF=>?_)
 ·refine go ?_ ?_
  refine aI ?_
  obtain⟨v11,h12,hF⟩:=aO hF
  refine go ?_ ?_
  refine cG hF (fun h13 hF=>?_) (fun h13 hF=>?_)
  ·refine go ?_ ?_
   refine eU rfl ?_
   exact bP
  have hF:=qB h12 hF
  obtain⟨v16,h17,hF⟩:=aX hF rT
  refine go ?_ ?_
  refine aC hF rfl (fun h18 hF=>?_) (fun h18 hF=>?_)
  ·exact bP
  obtain⟨v19,h20,hF⟩:=aO hF
  refine go ?_ ?_
  exact aF (fun a w hh=>⟨v19,hF,gO [] hh⟩)
 refine bI ?_
 obtain rfl:=iR hF
 exact p6 Jj9 ⟨hRl8,rfl,rfl⟩ []
abbrev aAF:Nat:=16
def lY (K:Nat) (a0:List (List aE)) (a1:List aE) (a2:List aE):Option Bool:=
 (gA K a0 a1).bind fun v1=>bif(!v1) then(some false) else(bif((a2.length:Int) != (a1.length:Int)) then(some false) else((jK K a2).bind fun v5=>bif(!v5) then(some false) else(none)))
theorem aAp {K:Nat} {a0:List (List aE)} {a1:List aE} {a2:List aE} {r:Bool} (hF:lY K a0 a1 a2=some r):Ct Tryz.prog 16 [.vc (pS (fZ aE.c) a0),.vc (pS aE.c a1),.vc (pS aE.c a2)] (.vc (pB r)):=by
 unfold lY at hF
 refine aA Tryz.func16 rfl (by kernel_rfl) Tryz.ntmps16 rfl (fun w0 M0=>?_)
 obtain⟨v1,h2,hF⟩:=aX hF aAm
 refine go ?_ ?_
 refine cG hF (fun h3 hF=>?_) (fun h3 hF=>?_)
 ·refine go ?_ ?_
  refine eU rfl ?_
  exact bP
 refine go ?_ ?_
 refine cG hF (fun h4 hF=>?_) (fun h4 hF=>?_)
 ·refine go ?_ ?_
  refine eU rfl ?_
  exact bP
 obtain⟨v5,h6,hF⟩:=aX hF sQ
 refine go ?_ ?_
 refine cG hF (fun h7 hF=>?_) (fun h7 hF=>?_)
 ·refine go ?_ ?_
  refine eU rfl ?_
  exact bP
 cases hF
abbrev aAf:Nat:=23
def lJ (K:Nat) (a0:List (List aE)) (a1:List aE) (a2:List aE):Option Bool:=
 (fC K a0 a1).bind fun v1=>bif(!v1) then(some false) else(bif((a2.length:Int) != (a1.length:Int)) then(some false) else((iP K a2).bind fun v5=>bif(!v5) then(some false) else(none)))
theorem zW {K:Nat} {a0:List (List aE)} {a1:List aE} {a2:List aE} {r:Bool} (hF:lJ K a0 a1 a2=some r):Ct Tryz.prog 23 [.vc (pS (fZ aE.c) a0),.vc (pS aE.c a1),.vc (pS aE.c a2)] (.vc (pB r)):=by
 unfold lJ at hF
 refine aA Tryz.func23 rfl (by kernel_rfl) Tryz.ntmps23 rfl (fun w0 M0=>?_)
 obtain⟨v1,h2,hF⟩:=aX hF zJ
 refine go ?_ ?_
 refine cG hF (fun h3 hF=>?_) (fun h3 hF=>?_)
 ·refine go ?_ ?_
  refine eU rfl ?_
  exact bP
 refine go ?_ ?_
 refine cG hF (fun h4 hF=>?_) (fun h4 hF=>?_)
 ·refine go ?_ ?_
  refine eU rfl ?_
  exact bP
 obtain⟨v5,h6,hF⟩:=aX hF rT
 refine go ?_ ?_
 refine cG hF (fun h7 hF=>?_) (fun h7 hF=>?_)
 ·refine go ?_ ?_
  refine eU rfl ?_
  exact bP
 cases hF
def cC (a0:List Int) (a1:Int) (a2:Int):Option Int:=
 bif(decide (a1<0)) then(some 0) else(bif(decide ((a0.length:Int)≤a1)) then(some 0) else((bO a0 a1).bind fun v3=>(cE v3 a2).bind fun v5=>some v5))
theorem lS {a0:List Int} {a1:Int} {a2:Int} {r:Int} (hF:cC a0 a1 a2=some r):Ct Tryz.prog 39 [.vc (pS cI a0),.vc (pI .i64 a1),.vc (pI .i64 a2)] (.vc (pI .i64 r)):=by
 unfold cC at hF
 refine aA Tryz.func39 rfl (by kernel_rfl) Tryz.ntmps39 rfl (fun w0 M0=>?_)
 refine go ?_ ?_
 refine cG hF (fun h1 hF=>?_) (fun h1 hF=>?_)
 ·refine go ?_ ?_
  refine eU rfl ?_
  exact bP
 refine go ?_ ?_
 refine aC hF rfl (fun h2 hF=>?_) (fun h2 hF=>?_)
 ·exact bP
 obtain⟨v3,h4,hF⟩:=aO hF
 obtain⟨v5,h6,hF⟩:=aX hF gQ
 exact bP
def jX (a0:Int):Option Rat:=
 (cE a0 60).bind fun v2=>bif(decide (v2<24)) then(some 0) else((zP v2 9).bind fun v5=>(aR (v5-4)).bind fun v7=>(zL v2 9).bind fun v9=>(zP v9 3).bind fun v11=>(aR (1+v11)).bind fun v13=>(qof v7 v13).bind fun v15=>some v15)
theorem aA3 {a0:Int} {r:Rat} (hF:jX a0=some r):Ct Tryz.prog 40 [.vc (pI .i64 a0)] (.va (eQ r)):=by
 unfold jX at hF
 refine aA Tryz.func40 rfl (by kernel_rfl) Tryz.ntmps40 rfl (fun w0 M0=>?_)
 refine aD (aK (aL rfl tyZ42q (fun b1=>?_)))
 obtain⟨v2,h3,hF⟩:=aX hF gQ
 refine go ?_ ?_
 refine aC hF rfl (fun h4 hF=>?_) (fun h4 hF=>?_)
 ·refine aD (aK (aH (fG (is:=[]) (xs:=[]) (ps:=[]) rfl tyB42q rfl rfl trivial rfl) trivial ?_))
  exact bP
 obtain⟨v5,h6,v7,h8,v9,h10,v11,h12,hF⟩:=bn4 hF
 obtain⟨v13,h14,hF⟩:=aO hF
 obtain⟨v15,h16,hF⟩:=aX hF cR
 exact bP
def qX (K:Nat) (x7:Rat):Option Rat:=
 some x7
def jU (K:Nat) (a0:List Rat) (a1:List Rat):Nat→Rat→Int→Option Rat
 |0,_,_=>none
 |k+1,x5,x6=>bif(decide (x6<(a0.length:Int))) then(bif(decide (x6<(a1.length:Int))) then((bO a0 x6).bind fun v14=>(bO a1 x6).bind fun v16=>(aES v14 v16).bind fun v18=>(aDR x5 v18).bind fun v20=>(aR (x6+1)).bind fun v22=>jU K a0 a1 k v20 v22) else(some x5)) else(some x5)
def kR (K:Nat) (a0:List Rat) (a1:List Rat):Option Rat:=
 (jU K a0 a1 K 0 0).bind fun x7=>qX K x7
theorem vI {K:Nat} {a0:List Rat} {a1:List Rat} {r:Rat} (hF:kR K a0 a1=some r):Ct Tryz.prog 42 [.vc (pS cQ a0),.vc (pS cQ a1)] (.va (eQ r)):=by
 unfold kR at hF
 refine aA Tryz.func42 rfl (by kernel_rfl) Tryz.ntmps42 rfl (fun w0 M0=>?_)
 refine aD (aK (aL rfl tyZ42q (fun b1=>?_)))
 refine go ?_ ?_
 refine aL rfl tyZ42q (fun b2=>?_)
 refine go ?_ ?_
 refine aI (aY (fun H E=>∃(x7:Rat),qX K x7=some r∧H=[⟨some b2,1,42,4,1,(eQ x7)⟩,⟨some b1,1,42,4,1,(eQ 0)⟩]∧E=[(4,.vc (pP (some b1) 0)),(5,.vc (pP (some b2) 0))]) ?_ (fun Jj9=>?_))
 ·rintro _ _ ⟨x7,hF,rfl,rfl⟩
  unfold qX at hF
  exact bP
 obtain⟨x7',hL,hRl8⟩:=aO hF
 refine dW (fun k a w=>∃(x5:Rat),∃(x6:Int),jU K a0 a1 k x5 x6=some x7'∧hs _ [⟨some b2,1,42,4,1,(eQ x5)⟩,⟨some b1,1,42,4,1,(eQ 0)⟩] [(0,.vc (pS cQ a0)),(1,.vc (pS cQ a1)),(4,.vc (pP (some b1) 0)),(5,.vc (pP (some b2) 0)),(6,.vc (pI .i64 x6))] a w) K (fun a w ⟨_,_,hF,_⟩=>by cases hF) (fun k a w ⟨x5,x6,hF,hh⟩=>dV ?_ hh) (fun a w hh=>⟨0,0,hL,gO [0,1] hh⟩)
 rw [jU.eq_2] at hF
 refine go ?_ ?_
 refine cG hF (fun h10 hF=>?_) (fun h10 hF=>?_)
 ·refine go ?_ ?_
  refine aC hF rfl (fun h11 hF=>?_) (fun h11 hF=>?_)
  ·refine go ?_ ?_
   refine aI ?_
   obtain⟨v14,h15,hF⟩:=aO hF
   obtain⟨v16,h17,hF⟩:=aO hF
   obtain⟨v18,h19,hF⟩:=aX hF yN
   obtain⟨v20,h21,hF⟩:=aX hF pJ
   refine dr [0,0,0,6,14,0,0,96,224,510,1023,2047] 11 1 ?_ (fun bs13 G12=>?_)
   obtain⟨v22,h23,hF⟩:=aO hF
   refine go ?_ ?_
   exact aF (fun a w hh=>⟨v20,v22,hF,gO [0,1] hh⟩)
  refine bI ?_
  obtain rfl:=iR hF
  exact p6 Jj9 ⟨x5,hRl8,rfl,rfl⟩ [0,1]
 refine go ?_ ?_
 refine uV rfl ?_
 refine bI ?_
 obtain rfl:=iR hF
 exact p6 Jj9 ⟨x5,hRl8,rfl,rfl⟩ [0,1]
def l7 (K:Nat) (x37:List Rat) (x119:List (List Rat)):Option ((List (List Rat))×(List Rat)):=
 some (x119,x37)
def lX (K:Nat) (v5:Int) (x112:List (List Rat)) (x118:Int) (recl125:(List (List Rat))→Int→Option (List (List Rat))) (x144:List Rat):Option (List (List Rat)):=
 bif(v5==2) then((bO x144 x118).bind fun v155=>(qof 1 1).bind fun v157=>(aDR v155 v157).bind fun v159=>(bO x144 x118).bind fun v161=>(pA x144 x118 v159).bind fun x163=>(sD x112 [x163]).bind fun x166=>(aR (x118+1)).bind fun v173=>recl125 x166 v173) else((sD x112 [x144]).bind fun x175=>(aR (x118+1)).bind fun v182=>recl125 x175 v182)
def eY (K:Nat) (v3:Int) (x43:List (List Rat)) (x118:Int):Nat→(List Rat)→Int→Option (List Rat)
 |0,_,_=>none
 |k+1,x137,x143=>bif(decide (x143<v3)) then((bO x43 x118).bind fun v187=>(bO x43 x143).bind fun v189=>(kR K v187 v189).bind fun v191=>(sD x137 [v191]).bind fun x193=>(aR (x143+1)).bind fun v200=>eY K v3 x43 x118 k x193 v200) else(some x137)
def cO (K:Nat) (v3:Int) (v5:Int) (x43:List (List Rat)):Nat→(List (List Rat))→Int→Option (List (List Rat))
 |0,_,_=>none
 |k+1,x112,x118=>bif(decide (x118<v3)) then((eY K v3 x43 x118 K ([]:List Rat) 0).bind fun x144=>lX K v5 x112 x118 (cO K v3 v5 x43 k) x144) else(some x112)
def lW (K:Nat) (x37:List Rat) (x218:List (List Rat)):Option ((List (List Rat))×(List Rat)):=
 some (x218,x37)
def l5 (K:Nat) (v5:Int) (x211:List (List Rat)) (x217:Int) (recl224:(List (List Rat))→Int→Option (List (List Rat))) (x243:List Rat):Option (List (List Rat)):=
 bif(v5==2) then((bO x243 x217).bind fun v254=>(qof 1 1).bind fun v256=>(aDR v254 v256).bind fun v258=>(bO x243 x217).bind fun v260=>(pA x243 x217 v258).bind fun x262=>(sD x211 [x262]).bind fun x265=>(aR (x217+1)).bind fun v272=>recl224 x265 v272) else((sD x211 [x243]).bind fun x274=>(aR (x217+1)).bind fun v281=>recl224 x274 v281)
def eV (K:Nat) (v3:Int) (x43:List (List Rat)) (x217:Int):Nat→(List Rat)→Int→Option (List Rat)
 |0,_,_=>none
 |k+1,x236,x242=>bif(decide (x242<v3)) then((bO x43 x217).bind fun v286=>(bO x43 x242).bind fun v288=>(kR K v286 v288).bind fun v290=>(sD x236 [v290]).bind fun x292=>(aR (x242+1)).bind fun v299=>eV K v3 x43 x217 k x292 v299) else(some x236)
def cM (K:Nat) (v3:Int) (v5:Int) (x43:List (List Rat)):Nat→(List (List Rat))→Int→Option (List (List Rat))
 |0,_,_=>none
 |k+1,x211,x217=>bif(decide (x217<v3)) then((eV K v3 x43 x217 K ([]:List Rat) 0).bind fun x243=>l5 K v5 x211 x217 (cM K v3 v5 x43 k) x243) else(some x211)
def cY (K:Nat) (a0:List Int) (v3:Int) (v5:Int) (x37:List Rat) (x43:List (List Rat)):Option ((List (List Rat))×(List Rat)):=
 bif(v5==0) then(some (x43,x37)) else(bif(v3==0) then(some (x43,x37)) else(bif(v5==4) then(bif(decide (4≤v3)) then((qof 1 1).bind fun v56=>(cC a0 2 4).bind fun v59=>(qof v59 2).bind fun v61=>(cC a0 3 5).bind fun v64=>(aR (v64-2)).bind fun v66=>(qof v66 2).bind fun v68=>(qof 2 1).bind fun v71=>(qof (-1) 1).bind fun v74=>(aCr v68).bind fun v79=>(aCr v71).bind fun v81=>(aCr v68).bind fun v83=>(aCr v71).bind fun v85=>(slL x37 0 3).bind fun x89=>(sD ([]:List Rat) x89).bind fun x91=>(sD x91 [0]).bind fun x94=>some ([[v71,v68,v79,0],[v68,v71,v81,v56],[v83,v85,v71,v56],[v61,v74,v74,0]],x94)) else((cO K v3 v5 x43 K ([]:List (List Rat)) 0).bind fun x119=>l7 K x37 x119)) else((cM K v3 v5 x43 K ([]:List (List Rat)) 0).bind fun x218=>lW K x37 x218)))
def lR (K:Nat) (a0:List Int) (x24:List Rat) (x30:List (List Rat)) (x36:Int) (recl49:(List Rat)→(List (List Rat))→Int→Option ((List Rat)×(List (List Rat)))) (x318:List Rat):Option ((List Rat)×(List (List Rat))):=
 (sD x30 [x318]).bind fun x326=>(aR (40+x36)).bind fun v333=>(cC a0 v333 13).bind fun v335=>(aR (v335-8)).bind fun v337=>(aR (47+x36)).bind fun v339=>(cC a0 v339 2).bind fun v341=>(aR (1+v341)).bind fun v343=>(qof v337 v343).bind fun v345=>(sD x24 [v345]).bind fun x347=>(aR (x36+1)).bind fun v354=>recl49 x347 x326 v354
def eN (K:Nat) (a0:List Int) (v3:Int) (x36:Int):Nat→(List Rat)→Int→Option (List Rat)
 |0,_,_=>none
 |k+1,x311,x317=>bif(decide (x317<v3)) then((aR (6*x36)).bind fun v357=>(aR (3+v357)).bind fun v359=>(aR (v359+x317)).bind fun v361=>(cC a0 v361 60).bind fun v363=>(jX v363).bind fun v365=>(sD x311 [v365]).bind fun x367=>(aR (x317+1)).bind fun v374=>eN K a0 v3 x36 k x367 v374) else(some x311)
def eA (K:Nat) (a0:List Int) (v3:Int):Nat→(List Rat)→(List (List Rat))→Int→Option ((List Rat)×(List (List Rat)))
 |0,_,_,_=>none
 |k+1,x24,x30,x36=>bif(decide (x36<v3)) then((eN K a0 v3 x36 K ([]:List Rat) 0).bind fun x318=>lR K a0 x24 x30 x36 (eA K a0 v3 k) x318) else(some (x24,x30))
def kT (K:Nat) (a0:List Int) (a1:Int):Option ((List (List Rat))×(List Rat)):=
 (aR (a1+1)).bind fun v1=>(cC a0 0 v1).bind fun v3=>(cC a0 1 5).bind fun v5=>(eA K a0 v3 K ([]:List Rat) ([]:List (List Rat)) 0).bind fun(x37,x43)=>cY K a0 v3 v5 x37 x43
theorem aAE {K:Nat} {a0:List Int} {a1:Int} {r:(List (List Rat))×(List Rat)} (hF:kT K a0 a1=some r):Ct Tryz.prog 10 [.vc (pS cI a0),.vc (pI .i64 a1)] (.t2 (.vc (pS (fZ cQ) r.1)) (.vc (pS cQ r.2))):=by
 unfold kT at hF
 refine aA Tryz.func10 rfl (by kernel_rfl) Tryz.ntmps10 rfl (fun w0 M0=>?_)
 refine aD (aK (aH (aM (.inr rfl)) ⟨eM (fZ cQ),trivial⟩ ?_))
 refine aH (aM (.inr rfl)) ⟨eM cQ,trivial⟩ ?_
 refine aU (aJ (aD (aK (fL ?_))))
 refine fL ?_
 obtain⟨v1,h2,hF⟩:=aO hF
 refine aH (yU rfl h2) ⟨rfl,oJ _ _,trivial⟩ ?_
 obtain⟨v3,h4,hF⟩:=aX hF lS
 refine aH (bD rfl h4 rfl) ⟨rfl,oJ _ _,rfl,trivial⟩ ?_
 refine y6 ?_
 refine aU (aJ (aD (aK (fL ?_))))
 obtain⟨v5,h6,hF⟩:=aX hF lS
 refine aH (bD rfl h6 rfl) ⟨rfl,oJ _ _,oJ _ _,trivial⟩ ?_
 refine y6 ?_
 refine aU (aJ (aD (aK (pN (fZ cQ) 24 rfl ?_))))
 refine aU (aJ (aD (aK (pN cQ 42 rfl ?_))))
 refine go ?_ ?_
 refine aI (aY (fun H E=>∃(x37:List Rat),∃(x43:List (List Rat)),∃(b38:Option Nat),∃(c39:Nat),∃(n40:Nat),∃(b44:Option Nat),∃(c45:Nat),∃(n46:Nat),cY K a0 v3 v5 x37 x43=some r∧x37.length=n40∧x43.length=n46∧H=[hO cQ b38 c39 42 n40 x37,hO (fZ cQ) b44 c45 24 n46 x43]∧E=[(0,.vc (pS cI a0)),(6,.vc (pI .i64 v3)),(7,.vc (pI .i64 v5)),(8,.vc (pO b44 n46 c45)),(9,.vc (pO b38 n40 c39))]) ?_ (fun Jj50=>?_))
 ·rintro _ _ ⟨x37,x43,b38,c39,n40,b44,c45,n46,hF,q41,q47,rfl,rfl⟩
  unfold cY at hF
  refine go ?_ ?_
  refine cG hF (fun h51 hF=>?_) (fun h51 hF=>?_)
  ·refine go ?_ ?_
   refine eU rfl ?_
   refine go ?_ ?_
   refine fX (fY (mL 1 [4,8,74] rfl q47 ⟨rfl,rfl,rfl,trivial⟩ rfl ?_))
   refine mL 0 [5,9,75] rfl q41 ⟨rfl,rfl,rfl,trivial⟩ rfl ?_
   obtain rfl:=iR hF
   exact gW (.inl rfl) Tryz.results10 (.tmp rfl (.tmp rfl .nil)) rfl rfl
  refine go ?_ ?_
  refine aC hF rfl (fun h52 hF=>?_) (fun h52 hF=>?_)
  ·refine go ?_ ?_
   refine fX (fY (mL 1 [4,8,74] rfl q47 ⟨rfl,rfl,rfl,trivial⟩ rfl ?_))
   refine mL 0 [5,9,75] rfl q41 ⟨rfl,rfl,rfl,trivial⟩ rfl ?_
   obtain rfl:=iR hF
   exact gW (.inl rfl) Tryz.results10 (.tmp rfl (.tmp rfl .nil)) rfl rfl
  refine go ?_ ?_
  refine cG hF (fun h53 hF=>?_) (fun h53 hF=>?_)
  ·refine go ?_ ?_
   refine aC hF rfl (fun h54 hF=>?_) (fun h54 hF=>?_)
   ·refine aD (aK (aH (fG (is:=[]) (xs:=[]) (ps:=[]) rfl tyB42q rfl rfl trivial rfl) trivial ?_))
    refine aL rfl tyZ42q (fun b55=>?_)
    obtain⟨v56,h57,hF⟩:=aX hF cR
    refine go ?_ ?_
    refine aL rfl tyZ42q (fun b58=>?_)
    obtain⟨v59,h60,hF⟩:=aX hF lS
    obtain⟨v61,h62,hF⟩:=aX hF cR
    refine go ?_ ?_
    refine aL rfl tyZ42q (fun b63=>?_)
    obtain⟨v64,h65,hF⟩:=aX hF lS
    obtain⟨v66,h67,hF⟩:=aO hF
    obtain⟨v68,h69,hF⟩:=aX hF cR
    refine go ?_ ?_
    refine aL rfl tyZ42q (fun b70=>?_)
    obtain⟨v71,h72,hF⟩:=aX hF cR
    refine go ?_ ?_
    refine aL rfl tyZ42q (fun b73=>?_)
    obtain⟨v74,h75,hF⟩:=aX hF cR
    refine go ?_ ?_
    refine aL rfl tyZ42q (fun b76=>?_)
    refine lI (t_s 0 rfl rfl rfl tyA42.s) zU2 ?_
    refine aU (aJ (aD (aHA 6 [9] rfl q41 zU1 rfl ?_)))
    obtain⟨v79,h80,hF⟩:=aX hF o9
    obtain⟨v81,h82,hF⟩:=aX hF o9
    obtain⟨v83,h84,hF⟩:=aX hF o9
    obtain⟨v85,h86,hF⟩:=aX hF o9
    obtain⟨x89,h90,hF⟩:=aO hF
    obtain⟨x91,h92,hF⟩:=aO hF
    obtain⟨x94,h95,hF⟩:=aO hF
    refine tQ (HsM [(0,fun G77=>[⟨some b76,1,42,4,1,(eQ v74)⟩,⟨some b73,1,42,4,1,(eQ v71)⟩,⟨some b70,1,42,4,1,(eQ v68)⟩,⟨some b63,1,42,4,1,(eQ v61)⟩,⟨some b58,1,42,4,1,(eQ v56)⟩,⟨some b55,1,42,4,1,(eQ 0)⟩,hO (fZ cQ) b44 c45 24 n46 x43]),(1,fun G77=>[hO cQ ((G77 25).1) 0 42 0 ([]:List Rat),⟨some b76,1,42,4,1,(eQ v74)⟩,⟨some b73,1,42,4,1,(eQ v71)⟩,⟨some b70,1,42,4,1,(eQ v68)⟩,⟨some b63,1,42,4,1,(eQ v61)⟩,⟨some b58,1,42,4,1,(eQ v56)⟩,⟨some b55,1,42,4,1,(eQ 0)⟩,hO (fZ cQ) b44 c45 24 n46 x43]),(3,fun G77=>[hO cQ ((G77 28).1) ((G77 28).2) 42 (0+x89.length) x91,⟨some b76,1,42,4,1,(eQ v74)⟩,⟨some b73,1,42,4,1,(eQ v71)⟩,⟨some b70,1,42,4,1,(eQ v68)⟩,⟨some b63,1,42,4,1,(eQ v61)⟩,⟨some b58,1,42,4,1,(eQ v56)⟩,⟨some b55,1,42,4,1,(eQ 0)⟩,hO (fZ cQ) b44 c45 24 n46 x43]),(7,fun G77=>[hO cQ ((G77 31).1) ((G77 31).2) 42 ((0+x89.length)+[0].length) x94,⟨some b76,1,42,4,1,(eQ v74)⟩,⟨some b73,1,42,4,1,(eQ v71)⟩,⟨some b70,1,42,4,1,(eQ v68)⟩,⟨some b63,1,42,4,1,(eQ v61)⟩,⟨some b58,1,42,4,1,(eQ v56)⟩,⟨some b55,1,42,4,1,(eQ 0)⟩,hO (fZ cQ) b44 c45 24 n46 x43]),(15,fun G77=>[hO cQ ((G77 33).1) ((G77 33).2) 42 ((0+x89.length)+[0].length) x94,⟨some b76,1,42,4,1,(eQ v74)⟩,⟨some b73,1,42,4,1,(eQ v71)⟩,⟨some b70,1,42,4,1,(eQ v68)⟩,⟨some b63,1,42,4,1,(eQ v61)⟩,⟨some b58,1,42,4,1,(eQ v56)⟩,⟨some b55,1,42,4,1,(eQ 0)⟩,hO (fZ cQ) b44 c45 24 n46 x43])]) [25,28,31,33] (0::0::0::4::0::31::0::0::0::268::0::1996::0::4876::0::29452::0::0::258828::0::0::0::0::7864320::16777215::0::0::67108864::234943244::0::536870912::2113991436::4294967295::8589934591::[]) 34 0 (.v (.va (eQ v71))::.v (.va (eQ v68))::.v (.va (eQ v68))::.v (.va (eQ v79))::.v (.va (eQ 0))::.v (.vc (pS cQ [v71,v68,v79,0]))::.v (.va (eQ v68))::.v (.va (eQ v71))::.v (.va (eQ v71))::.v (.va (eQ v81))::.v (.va (eQ v56))::.v (.vc (pS cQ [v68,v71,v81,v56]))::.v (.va (eQ v68))::.v (.va (eQ v83))::.v (.va (eQ v71))::.v (.va (eQ v85))::.v (.va (eQ v71))::.v (.va (eQ v56))::.v (.vc (pS cQ [v83,v85,v71,v56]))::.v (.va (eQ v61))::.v (.va (eQ v74))::.v (.va (eQ v74))::.v (.va (eQ 0))::.v (.vc (pS cQ [v61,v74,v74,0]))::.v (.vc (pS (fZ cQ) [[v71,v68,v79,0],[v68,v71,v81,v56],[v83,v85,v71,v56],[v61,v74,v74,0]]))::.g (fun b _=>.vc (pO b 0 0))::.v (.vc (pS cQ x37))::.v (.vc (pS cQ x89))::.g (fun b c=>.vc (pO b (0+x89.length) c))::.v (.va (eQ 0))::.v (.vc (pS cQ [0]))::.g (fun b c=>.vc (pO b ((0+x89.length)+[0].length) c))::.v (.vc (pS (fZ cQ) [[v71,v68,v79,0],[v68,v71,v81,v56],[v83,v85,v71,v56],[v61,v74,v74,0]]))::.g (fun b c=>.vc (pO b ((0+x89.length)+[0].length) c))::[]) aW ⟨⟨rfl,.run (L:=[0,1,3,7]) ⟨fun G77 A=>iD 1 4 rfl rfl rfl rfl (.agg tyA42),fun G77 A=>iD 2 4 rfl rfl rfl rfl (.agg tyA42),fun G77 A=>iD 2 4 rfl rfl rfl rfl (.agg tyA42),fun G77 A=>iD 2 4 rfl rfl rfl rfl (.agg tyA42),trivial⟩ (fun G77=>zU1)⟩,⟨rfl,.run (L:=[0,1,3,7]) ⟨fun G77 A=>iD 2 4 rfl rfl rfl rfl (.agg tyA42),fun G77 A=>iD 3 4 rfl rfl rfl rfl (.agg tyA42),fun G77 A=>iD 3 4 rfl rfl rfl rfl (.agg tyA42),fun G77 A=>iD 3 4 rfl rfl rfl rfl (.agg tyA42),trivial⟩ (fun G77=>zU1)⟩,⟨rfl,.run (L:=[0,1]) ⟨fun G77 A=>iD 2 4 rfl rfl rfl rfl (.agg tyA42),fun G77 A=>iD 3 4 rfl rfl rfl rfl (.agg tyA42),trivial⟩ (fun G77=>zU1)⟩,⟨rfl,.run (L:=[0,1]) ⟨fun G77 A=>bD rfl h80 rfl,fun G77 A=>bD rfl h80 rfl,trivial⟩ (fun G77=>zU1)⟩,⟨rfl,.run (L:=[0,1,3,7]) ⟨fun G77 A=>iD 5 4 rfl rfl rfl rfl (.agg tyA42),fun G77 A=>iD 6 4 rfl rfl rfl rfl (.agg tyA42),fun G77 A=>iD 6 4 rfl rfl rfl rfl (.agg tyA42),fun G77 A=>iD 6 4 rfl rfl rfl rfl (.agg tyA42),trivial⟩ (fun G77=>zU1)⟩,⟨rfl,.run (L:=[0,1,3,7]) ⟨fun G77 A=>gP (C:=cQ) (xs:=[.tmp 93,.tmp 94,.tmp 96,.tmp 97]) (ps:=[.va (eQ v71),.va (eQ v68),.va (eQ v79),.va (eQ 0)]) (zs:=[v71,v68,v79,0]) rfl tyS24 rfl ⟨⟨trivial,rfl⟩,⟨trivial,rfl⟩,⟨trivial,rfl⟩,⟨trivial,rfl⟩,trivial⟩ rfl,fun G77 A=>gP (C:=cQ) (xs:=[.tmp 93,.tmp 94,.tmp 96,.tmp 97]) (ps:=[.va (eQ v71),.va (eQ v68),.va (eQ v79),.va (eQ 0)]) (zs:=[v71,v68,v79,0]) rfl tyS24 rfl ⟨⟨trivial,rfl⟩,⟨trivial,rfl⟩,⟨trivial,rfl⟩,⟨trivial,rfl⟩,trivial⟩ rfl,fun G77 A=>gP (C:=cQ) (xs:=[.tmp 93,.tmp 94,.tmp 96,.tmp 97]) (ps:=[.va (eQ v71),.va (eQ v68),.va (eQ v79),.va (eQ 0)]) (zs:=[v71,v68,v79,0]) rfl tyS24 rfl ⟨⟨trivial,rfl⟩,⟨trivial,rfl⟩,⟨trivial,rfl⟩,⟨trivial,rfl⟩,trivial⟩ rfl,fun G77 A=>gP (C:=cQ) (xs:=[.tmp 93,.tmp 94,.tmp 96,.tmp 97]) (ps:=[.va (eQ v71),.va (eQ v68),.va (eQ v79),.va (eQ 0)]) (zs:=[v71,v68,v79,0]) rfl tyS24 rfl ⟨⟨trivial,rfl⟩,⟨trivial,rfl⟩,⟨trivial,rfl⟩,⟨trivial,rfl⟩,trivial⟩ rfl,trivial⟩ (fun G77=>⟨rfl,rfl,rfl,rfl,trivial⟩)⟩,⟨rfl,.run (L:=[0,1,3,7]) ⟨fun G77 A=>iD 2 4 rfl rfl rfl rfl (.agg tyA42),fun G77 A=>iD 3 4 rfl rfl rfl rfl (.agg tyA42),fun G77 A=>iD 3 4 rfl rfl rfl rfl (.agg tyA42),fun G77 A=>iD 3 4 rfl rfl rfl rfl (.agg tyA42),trivial⟩ (fun G77=>zU1)⟩,⟨rfl,.run (L:=[0,1,3,7]) ⟨fun G77 A=>iD 1 4 rfl rfl rfl rfl (.agg tyA42),fun G77 A=>iD 2 4 rfl rfl rfl rfl (.agg tyA42),fun G77 A=>iD 2 4 rfl rfl rfl rfl (.agg tyA42),fun G77 A=>iD 2 4 rfl rfl rfl rfl (.agg tyA42),trivial⟩ (fun G77=>zU1)⟩,⟨rfl,.run (L:=[0,1]) ⟨fun G77 A=>iD 1 4 rfl rfl rfl rfl (.agg tyA42),fun G77 A=>iD 2 4 rfl rfl rfl rfl (.agg tyA42),trivial⟩ (fun G77=>zU1)⟩,⟨rfl,.run (L:=[0,1]) ⟨fun G77 A=>bD rfl h82 rfl,fun G77 A=>bD rfl h82 rfl,trivial⟩ (fun G77=>zU1)⟩,⟨rfl,.run (L:=[0,1,3,7]) ⟨fun G77 A=>iD 4 4 rfl rfl rfl rfl (.agg tyA42),fun G77 A=>iD 5 4 rfl rfl rfl rfl (.agg tyA42),fun G77 A=>iD 5 4 rfl rfl rfl rfl (.agg tyA42),fun G77 A=>iD 5 4 rfl rfl rfl rfl (.agg tyA42),trivial⟩ (fun G77=>zU1)⟩,⟨rfl,.run (L:=[0,1,3,7]) ⟨fun G77 A=>gP (C:=cQ) (xs:=[.tmp 99,.tmp 100,.tmp 102,.tmp 103]) (ps:=[.va (eQ v68),.va (eQ v71),.va (eQ v81),.va (eQ v56)]) (zs:=[v68,v71,v81,v56]) rfl tyS24 rfl ⟨⟨trivial,rfl⟩,⟨trivial,rfl⟩,⟨trivial,rfl⟩,⟨trivial,rfl⟩,trivial⟩ rfl,fun G77 A=>gP (C:=cQ) (xs:=[.tmp 99,.tmp 100,.tmp 102,.tmp 103]) (ps:=[.va (eQ v68),.va (eQ v71),.va (eQ v81),.va (eQ v56)]) (zs:=[v68,v71,v81,v56]) rfl tyS24 rfl ⟨⟨trivial,rfl⟩,⟨trivial,rfl⟩,⟨trivial,rfl⟩,⟨trivial,rfl⟩,trivial⟩ rfl,fun G77 A=>gP (C:=cQ) (xs:=[.tmp 99,.tmp 100,.tmp 102,.tmp 103]) (ps:=[.va (eQ v68),.va (eQ v71),.va (eQ v81),.va (eQ v56)]) (zs:=[v68,v71,v81,v56]) rfl tyS24 rfl ⟨⟨trivial,rfl⟩,⟨trivial,rfl⟩,⟨trivial,rfl⟩,⟨trivial,rfl⟩,trivial⟩ rfl,fun G77 A=>gP (C:=cQ) (xs:=[.tmp 99,.tmp 100,.tmp 102,.tmp 103]) (ps:=[.va (eQ v68),.va (eQ v71),.va (eQ v81),.va (eQ v56)]) (zs:=[v68,v71,v81,v56]) rfl tyS24 rfl ⟨⟨trivial,rfl⟩,⟨trivial,rfl⟩,⟨trivial,rfl⟩,⟨trivial,rfl⟩,trivial⟩ rfl,trivial⟩ (fun G77=>⟨rfl,rfl,rfl,rfl,trivial⟩)⟩,⟨rfl,.run (L:=[0,1]) ⟨fun G77 A=>iD 2 4 rfl rfl rfl rfl (.agg tyA42),fun G77 A=>iD 3 4 rfl rfl rfl rfl (.agg tyA42),trivial⟩ (fun G77=>zU1)⟩,⟨rfl,.run (L:=[0,1]) ⟨fun G77 A=>bD rfl h84 rfl,fun G77 A=>bD rfl h84 rfl,trivial⟩ (fun G77=>zU1)⟩,⟨rfl,.run (L:=[0,1]) ⟨fun G77 A=>iD 1 4 rfl rfl rfl rfl (.agg tyA42),fun G77 A=>iD 2 4 rfl rfl rfl rfl (.agg tyA42),trivial⟩ (fun G77=>zU1)⟩,⟨rfl,.run (L:=[0,1]) ⟨fun G77 A=>bD rfl h86 rfl,fun G77 A=>bD rfl h86 rfl,trivial⟩ (fun G77=>zU1)⟩,⟨rfl,.run (L:=[0,1,3,7]) ⟨fun G77 A=>iD 1 4 rfl rfl rfl rfl (.agg tyA42),fun G77 A=>iD 2 4 rfl rfl rfl rfl (.agg tyA42),fun G77 A=>iD 2 4 rfl rfl rfl rfl (.agg tyA42),fun G77 A=>iD 2 4 rfl rfl rfl rfl (.agg tyA42),trivial⟩ (fun G77=>zU1)⟩,⟨rfl,.run (L:=[0,1,3,7]) ⟨fun G77 A=>iD 4 4 rfl rfl rfl rfl (.agg tyA42),fun G77 A=>iD 5 4 rfl rfl rfl rfl (.agg tyA42),fun G77 A=>iD 5 4 rfl rfl rfl rfl (.agg tyA42),fun G77 A=>iD 5 4 rfl rfl rfl rfl (.agg tyA42),trivial⟩ (fun G77=>zU1)⟩,⟨rfl,.run (L:=[0,1,3,7]) ⟨fun G77 A=>gP (C:=cQ) (xs:=[.tmp 106,.tmp 108,.tmp 109,.tmp 110]) (ps:=[.va (eQ v83),.va (eQ v85),.va (eQ v71),.va (eQ v56)]) (zs:=[v83,v85,v71,v56]) rfl tyS24 rfl ⟨⟨trivial,rfl⟩,⟨trivial,rfl⟩,⟨trivial,rfl⟩,⟨trivial,rfl⟩,trivial⟩ rfl,fun G77 A=>gP (C:=cQ) (xs:=[.tmp 106,.tmp 108,.tmp 109,.tmp 110]) (ps:=[.va (eQ v83),.va (eQ v85),.va (eQ v71),.va (eQ v56)]) (zs:=[v83,v85,v71,v56]) rfl tyS24 rfl ⟨⟨trivial,rfl⟩,⟨trivial,rfl⟩,⟨trivial,rfl⟩,⟨trivial,rfl⟩,trivial⟩ rfl,fun G77 A=>gP (C:=cQ) (xs:=[.tmp 106,.tmp 108,.tmp 109,.tmp 110]) (ps:=[.va (eQ v83),.va (eQ v85),.va (eQ v71),.va (eQ v56)]) (zs:=[v83,v85,v71,v56]) rfl tyS24 rfl ⟨⟨trivial,rfl⟩,⟨trivial,rfl⟩,⟨trivial,rfl⟩,⟨trivial,rfl⟩,trivial⟩ rfl,fun G77 A=>gP (C:=cQ) (xs:=[.tmp 106,.tmp 108,.tmp 109,.tmp 110]) (ps:=[.va (eQ v83),.va (eQ v85),.va (eQ v71),.va (eQ v56)]) (zs:=[v83,v85,v71,v56]) rfl tyS24 rfl ⟨⟨trivial,rfl⟩,⟨trivial,rfl⟩,⟨trivial,rfl⟩,⟨trivial,rfl⟩,trivial⟩ rfl,trivial⟩ (fun G77=>⟨rfl,rfl,rfl,rfl,trivial⟩)⟩,⟨rfl,.run (L:=[0,1,3,7]) ⟨fun G77 A=>iD 3 4 rfl rfl rfl rfl (.agg tyA42),fun G77 A=>iD 4 4 rfl rfl rfl rfl (.agg tyA42),fun G77 A=>iD 4 4 rfl rfl rfl rfl (.agg tyA42),fun G77 A=>iD 4 4 rfl rfl rfl rfl (.agg tyA42),trivial⟩ (fun G77=>zU1)⟩,⟨rfl,.run (L:=[0,1,3,7]) ⟨fun G77 A=>iD 0 4 rfl rfl rfl rfl (.agg tyA42),fun G77 A=>iD 1 4 rfl rfl rfl rfl (.agg tyA42),fun G77 A=>iD 1 4 rfl rfl rfl rfl (.agg tyA42),fun G77 A=>iD 1 4 rfl rfl rfl rfl (.agg tyA42),trivial⟩ (fun G77=>zU1)⟩,⟨rfl,.run (L:=[0,1,3,7]) ⟨fun G77 A=>iD 0 4 rfl rfl rfl rfl (.agg tyA42),fun G77 A=>iD 1 4 rfl rfl rfl rfl (.agg tyA42),fun G77 A=>iD 1 4 rfl rfl rfl rfl (.agg tyA42),fun G77 A=>iD 1 4 rfl rfl rfl rfl (.agg tyA42),trivial⟩ (fun G77=>zU1)⟩,⟨rfl,.run (L:=[0,1,3,7]) ⟨fun G77 A=>iD 5 4 rfl rfl rfl rfl (.agg tyA42),fun G77 A=>iD 6 4 rfl rfl rfl rfl (.agg tyA42),fun G77 A=>iD 6 4 rfl rfl rfl rfl (.agg tyA42),fun G77 A=>iD 6 4 rfl rfl rfl rfl (.agg tyA42),trivial⟩ (fun G77=>zU1)⟩,⟨rfl,.run (L:=[0,1,3,7]) ⟨fun G77 A=>gP (C:=cQ) (xs:=[.tmp 112,.tmp 113,.tmp 114,.tmp 115]) (ps:=[.va (eQ v61),.va (eQ v74),.va (eQ v74),.va (eQ 0)]) (zs:=[v61,v74,v74,0]) rfl tyS24 rfl ⟨⟨trivial,rfl⟩,⟨trivial,rfl⟩,⟨trivial,rfl⟩,⟨trivial,rfl⟩,trivial⟩ rfl,fun G77 A=>gP (C:=cQ) (xs:=[.tmp 112,.tmp 113,.tmp 114,.tmp 115]) (ps:=[.va (eQ v61),.va (eQ v74),.va (eQ v74),.va (eQ 0)]) (zs:=[v61,v74,v74,0]) rfl tyS24 rfl ⟨⟨trivial,rfl⟩,⟨trivial,rfl⟩,⟨trivial,rfl⟩,⟨trivial,rfl⟩,trivial⟩ rfl,fun G77 A=>gP (C:=cQ) (xs:=[.tmp 112,.tmp 113,.tmp 114,.tmp 115]) (ps:=[.va (eQ v61),.va (eQ v74),.va (eQ v74),.va (eQ 0)]) (zs:=[v61,v74,v74,0]) rfl tyS24 rfl ⟨⟨trivial,rfl⟩,⟨trivial,rfl⟩,⟨trivial,rfl⟩,⟨trivial,rfl⟩,trivial⟩ rfl,fun G77 A=>gP (C:=cQ) (xs:=[.tmp 112,.tmp 113,.tmp 114,.tmp 115]) (ps:=[.va (eQ v61),.va (eQ v74),.va (eQ v74),.va (eQ 0)]) (zs:=[v61,v74,v74,0]) rfl tyS24 rfl ⟨⟨trivial,rfl⟩,⟨trivial,rfl⟩,⟨trivial,rfl⟩,⟨trivial,rfl⟩,trivial⟩ rfl,trivial⟩ (fun G77=>⟨rfl,rfl,rfl,rfl,trivial⟩)⟩,⟨rfl,.run (L:=[0,1,3,7]) ⟨fun G77 A=>gP (C:=(fZ cQ)) (xs:=[.tmp 98,.tmp 104,.tmp 111,.tmp 116]) (ps:=[.vc (pS cQ [v71,v68,v79,0]),.vc (pS cQ [v68,v71,v81,v56]),.vc (pS cQ [v83,v85,v71,v56]),.vc (pS cQ [v61,v74,v74,0])]) (zs:=[[v71,v68,v79,0],[v68,v71,v81,v56],[v83,v85,v71,v56],[v61,v74,v74,0]]) rfl tyS23 rfl ⟨⟨trivial,rfl⟩,⟨trivial,rfl⟩,⟨trivial,rfl⟩,⟨trivial,rfl⟩,trivial⟩ rfl,fun G77 A=>gP (C:=(fZ cQ)) (xs:=[.tmp 98,.tmp 104,.tmp 111,.tmp 116]) (ps:=[.vc (pS cQ [v71,v68,v79,0]),.vc (pS cQ [v68,v71,v81,v56]),.vc (pS cQ [v83,v85,v71,v56]),.vc (pS cQ [v61,v74,v74,0])]) (zs:=[[v71,v68,v79,0],[v68,v71,v81,v56],[v83,v85,v71,v56],[v61,v74,v74,0]]) rfl tyS23 rfl ⟨⟨trivial,rfl⟩,⟨trivial,rfl⟩,⟨trivial,rfl⟩,⟨trivial,rfl⟩,trivial⟩ rfl,fun G77 A=>gP (C:=(fZ cQ)) (xs:=[.tmp 98,.tmp 104,.tmp 111,.tmp 116]) (ps:=[.vc (pS cQ [v71,v68,v79,0]),.vc (pS cQ [v68,v71,v81,v56]),.vc (pS cQ [v83,v85,v71,v56]),.vc (pS cQ [v61,v74,v74,0])]) (zs:=[[v71,v68,v79,0],[v68,v71,v81,v56],[v83,v85,v71,v56],[v61,v74,v74,0]]) rfl tyS23 rfl ⟨⟨trivial,rfl⟩,⟨trivial,rfl⟩,⟨trivial,rfl⟩,⟨trivial,rfl⟩,trivial⟩ rfl,fun G77 A=>gP (C:=(fZ cQ)) (xs:=[.tmp 98,.tmp 104,.tmp 111,.tmp 116]) (ps:=[.vc (pS cQ [v71,v68,v79,0]),.vc (pS cQ [v68,v71,v81,v56]),.vc (pS cQ [v83,v85,v71,v56]),.vc (pS cQ [v61,v74,v74,0])]) (zs:=[[v71,v68,v79,0],[v68,v71,v81,v56],[v83,v85,v71,v56],[v61,v74,v74,0]]) rfl tyS23 rfl ⟨⟨trivial,rfl⟩,⟨trivial,rfl⟩,⟨trivial,rfl⟩,⟨trivial,rfl⟩,trivial⟩ rfl,trivial⟩ (fun G77=>⟨rfl,rfl,rfl,rfl,trivial⟩)⟩,⟨rfl,.hvy (ins:=fun _=>[]) [0] ⟨fun G77 A=>aCM (C:=cQ) (xs:=[]) (ps:=[]) (zs:=([]:List Rat)) rfl tyS24 rfl trivial rfl,trivial⟩ (fun G77=>trivial)⟩,⟨rfl,.run (L:=[0,1]) ⟨fun G77 A=>aM (.inl rfl),fun G77 A=>aM (.inl rfl),trivial⟩ (fun G77=>zU1)⟩,⟨rfl,.run (L:=[0,1]) ⟨fun G77 A=>aDE rfl tyS24 h90,fun G77 A=>aDE rfl tyS24 h90,trivial⟩ (fun G77=>⟨rfl,oJ _ _,trivial⟩)⟩,⟨rfl,.hvy (ins:=fun G77=>[(.tmp 118,.vc (pO ((G77 25).1) 0 0)),(.tmp 120,.vc (pS cQ x89))]) [1] ⟨fun G77 A=>aEP 0 rfl tyS24 rfl rfl rfl h92,trivial⟩ (fun G77=>zU2)⟩,⟨rfl,.run (L:=[0,1,3]) ⟨fun G77 A=>iD 5 4 rfl rfl rfl rfl (.agg tyA42),fun G77 A=>iD 6 4 rfl rfl rfl rfl (.agg tyA42),fun G77 A=>iD 6 4 rfl rfl rfl rfl (.agg tyA42),trivial⟩ (fun G77=>zU1)⟩,⟨rfl,.run (L:=[0,1,3]) ⟨fun G77 A=>gP (C:=cQ) (xs:=[.tmp 122]) (ps:=[.va (eQ 0)]) (zs:=[0]) rfl tyS24 rfl ⟨⟨trivial,rfl⟩,trivial⟩ rfl,fun G77 A=>gP (C:=cQ) (xs:=[.tmp 122]) (ps:=[.va (eQ 0)]) (zs:=[0]) rfl tyS24 rfl ⟨⟨trivial,rfl⟩,trivial⟩ rfl,fun G77 A=>gP (C:=cQ) (xs:=[.tmp 122]) (ps:=[.va (eQ 0)]) (zs:=[0]) rfl tyS24 rfl ⟨⟨trivial,rfl⟩,trivial⟩ rfl,trivial⟩ (fun G77=>zU1)⟩,⟨rfl,.hvy (ins:=fun G77=>[(.tmp 121,.vc (pO ((G77 28).1) (0+x89.length) ((G77 28).2))),(.tmp 123,.vc (pS cQ [0]))]) [3] ⟨fun G77 A=>aEP (n:=(0+x89.length)) 0 rfl tyS24 rfl rfl (bL h92 rfl) h95,trivial⟩ (fun G77=>zU2)⟩,d1 7 (aM (.inr rfl)) zU1,⟨rfl,.hvy [7] ⟨fun G77 A=>aJJ ((G77 31).1) ((G77 31).2) (aM (.inr rfl)),trivial⟩ (fun G77=>zU1)⟩,trivial⟩ (fun bs78 G77=>?_)
    refine aU (aJ (fX (fY (mL 0 [5] rfl (bL h95 (bL h92 rfl)) zU1 rfl ?_))))
    obtain rfl:=iR hF
    exact gW (.inl rfl) Tryz.results10 (.tmp rfl (.tmp rfl .nil)) rfl rfl
   refine iC (aJ (aD (aK (pN (fZ cQ) 24 rfl ?_))))
   refine go ?_ ?_
   refine aI (aY (fun H E=>∃(x119:List (List Rat)),∃(b120:Option Nat),∃(c121:Nat),∃(n122:Nat),l7 K x37 x119=some r∧x119.length=n122∧H=[hO (fZ cQ) b120 c121 24 n122 x119,hO cQ b38 c39 42 n40 x37]∧E=[(9,.vc (pO b38 n40 c39)),(19,.vc (pO b120 n122 c121))]) ?_ (fun Jj126=>?_))
   ·rintro _ _ ⟨x119,b120,c121,n122,hF,q123,rfl,rfl⟩
    unfold l7 at hF
    refine go ?_ ?_
    refine fX (fY (mL 0 [4,19,162] rfl q123 ⟨rfl,rfl,rfl,trivial⟩ rfl ?_))
    refine mL 0 [5,9,163] rfl q41 ⟨rfl,rfl,rfl,trivial⟩ rfl ?_
    obtain rfl:=iR hF
    exact gW (.inl rfl) Tryz.results10 (.tmp rfl (.tmp rfl .nil)) rfl rfl
   obtain⟨x119',hL,hRl125⟩:=aO hF
   refine dW (fun k a w=>∃(x112:List (List Rat)),∃(x118:Int),∃(b113:Option Nat),∃(c114:Nat),∃(n115:Nat),cO K v3 v5 x43 k x112 x118=some x119'∧x112.length=n115∧hs _ [hO (fZ cQ) b113 c114 24 n115 x112,hO cQ b38 c39 42 n40 x37,hO (fZ cQ) b44 c45 24 n46 x43] [(6,.vc (pI .i64 v3)),(7,.vc (pI .i64 v5)),(8,.vc (pO b44 n46 c45)),(9,.vc (pO b38 n40 c39)),(19,.vc (pO b113 n115 c114)),(20,.vc (pI .i64 x118))] a w) K (fun a w ⟨_,_,_,_,_,hF,_,_⟩=>by cases hF) (fun k a w ⟨x112,x118,b113,c114,n115,hF,q116,hh⟩=>dV ?_ hh) (fun a w hh=>⟨([]:List (List Rat)),0,none,0,0,hL,rfl,gO [0,1,2] hh⟩)
   rw [cO.eq_2] at hF
   refine go ?_ ?_
   refine aC hF rfl (fun h127 hF=>?_) (fun h127 hF=>?_)
   ·refine go ?_ ?_
    refine aI (aD (aK (pN cQ 42 rfl ?_)))
    refine go ?_ ?_
    refine aI (aY (fun H E=>∃(x144:List Rat),∃(b145:Option Nat),∃(c146:Nat),∃(n147:Nat),lX K v5 x112 x118 (cO K v3 v5 x43 k) x144=some x119'∧x144.length=n147∧H=[hO cQ b145 c146 42 n147 x144,hO (fZ cQ) b113 c114 24 n115 x112,hO cQ b38 c39 42 n40 x37,hO (fZ cQ) b44 c45 24 n46 x43]∧E=[(6,.vc (pI .i64 v3)),(7,.vc (pI .i64 v5)),(8,.vc (pO b44 n46 c45)),(9,.vc (pO b38 n40 c39)),(19,.vc (pO b113 n115 c114)),(20,.vc (pI .i64 x118)),(21,.vc (pO b145 n147 c146))]) ?_ (fun Jj151=>?_))
    ·rintro _ _ ⟨x144,b145,c146,n147,hF,q148,rfl,rfl⟩
     unfold lX at hF
     refine go ?_ ?_
     refine aC hF rfl (fun h152 hF=>?_) (fun h152 hF=>?_)
     ·obtain⟨v155,h156,hF⟩:=aO hF
      obtain⟨v157,h158,hF⟩:=aX hF cR
      obtain⟨v159,h160,hF⟩:=aX hF pJ
      have hF:=qB h156 hF
      refine dr [0,0,0,0,12,28,0,124,255,511] 9 1 ?_ (fun bs154 G153=>?_)
      obtain⟨x163,h164,hF⟩:=aO hF
      refine lI (wB 0 rfl rfl h156 h164 tyA42.s) zU2 ?_
      refine aU (aJ (aK (fL ?_)))
      refine fL ?_
      refine wI 0 [21,149,151,159] rfl (bE h164 q148) ⟨rfl,rfl,rfl,rfl,trivial⟩ rfl ?_
      refine aH (gP (C:=(fZ cQ)) (xs:=[.tmp 159]) (ps:=[.vc (pS cQ x163)]) (zs:=[x163]) rfl tyS23 rfl ⟨⟨trivial,rfl⟩,trivial⟩ rfl) zU1 ?_
      obtain⟨x166,h167,hF⟩:=aO hF
      refine kK 0 rfl tyS23 rfl rfl q116 rfl rfl h167 (fun b168 c169 H170 e171=>?_)
      cases e171
      obtain⟨v173,h174,hF⟩:=aO hF
      refine go ?_ ?_
      exact aF (fun a w hh=>⟨x166,v173,b168,c169,(n115+[x163].length),hF,(bL h167 q116),gO [0,1,2] hh⟩)
     refine iC (aJ (aK (fL ?_)))
     refine fL ?_
     refine wI 0 [21,159] rfl q148 zU2 rfl ?_
     refine aH (gP (C:=(fZ cQ)) (xs:=[.tmp 159]) (ps:=[.vc (pS cQ x144)]) (zs:=[x144]) rfl tyS23 rfl ⟨⟨trivial,rfl⟩,trivial⟩ rfl) zU1 ?_
     obtain⟨x175,h176,hF⟩:=aO hF
     refine kK 0 rfl tyS23 rfl rfl q116 rfl rfl h176 (fun b177 c178 H179 e180=>?_)
     cases e180
     obtain⟨v182,h183,hF⟩:=aO hF
     refine go ?_ ?_
     exact aF (fun a w hh=>⟨x175,v182,b177,c178,(n115+[x144].length),hF,(bL h176 q116),gO [0,1,2] hh⟩)
    obtain⟨x144',hL,hRl150⟩:=aO hF
    refine dW (fun k a w=>∃(x137:List Rat),∃(x143:Int),∃(b138:Option Nat),∃(c139:Nat),∃(n140:Nat),eY K v3 x43 x118 k x137 x143=some x144'∧x137.length=n140∧hs _ [hO cQ b138 c139 42 n140 x137,hO (fZ cQ) b113 c114 24 n115 x112,hO cQ b38 c39 42 n40 x37,hO (fZ cQ) b44 c45 24 n46 x43] [(6,.vc (pI .i64 v3)),(7,.vc (pI .i64 v5)),(8,.vc (pO b44 n46 c45)),(9,.vc (pO b38 n40 c39)),(19,.vc (pO b113 n115 c114)),(20,.vc (pI .i64 x118)),(21,.vc (pO b138 n140 c139)),(22,.vc (pI .i64 x143))] a w) K (fun a w ⟨_,_,_,_,_,hF,_,_⟩=>by cases hF) (fun k a w ⟨x137,x143,b138,c139,n140,hF,q141,hh⟩=>dV ?_ hh) (fun a w hh=>⟨([]:List Rat),0,none,0,0,hL,rfl,gO [0,1,2,3] hh⟩)
    rw [eY.eq_2] at hF
    refine go ?_ ?_
    refine aC hF rfl (fun h184 hF=>?_) (fun h184 hF=>?_)
    ·refine go ?_ ?_
     refine aI ?_
     obtain⟨v187,h188,hF⟩:=aO hF
     obtain⟨v189,h190,hF⟩:=aO hF
     obtain⟨v191,h192,hF⟩:=aX hF vI
     refine iG [0,0,0,6,14,0,0,96,224,510,1022,2047,4095] 11 2 [.v (.vc (pO b138 n140 c139)),.v (.vc (pO b44 n46 c45)),.v (.vc (pI .i64 x118)),.v (.vc (pE b44 x118 (fZ cQ).n 0)),.v (.vc (pS cQ v187)),.v (.vc (pO b44 n46 c45)),.v (.vc (pI .i64 x143)),.v (.vc (pE b44 x143 (fZ cQ).n 0)),.v (.vc (pS cQ v189)),.v (.va (eQ v191)),.v (.vc (pS cQ [v191]))] aW ⟨d0 (aM (.inl rfl)) zU1,d0 (aM (.inl rfl)) zU1,d0 (aM (.inl rfl)) zU1,d0 (gN (C:=(fZ cQ)) 3 rfl tyS23 rfl q47 (aG h188).1 (aG h188).2.1) zU2,d0 (lZ (k:=1) 3 rfl rfl h188 rfl (.one tyO24) rfl) zU1,d0 (aM (.inl rfl)) zU1,d0 (aM (.inl rfl)) zU1,d0 (gN (C:=(fZ cQ)) 3 rfl tyS23 rfl q47 (aG h190).1 (aG h190).2.1) zU2,d0 (lZ (k:=1) 3 rfl rfl h190 rfl (.one tyO24) rfl) zU1,d0 (bD rfl h192 rfl) zU2,d0 (gP (C:=cQ) (xs:=[.tmp 144]) (ps:=[.va (eQ v191)]) (zs:=[v191]) rfl tyS24 rfl ⟨⟨trivial,rfl⟩,trivial⟩ rfl) zU1,trivial⟩ (fun bs186 G185=>?_)
     obtain⟨x193,h194,hF⟩:=aO hF
     refine kK 0 rfl tyS24 rfl rfl q141 rfl rfl h194 (fun b195 c196 H197 e198=>?_)
     cases e198
     obtain⟨v200,h201,hF⟩:=aO hF
     refine go ?_ ?_
     exact aF (fun a w hh=>⟨x193,v200,b195,c196,(n140+[v191].length),hF,(bL h194 q141),gO [0,1,2,3] hh⟩)
    refine bI ?_
    obtain rfl:=iR hF
    exact p6 Jj151 ⟨x137,b138,c139,n140,hRl150,q141,rfl,rfl⟩ [0,1,2,3]
   refine bI ?_
   obtain rfl:=iR hF
   exact p6 Jj126 ⟨x112,b113,c114,n115,hRl125,q116,rfl,rfl⟩ [0,1]
  refine go ?_ ?_
  refine uV rfl ?_
  refine iC (aJ (aD (aK (pN (fZ cQ) 24 rfl ?_))))
  refine go ?_ ?_
  refine aI (aY (fun H E=>∃(x218:List (List Rat)),∃(b219:Option Nat),∃(c220:Nat),∃(n221:Nat),lW K x37 x218=some r∧x218.length=n221∧H=[hO (fZ cQ) b219 c220 24 n221 x218,hO cQ b38 c39 42 n40 x37]∧E=[(9,.vc (pO b38 n40 c39)),(19,.vc (pO b219 n221 c220))]) ?_ (fun Jj225=>?_))
  ·rintro _ _ ⟨x218,b219,c220,n221,hF,q222,rfl,rfl⟩
   unfold lW at hF
   refine go ?_ ?_
   refine fX (fY (mL 0 [4,19,162] rfl q222 ⟨rfl,rfl,rfl,trivial⟩ rfl ?_))
   refine mL 0 [5,9,163] rfl q41 ⟨rfl,rfl,rfl,trivial⟩ rfl ?_
   obtain rfl:=iR hF
   exact gW (.inl rfl) Tryz.results10 (.tmp rfl (.tmp rfl .nil)) rfl rfl
  obtain⟨x218',hL,hRl224⟩:=aO hF
  refine dW (fun k a w=>∃(x211:List (List Rat)),∃(x217:Int),∃(b212:Option Nat),∃(c213:Nat),∃(n214:Nat),cM K v3 v5 x43 k x211 x217=some x218'∧x211.length=n214∧hs _ [hO (fZ cQ) b212 c213 24 n214 x211,hO cQ b38 c39 42 n40 x37,hO (fZ cQ) b44 c45 24 n46 x43] [(6,.vc (pI .i64 v3)),(7,.vc (pI .i64 v5)),(8,.vc (pO b44 n46 c45)),(9,.vc (pO b38 n40 c39)),(19,.vc (pO b212 n214 c213)),(20,.vc (pI .i64 x217))] a w) K (fun a w ⟨_,_,_,_,_,hF,_,_⟩=>by cases hF) (fun k a w ⟨x211,x217,b212,c213,n214,hF,q215,hh⟩=>dV ?_ hh) (fun a w hh=>⟨([]:List (List Rat)),0,none,0,0,hL,rfl,gO [0,1,2] hh⟩)
  rw [cM.eq_2] at hF
  refine go ?_ ?_
  refine aC hF rfl (fun h226 hF=>?_) (fun h226 hF=>?_)
  ·refine go ?_ ?_
   refine aI (aD (aK (pN cQ 42 rfl ?_)))
   refine go ?_ ?_
   refine aI (aY (fun H E=>∃(x243:List Rat),∃(b244:Option Nat),∃(c245:Nat),∃(n246:Nat),l5 K v5 x211 x217 (cM K v3 v5 x43 k) x243=some x218'∧x243.length=n246∧H=[hO cQ b244 c245 42 n246 x243,hO (fZ cQ) b212 c213 24 n214 x211,hO cQ b38 c39 42 n40 x37,hO (fZ cQ) b44 c45 24 n46 x43]∧E=[(6,.vc (pI .i64 v3)),(7,.vc (pI .i64 v5)),(8,.vc (pO b44 n46 c45)),(9,.vc (pO b38 n40 c39)),(19,.vc (pO b212 n214 c213)),(20,.vc (pI .i64 x217)),(21,.vc (pO b244 n246 c245))]) ?_ (fun Jj250=>?_))
   ·rintro _ _ ⟨x243,b244,c245,n246,hF,q247,rfl,rfl⟩
    unfold l5 at hF
    refine go ?_ ?_
    refine aC hF rfl (fun h251 hF=>?_) (fun h251 hF=>?_)
    ·obtain⟨v254,h255,hF⟩:=aO hF
     obtain⟨v256,h257,hF⟩:=aX hF cR
     obtain⟨v258,h259,hF⟩:=aX hF pJ
     have hF:=qB h255 hF
     refine dr [0,0,0,0,12,28,0,124,255,511] 9 1 ?_ (fun bs253 G252=>?_)
     obtain⟨x262,h263,hF⟩:=aO hF
     refine lI (wB 0 rfl rfl h255 h263 tyA42.s) zU2 ?_
     refine aU (aJ (aK (fL ?_)))
     refine fL ?_
     refine wI 0 [21,149,151,159] rfl (bE h263 q247) ⟨rfl,rfl,rfl,rfl,trivial⟩ rfl ?_
     refine aH (gP (C:=(fZ cQ)) (xs:=[.tmp 159]) (ps:=[.vc (pS cQ x262)]) (zs:=[x262]) rfl tyS23 rfl ⟨⟨trivial,rfl⟩,trivial⟩ rfl) zU1 ?_
     obtain⟨x265,h266,hF⟩:=aO hF
     refine kK 0 rfl tyS23 rfl rfl q215 rfl rfl h266 (fun b267 c268 H269 e270=>?_)
     cases e270
     obtain⟨v272,h273,hF⟩:=aO hF
     refine go ?_ ?_
     exact aF (fun a w hh=>⟨x265,v272,b267,c268,(n214+[x262].length),hF,(bL h266 q215),gO [0,1,2] hh⟩)
    refine iC (aJ (aK (fL ?_)))
    refine fL ?_
    refine wI 0 [21,159] rfl q247 zU2 rfl ?_
    refine aH (gP (C:=(fZ cQ)) (xs:=[.tmp 159]) (ps:=[.vc (pS cQ x243)]) (zs:=[x243]) rfl tyS23 rfl ⟨⟨trivial,rfl⟩,trivial⟩ rfl) zU1 ?_
    obtain⟨x274,h275,hF⟩:=aO hF
    refine kK 0 rfl tyS23 rfl rfl q215 rfl rfl h275 (fun b276 c277 H278 e279=>?_)
    cases e279
    obtain⟨v281,h282,hF⟩:=aO hF
    refine go ?_ ?_
    exact aF (fun a w hh=>⟨x274,v281,b276,c277,(n214+[x243].length),hF,(bL h275 q215),gO [0,1,2] hh⟩)
   obtain⟨x243',hL,hRl249⟩:=aO hF
   refine dW (fun k a w=>∃(x236:List Rat),∃(x242:Int),∃(b237:Option Nat),∃(c238:Nat),∃(n239:Nat),eV K v3 x43 x217 k x236 x242=some x243'∧x236.length=n239∧hs _ [hO cQ b237 c238 42 n239 x236,hO (fZ cQ) b212 c213 24 n214 x211,hO cQ b38 c39 42 n40 x37,hO (fZ cQ) b44 c45 24 n46 x43] [(6,.vc (pI .i64 v3)),(7,.vc (pI .i64 v5)),(8,.vc (pO b44 n46 c45)),(9,.vc (pO b38 n40 c39)),(19,.vc (pO b212 n214 c213)),(20,.vc (pI .i64 x217)),(21,.vc (pO b237 n239 c238)),(22,.vc (pI .i64 x242))] a w) K (fun a w ⟨_,_,_,_,_,hF,_,_⟩=>by cases hF) (fun k a w ⟨x236,x242,b237,c238,n239,hF,q240,hh⟩=>dV ?_ hh) (fun a w hh=>⟨([]:List Rat),0,none,0,0,hL,rfl,gO [0,1,2,3] hh⟩)
   rw [eV.eq_2] at hF
   refine go ?_ ?_
   refine aC hF rfl (fun h283 hF=>?_) (fun h283 hF=>?_)
   ·refine go ?_ ?_
    refine aI ?_
    obtain⟨v286,h287,hF⟩:=aO hF
    obtain⟨v288,h289,hF⟩:=aO hF
    obtain⟨v290,h291,hF⟩:=aX hF vI
    refine iG [0,0,0,6,14,0,0,96,224,510,1022,2047,4095] 11 2 [.v (.vc (pO b237 n239 c238)),.v (.vc (pO b44 n46 c45)),.v (.vc (pI .i64 x217)),.v (.vc (pE b44 x217 (fZ cQ).n 0)),.v (.vc (pS cQ v286)),.v (.vc (pO b44 n46 c45)),.v (.vc (pI .i64 x242)),.v (.vc (pE b44 x242 (fZ cQ).n 0)),.v (.vc (pS cQ v288)),.v (.va (eQ v290)),.v (.vc (pS cQ [v290]))] aW ⟨d0 (aM (.inl rfl)) zU1,d0 (aM (.inl rfl)) zU1,d0 (aM (.inl rfl)) zU1,d0 (gN (C:=(fZ cQ)) 3 rfl tyS23 rfl q47 (aG h287).1 (aG h287).2.1) zU2,d0 (lZ (k:=1) 3 rfl rfl h287 rfl (.one tyO24) rfl) zU1,d0 (aM (.inl rfl)) zU1,d0 (aM (.inl rfl)) zU1,d0 (gN (C:=(fZ cQ)) 3 rfl tyS23 rfl q47 (aG h289).1 (aG h289).2.1) zU2,d0 (lZ (k:=1) 3 rfl rfl h289 rfl (.one tyO24) rfl) zU1,d0 (bD rfl h291 rfl) zU2,d0 (gP (C:=cQ) (xs:=[.tmp 144]) (ps:=[.va (eQ v290)]) (zs:=[v290]) rfl tyS24 rfl ⟨⟨trivial,rfl⟩,trivial⟩ rfl) zU1,trivial⟩ (fun bs285 G284=>?_)
    obtain⟨x292,h293,hF⟩:=aO hF
    refine kK 0 rfl tyS24 rfl rfl q240 rfl rfl h293 (fun b294 c295 H296 e297=>?_)
    cases e297
    obtain⟨v299,h300,hF⟩:=aO hF
    refine go ?_ ?_
    exact aF (fun a w hh=>⟨x292,v299,b294,c295,(n239+[v290].length),hF,(bL h293 q240),gO [0,1,2,3] hh⟩)
   refine bI ?_
   obtain rfl:=iR hF
   exact p6 Jj250 ⟨x236,b237,c238,n239,hRl249,q240,rfl,rfl⟩ [0,1,2,3]
  refine bI ?_
  obtain rfl:=iR hF
  exact p6 Jj225 ⟨x211,b212,c213,n214,hRl224,q215,rfl,rfl⟩ [0,1]
 obtain⟨⟨x37',x43'⟩,hL,hRl49⟩:=aO hF
 refine dW (fun k a w=>∃(x24:List Rat),∃(x30:List (List Rat)),∃(x36:Int),∃(b25:Option Nat),∃(c26:Nat),∃(n27:Nat),∃(b31:Option Nat),∃(c32:Nat),∃(n33:Nat),eA K a0 v3 k x24 x30 x36=some (x37',x43')∧x24.length=n27∧x30.length=n33∧hs _ [hO cQ b25 c26 42 n27 x24,hO (fZ cQ) b31 c32 24 n33 x30] [(0,.vc (pS cI a0)),(6,.vc (pI .i64 v3)),(7,.vc (pI .i64 v5)),(8,.vc (pO b31 n33 c32)),(9,.vc (pO b25 n27 c26)),(10,.vc (pI .i64 x36))] a w) K (fun a w ⟨_,_,_,_,_,_,_,_,_,hF,_,_,_⟩=>by cases hF) (fun k a w ⟨x24,x30,x36,b25,c26,n27,b31,c32,n33,hF,q28,q34,hh⟩=>dV ?_ hh) (fun a w hh=>⟨([]:List Rat),([]:List (List Rat)),0,none,0,0,none,0,0,hL,rfl,rfl,gO [0,1] hh⟩)
 rw [eA.eq_2] at hF
 refine go ?_ ?_
 refine aC hF rfl (fun h301 hF=>?_) (fun h301 hF=>?_)
 ·refine go ?_ ?_
  refine aI (aD (aK (pN cQ 42 rfl ?_)))
  refine go ?_ ?_
  refine aI (aY (fun H E=>∃(x318:List Rat),∃(b319:Option Nat),∃(c320:Nat),∃(n321:Nat),lR K a0 x24 x30 x36 (eA K a0 v3 k) x318=some (x37',x43')∧x318.length=n321∧H=[hO cQ b319 c320 42 n321 x318,hO cQ b25 c26 42 n27 x24,hO (fZ cQ) b31 c32 24 n33 x30]∧E=[(0,.vc (pS cI a0)),(6,.vc (pI .i64 v3)),(7,.vc (pI .i64 v5)),(8,.vc (pO b31 n33 c32)),(9,.vc (pO b25 n27 c26)),(10,.vc (pI .i64 x36)),(11,.vc (pO b319 n321 c320))]) ?_ (fun Jj325=>?_))
  ·rintro _ _ ⟨x318,b319,c320,n321,hF,q322,rfl,rfl⟩
   unfold lR at hF
   refine aJ (aD (aK (fL ?_)))
   refine fL ?_
   refine wI 0 [11,51] rfl q322 zU2 rfl ?_
   refine aH (gP (C:=(fZ cQ)) (xs:=[.tmp 51]) (ps:=[.vc (pS cQ x318)]) (zs:=[x318]) rfl tyS23 rfl ⟨⟨trivial,rfl⟩,trivial⟩ rfl) zU1 ?_
   obtain⟨x326,h327,hF⟩:=aO hF
   refine kK 1 rfl tyS23 rfl rfl q34 rfl rfl h327 (fun b328 c329 H330 e331=>?_)
   cases e331
   obtain⟨v333,h334,hF⟩:=aO hF
   obtain⟨v335,h336,hF⟩:=aX hF lS
   obtain⟨v337,h338,v339,h340,hF⟩:=tY hF
   obtain⟨v341,h342,hF⟩:=aX hF lS
   obtain⟨v343,h344,hF⟩:=aO hF
   obtain⟨v345,h346,hF⟩:=aX hF cR
   refine go ?_ ?_
   refine aH (gP (C:=cQ) (xs:=[.tmp 65]) (ps:=[.va (eQ v345)]) (zs:=[v345]) rfl tyS24 rfl ⟨⟨trivial,rfl⟩,trivial⟩ rfl) zU1 ?_
   obtain⟨x347,h348,hF⟩:=aO hF
   refine kK 0 rfl tyS24 rfl rfl q28 rfl rfl h348 (fun b349 c350 H351 e352=>?_)
   cases e352
   obtain⟨v354,h355,hF⟩:=aO hF
   refine go ?_ ?_
   exact aF (fun a w hh=>⟨x347,x326,v354,b349,c350,(n27+[v345].length),b328,c329,(n33+[x318].length),hF,(bL h348 q28),(bL h327 q34),gO [0,1] hh⟩)
  obtain⟨x318',hL,hRl324⟩:=aO hF
  refine dW (fun k a w=>∃(x311:List Rat),∃(x317:Int),∃(b312:Option Nat),∃(c313:Nat),∃(n314:Nat),eN K a0 v3 x36 k x311 x317=some x318'∧x311.length=n314∧hs _ [hO cQ b312 c313 42 n314 x311,hO cQ b25 c26 42 n27 x24,hO (fZ cQ) b31 c32 24 n33 x30] [(0,.vc (pS cI a0)),(6,.vc (pI .i64 v3)),(7,.vc (pI .i64 v5)),(8,.vc (pO b31 n33 c32)),(9,.vc (pO b25 n27 c26)),(10,.vc (pI .i64 x36)),(11,.vc (pO b312 n314 c313)),(12,.vc (pI .i64 x317))] a w) K (fun a w ⟨_,_,_,_,_,hF,_,_⟩=>by cases hF) (fun k a w ⟨x311,x317,b312,c313,n314,hF,q315,hh⟩=>dV ?_ hh) (fun a w hh=>⟨([]:List Rat),0,none,0,0,hL,rfl,gO [0,1,2] hh⟩)
  rw [eN.eq_2] at hF
  refine go ?_ ?_
  refine aC hF rfl (fun h356 hF=>?_) (fun h356 hF=>?_)
  ·refine go ?_ ?_
   refine aI ?_
   obtain⟨v357,h358,v359,h360,v361,h362,hF⟩:=bn3 hF
   obtain⟨v363,h364,hF⟩:=aX hF lS
   obtain⟨v365,h366,hF⟩:=aX hF aA3
   refine go ?_ ?_
   refine aH (gP (C:=cQ) (xs:=[.tmp 47]) (ps:=[.va (eQ v365)]) (zs:=[v365]) rfl tyS24 rfl ⟨⟨trivial,rfl⟩,trivial⟩ rfl) zU1 ?_
   obtain⟨x367,h368,hF⟩:=aO hF
   refine kK 0 rfl tyS24 rfl rfl q315 rfl rfl h368 (fun b369 c370 H371 e372=>?_)
   cases e372
   obtain⟨v374,h375,hF⟩:=aO hF
   refine go ?_ ?_
   exact aF (fun a w hh=>⟨x367,v374,b369,c370,(n314+[v365].length),hF,(bL h368 q315),gO [0,1,2] hh⟩)
  refine bI ?_
  obtain rfl:=iR hF
  exact p6 Jj325 ⟨x311,b312,c313,n314,hRl324,q315,rfl,rfl⟩ [0,1,2]
 refine bI ?_
 obtain⟨rfl,rfl⟩:=sm2 hF
 exact p6 Jj50 ⟨x24,x30,b25,c26,n27,b31,c32,n33,hRl49,q28,q34,rfl,rfl⟩ [0,1]
def qY (K:Nat):Option Bool:=
 some true
def jT (K:Nat) (a0:List Rat):Nat→Int→Option (LR Bool Unit)
 |0,_=>none
 |k+1,x2=>bif(decide (x2<(a0.length:Int))) then((bO a0 x2).bind fun v6=>(aKj v6).bind fun v9=>bif(!v9) then(some (.ret false)) else((aR (x2+1)).bind fun v12=>jT K a0 k v12)) else(some (.go ()))
def kM (K:Nat) (a0:List Rat):Option Bool:=
 (jT K a0 K 0).bind fun o=>match o with| .ret r=>some r| .go _=>qY K
theorem sN {K:Nat} {a0:List Rat} {r:Bool} (hF:kM K a0=some r):Ct Tryz.prog 56 [.vc (pS cQ a0)] (.vc (pB r)):=by
 unfold kM at hF
 refine aA Tryz.func56 rfl (by kernel_rfl) Tryz.ntmps56 rfl (fun w0 M0=>?_)
 refine go ?_ ?_
 refine aI (aY (fun H E=>qY K=some r∧H=[]∧E=[]) ?_ (fun Jj4=>?_))
 ·rintro _ _ ⟨hF,rfl,rfl⟩
  unfold qY at hF
  exact bP
 obtain⟨ol3,hL,hRl3⟩:=aO hF
 refine dW (fun k a w=>∃(x2:Int),jT K a0 k x2=some ol3∧hs _ [] [(5,.vc (pS cQ a0)),(6,.vc (pI .i64 (a0.length:Int))),(7,.vc (pI .i64 x2))] a w) K (fun a w ⟨_,hF,_⟩=>by cases hF) (fun k a w ⟨x2,hF,hh⟩=>dV ?_ hh) (fun a w hh=>⟨0,hL,gO [] hh⟩)
 rw [jT.eq_2] at hF
 refine go ?_ ?_
 refine aC hF rfl (fun h5 hF=>?_) (fun h5 hF=>?_)
 ·refine go ?_ ?_
  refine aI ?_
  obtain⟨v6,h7,hF⟩:=aO hF
  refine go ?_ ?_
  refine aL rfl tyZ42q (fun b8=>?_)
  obtain⟨v9,h10,hF⟩:=aX hF aGp
  refine go ?_ ?_
  refine aC hF rfl (fun h11 hF=>?_) (fun h11 hF=>?_)
  ·exact bP
  obtain⟨v12,h13,hF⟩:=aO hF
  refine go ?_ ?_
  exact aF (fun a w hh=>⟨v12,hF,gO [] hh⟩)
 refine bI ?_
 obtain rfl:=iR hF
 exact p6 Jj4 ⟨hRl3,rfl,rfl⟩ []
def p7 (K:Nat):Option Bool:=
 some true
def dU (K:Nat) (a0:List (List Rat)) (a1:List Rat):Nat→Int→Option (LR Bool Unit)
 |0,_=>none
 |k+1,x7=>bif(decide (x7<(a0.length:Int))) then((bO a0 x7).bind fun v11=>bif((v11.length:Int) != (a1.length:Int)) then(some (.ret false)) else((kM K v11).bind fun v14=>bif(!v14) then(some (.ret false)) else((aR (x7+1)).bind fun v17=>dU K a0 a1 k v17))) else(some (.go ()))
def dX (K:Nat) (a0:List (List Rat)) (a1:List Rat):Option Bool:=
 bif((a0.length:Int) != (a1.length:Int)) then(some false) else(bif(decide (32<(a0.length:Int))) then(some false) else((kM K a1).bind fun v3=>bif(!v3) then(some false) else((dU K a0 a1 K 0).bind fun o=>match o with| .ret r=>some r| .go _=>p7 K)))
theorem rM {K:Nat} {a0:List (List Rat)} {a1:List Rat} {r:Bool} (hF:dX K a0 a1=some r):Ct Tryz.prog 43 [.vc (pS (fZ cQ) a0),.vc (pS cQ a1)] (.vc (pB r)):=by
 unfold dX at hF
 refine aA Tryz.func43 rfl (by kernel_rfl) Tryz.ntmps43 rfl (fun w0 M0=>?_)
 refine go ?_ ?_
 refine cG hF (fun h1 hF=>?_) (fun h1 hF=>?_)
 ·refine go ?_ ?_
  refine eU rfl ?_
  exact bP
 refine go ?_ ?_
 refine cG hF (fun h2 hF=>?_) (fun h2 hF=>?_)
 ·refine go ?_ ?_
  refine eU rfl ?_
  exact bP
 obtain⟨v3,h4,hF⟩:=aX hF sN
 refine go ?_ ?_
 refine aC hF rfl (fun h5 hF=>?_) (fun h5 hF=>?_)
 ·exact bP
 refine go ?_ ?_
 refine aI (aY (fun H E=>p7 K=some r∧H=[]∧E=[]) ?_ (fun Jj9=>?_))
 ·rintro _ _ ⟨hF,rfl,rfl⟩
  unfold p7 at hF
  exact bP
 obtain⟨ol8,hL,hRl8⟩:=aO hF
 refine dW (fun k a w=>∃(x7:Int),dU K a0 a1 k x7=some ol8∧hs _ [] [(1,.vc (pS cQ a1)),(22,.vc (pS (fZ cQ) a0)),(23,.vc (pI .i64 (a0.length:Int))),(24,.vc (pI .i64 x7))] a w) K (fun a w ⟨_,hF,_⟩=>by cases hF) (fun k a w ⟨x7,hF,hh⟩=>dV ?_ hh) (fun a w hh=>⟨0,hL,gO [] hh⟩)
 rw [dU.eq_2] at hF
 refine go ?_ ?_
 refine aC hF rfl (fun h10 hF=>?_) (fun h10 hF=>?_)
 ·refine go ?_ ?_
  refine aI ?_
  obtain⟨v11,h12,hF⟩:=aO hF
  refine go ?_ ?_
  refine cG hF (fun h13 hF=>?_) (fun h13 hF=>?_)
  ·refine go ?_ ?_
   refine eU rfl ?_
   exact bP
  obtain⟨v14,h15,hF⟩:=aX hF sN
  refine go ?_ ?_
  refine aC hF rfl (fun h16 hF=>?_) (fun h16 hF=>?_)
  ·exact bP
  obtain⟨v17,h18,hF⟩:=aO hF
  refine go ?_ ?_
  exact aF (fun a w hh=>⟨v17,hF,gO [] hh⟩)
 refine bI ?_
 obtain rfl:=iR hF
 exact p6 Jj9 ⟨hRl8,rfl,rfl⟩ []
def mY (K:Nat):Option Bool:=
 some false
def gM (K:Nat) (a0:List Rat):Nat→Int→Option (LR Bool Unit)
 |0,_=>none
 |k+1,x2=>bif(decide (x2<(a0.length:Int))) then((bO a0 x2).bind fun v6=>(xD v6).bind fun v9=>bif(decide (v9<0)) then(some (.ret true)) else((aR (x2+1)).bind fun v12=>gM K a0 k v12)) else(some (.go ()))
def gR (K:Nat) (a0:List Rat):Option Bool:=
 (gM K a0 K 0).bind fun o=>match o with| .ret r=>some r| .go _=>mY K
theorem oX {K:Nat} {a0:List Rat} {r:Bool} (hF:gR K a0=some r):Ct Tryz.prog 45 [.vc (pS cQ a0)] (.vc (pB r)):=by
 unfold gR at hF
 refine aA Tryz.func45 rfl (by kernel_rfl) Tryz.ntmps45 rfl (fun w0 M0=>?_)
 refine go ?_ ?_
 refine aI (aY (fun H E=>mY K=some r∧H=[]∧E=[]) ?_ (fun Jj4=>?_))
 ·rintro _ _ ⟨hF,rfl,rfl⟩
  unfold mY at hF
  exact bP
 obtain⟨ol3,hL,hRl3⟩:=aO hF
 refine dW (fun k a w=>∃(x2:Int),gM K a0 k x2=some ol3∧hs _ [] [(5,.vc (pS cQ a0)),(6,.vc (pI .i64 (a0.length:Int))),(7,.vc (pI .i64 x2))] a w) K (fun a w ⟨_,hF,_⟩=>by cases hF) (fun k a w ⟨x2,hF,hh⟩=>dV ?_ hh) (fun a w hh=>⟨0,hL,gO [] hh⟩)
 rw [gM.eq_2] at hF
 refine go ?_ ?_
 refine aC hF rfl (fun h5 hF=>?_) (fun h5 hF=>?_)
 ·refine go ?_ ?_
  refine aI ?_
  obtain⟨v6,h7,hF⟩:=aO hF
  refine go ?_ ?_
  refine aL rfl tyZ42q (fun b8=>?_)
  obtain⟨v9,h10,hF⟩:=aX hF iJ
  refine go ?_ ?_
  refine aC hF rfl (fun h11 hF=>?_) (fun h11 hF=>?_)
  ·exact bP
  obtain⟨v12,h13,hF⟩:=aO hF
  refine go ?_ ?_
  exact aF (fun a w hh=>⟨v12,hF,gO [] hh⟩)
 refine bI ?_
 obtain rfl:=iR hF
 exact p6 Jj4 ⟨hRl3,rfl,rfl⟩ []
def mH (K:Nat) (a1:List Rat) (x59:List Int) (x65:List Nat) (x71:List (List Rat)):Option (Int×(List Nat)×(List Int)×(List (List Rat))):=
 some ((a1.length:Int),x65,x59,x71)
def lV (K:Nat) (a1:List Rat) (x40:List Int) (x46:List Nat) (x52:List (List Rat)) (x58:Int) (recl77:(List Int)→(List Nat)→(List (List Rat))→Int→Option ((List Int)×(List Nat)×(List (List Rat)))) (x110:List Rat):Option ((List Int)×(List Nat)×(List (List Rat))):=
 (aR (2*(a1.length:Int))).bind fun v118=>(qof (-1) 1).bind fun v120=>(bO x110 v118).bind fun v122=>(pA x110 v118 v120).bind fun x124=>(aR (2*(a1.length:Int))).bind fun v127=>(aR (v127+1)).bind fun v129=>(bO a1 x58).bind fun v131=>(bO x124 v129).bind fun v133=>(pA x124 v129 v131).bind fun x135=>(sD x46 [x52.length]).bind fun x139=>(sD x40 [x58]).bind fun x146=>(aR (x58+1)).bind fun v153=>recl77 x146 x139 (x52++[x135]) v153
def eP (K:Nat) (a0:List (List Rat)) (a1:List Rat) (x58:Int):Nat→(List Rat)→Int→Option (List Rat)
 |0,_,_=>none
 |k+1,x103,x109=>bif(decide (x109<(a1.length:Int))) then((aR ((a1.length:Int)+x109)).bind fun v156=>(bO a0 x58).bind fun v158=>(bO v158 x109).bind fun v160=>(aCr v160).bind fun v162=>(bO x103 v156).bind fun v164=>(pA x103 v156 v162).bind fun x166=>(aR (x109+1)).bind fun v169=>eP K a0 a1 x58 k x166 v169) else(some x103)
def d8 (K:Nat) (a0:List (List Rat)) (a1:List Rat):Nat→(List Int)→(List Nat)→(List (List Rat))→Int→Option ((List Int)×(List Nat)×(List (List Rat)))
 |0,_,_,_,_=>none
 |k+1,x40,x46,x52,x58=>bif(decide (x58<(a1.length:Int))) then((aR (2*(a1.length:Int))).bind fun v80=>(aR (v80+2)).bind fun v82=>(y4 v82 0).bind fun x84=>(qof 1 1).bind fun v89=>(bO x84 x58).bind fun v91=>(pA x84 x58 v89).bind fun x93=>(eP K a0 a1 x58 K x93 0).bind fun x110=>lV K a1 x40 x46 x52 x58 (d8 K a0 a1 k) x110) else(some (x40,x46,x52))
def mJ (K:Nat) (a0:List (List Rat)) (a1:List Rat):Option (Int×(List Nat)×(List Int)×(List (List Rat))):=
 (d8 K a0 a1 K ([]:List Int) ([]:List Nat) ([]:List (List Rat)) 0).bind fun(x59,x65,x71)=>mH K a1 x59 x65 x71
theorem aAq {K:Nat} {a0:List (List Rat)} {a1:List Rat} {r:Int×(List Nat)×(List Int)×(List (List Rat))} (hF:mJ K a0 a1=some r):CtO Tryz.prog 44 [] [.vc (pS (fZ cQ) a0),.vc (pS cQ a1)] (fun Ho q=>∃b1171 b1175 c1176 n1177 b1180 c1181 n1182 g1185 N1186,r.2.1.length=n1177∧r.2.2.1.length=n1182∧r.2.2.2.length=N1186∧d7 g1185 r.2.2.2∧(∀k∈r.2.1,k<N1186)∧Ho=([⟨some b1171,1,72,3,1,([pI .i64 r.1]++[pO b1175 n1177 c1176]++[pO b1180 n1182 c1181])⟩,hO (cH g1185) b1175 c1176 24 n1177 r.2.1,hO cI b1180 c1181 3 n1182 r.2.2.1]++gD cQ 42 g1185 r.2.2.2)∧q=.vc (pP (some b1171) 0)):=by
 unfold mJ at hF
 refine aA Tryz.func44 rfl (by kernel_rfl) Tryz.ntmps44 rfl (fun w0 M0=>?_)
 refine aD (aK (aH (aM (p:=.any) (.inr rfl)) ⟨fun _=>trivial,trivial⟩ ?_))
 refine aU (aJ (aD (aK (fL ?_))))
 refine aH (aGA rfl tyS24) zU1 ?_
 refine y6 ?_
 refine aU (aJ (aD (aK (fL ?_))))
 refine aGB cQ 42 ?_
 refine aCc (cH ([]:List sE)) 24 ?_
 refine aCc cI 3 ?_
 refine aH (fG (is:=[0]) (xs:=[.tmp 12]) (ps:=[.vc (pI .i64 (a1.length:Int))]) rfl tyB72_o1_o2q rfl rfl ⟨trivial,trivial⟩ rfl) zU1 ?_
 refine cK rfl rfl trivial (fun b20=>?_)
 refine go ?_ ?_
 refine aI (aY (fun H E=>∃(x59:List Int),∃(x65:List Nat),∃(x71:List (List Rat)),∃(b60:Option Nat),∃(c61:Nat),∃(n62:Nat),∃(b66:Option Nat),∃(c67:Nat),∃(n68:Nat),∃(g72:List sE),∃(N73:Nat),mH K a1 x59 x65 x71=some r∧x59.length=n62∧x65.length=n68∧x71.length=N73∧d7 g72 x71∧(∀k∈x65,k<N73)∧H=([⟨some b20,1,72,3,1,([pI .i64 (a1.length:Int)]++[pO b66 n68 c67]++[pO b60 n62 c61])⟩,hO cI b60 c61 3 n62 x59,hO (cH g72) b66 c67 24 n68 x65]++gD cQ 42 g72 x71)∧E=[(6,.vc (pP (some b20) 0))]) ?_ (fun Jj78=>?_))
 ·rintro _ _ ⟨x59,x65,x71,b60,c61,n62,b66,c67,n68,g72,N73,hF,q63,q69,q74,q75,q76,rfl,rfl⟩
  unfold mH at hF
  refine go ?_ ?_
  refine fX (fY ?_)
  obtain rfl:=iR hF
  exact kC (.inl rfl) Tryz.results44 (.tmp rfl .nil) rfl 3 [0,2,1] rfl rfl (by decide) ⟨b20,b66,c67,n68,b60,c61,n62,g72,N73,q69,q63,q74,q75,q76,rfl,rfl⟩
 obtain⟨⟨x59',x65',x71'⟩,hL,hRl77⟩:=aO hF
 refine dW (fun k a w=>∃(x40:List Int),∃(x46:List Nat),∃(x52:List (List Rat)),∃(x58:Int),∃(b41:Option Nat),∃(c42:Nat),∃(n43:Nat),∃(b47:Option Nat),∃(c48:Nat),∃(n49:Nat),∃(g53:List sE),∃(N54:Nat),d8 K a0 a1 k x40 x46 x52 x58=some (x59',x65',x71')∧x40.length=n43∧x46.length=n49∧x52.length=N54∧d7 g53 x52∧(∀k∈x46,k<N54)∧hs _ ([⟨some b20,1,72,3,1,([pI .i64 (a1.length:Int)]++[pO b47 n49 c48]++[pO b41 n43 c42])⟩,hO cI b41 c42 3 n43 x40,hO (cH g53) b47 c48 24 n49 x46]++gD cQ 42 g53 x52) [(0,.vc (pS (fZ cQ) a0)),(1,.vc (pS cQ a1)),(5,.vc (pI .i64 (a1.length:Int))),(6,.vc (pP (some b20) 0)),(15,.vc (pI .i64 (a1.length:Int))),(16,.vc (pI .i64 x58))] a w) K (fun a w ⟨_,_,_,_,_,_,_,_,_,_,_,_,hF,_,_,_,_,_,_⟩=>by cases hF) (fun k a w ⟨x40,x46,x52,x58,b41,c42,n43,b47,c48,n49,g53,N54,hF,q44,q50,q55,q56,q57,hh⟩=>dV ?_ hh) (fun a w hh=>⟨([]:List Int),([]:List Nat),([]:List (List Rat)),0,none,0,0,none,0,0,([]:List sE),0,hL,rfl,rfl,(rfl),aDn,(by simp),aV 3 [0,1,2] rfl rfl (by decide) (by exact⟨rfl,rfl,rfl,rfl,rfl,rfl,trivial⟩) hh⟩)
 rw [d8.eq_2] at hF
 refine go ?_ ?_
 refine aC hF rfl (fun h79 hF=>?_) (fun h79 hF=>?_)
 ·refine go ?_ ?_
  refine aI ?_
  obtain⟨v80,h81,v82,h83,x84,h85,hF⟩:=bn3 hF
  refine go ?_ ?_
  refine qG (C:=cQ) rfl tyS24 rfl tyZ42q rfl h85 (fun b86=>?_)
  obtain⟨v89,h90,hF⟩:=aX hF tE
  obtain⟨v91,h92,x93,h94,hF⟩:=tY hF
  refine go ?_ ?_
  refine aI (aY (fun H E=>∃(x110:List Rat),lV K a1 x40 x46 x52 x58 (d8 K a0 a1 k) x110=some (x59',x65',x71')∧x110.length=x84.length∧H=([hO cQ b86 x84.length 42 x84.length x110,⟨some b20,1,72,3,1,([pI .i64 (a1.length:Int)]++[pO b47 n49 c48]++[pO b41 n43 c42])⟩,hO cI b41 c42 3 n43 x40,hO (cH g53) b47 c48 24 n49 x46]++gD cQ 42 g53 x52)∧E=[(0,.vc (pS (fZ cQ) a0)),(1,.vc (pS cQ a1)),(5,.vc (pI .i64 (a1.length:Int))),(6,.vc (pP (some b20) 0)),(7,.vc (pI .i64 x58)),(8,.vc (pO b86 x84.length x84.length)),(15,.vc (pI .i64 (a1.length:Int))),(16,.vc (pI .i64 x58))]) ?_ (fun Jj117=>?_))
  ·rintro _ _ ⟨x110,hF,q114,rfl,rfl⟩
   unfold lV at hF
   have hF:=qB h81 hF
   obtain⟨v120,h121,hF⟩:=aX hF tE
   obtain⟨v122,h123,x124,h125,hF⟩:=tY hF
   have hF:=qB h81 hF
   obtain⟨v129,h130,v131,h132,v133,h134,x135,h136,hF⟩:=bn4 hF
   refine go ?_ ?_
   refine aH (aLE (rs:=x52) rfl tyS23 q56.1 (show([hO cQ b86 x84.length 42 x84.length x135,⟨some b20,1,72,3,1,([pI .i64 (a1.length:Int)]++[pO b47 n49 c48]++[pO b41 n43 c42])⟩,hO cI b41 c42 3 n43 x40,hO (cH (g53++[(b86,x84.length,x84.length)])) b47 c48 24 n49 x46]++gD cQ 42 g53 x52)=([hO cQ b86 x84.length 42 x84.length x135,⟨some b20,1,72,3,1,([pI .i64 (a1.length:Int)]++[pO b47 n49 c48]++[pO b41 n43 c42])⟩,hO cI b41 c42 3 n43 x40,hO (cH g53) b47 c48 24 n49 x46]++gD cQ 42 g53 x52) from by rw [aGn (N:=x52.length) (b86,x84.length,x84.length) q56.1 (yY q55 q57)])) zU1 ?_
   refine aEc (g:=(b86,x84.length,x84.length)) 0 4 rfl rfl rfl q56 ?_
   refine aOK 8 rfl (aLP (N:=x52.length) (b86,x84.length,x84.length) q56.1) ?_
   obtain⟨x139,h140,hF⟩:=aO hF
   refine kK 2 rfl tyS23 rfl rfl q50 rfl rfl h140 (fun b141 c142 H143 e144=>?_)
   cases e144
   refine go ?_ ?_
   refine aH (gP (C:=cI) (xs:=[.tmp 74]) (ps:=[.vc (pI .i64 x58)]) (zs:=[x58]) rfl tyS22 rfl ⟨⟨trivial,rfl⟩,trivial⟩ rfl) zU1 ?_
   obtain⟨x146,h147,hF⟩:=aO hF
   refine kK 1 rfl tyS22 rfl rfl q44 rfl rfl h147 (fun b148 c149 H150 e151=>?_)
   cases e151
   obtain⟨v153,h154,hF⟩:=aO hF
   refine go ?_ ?_
   exact aF (fun a w hh=>⟨x146,x139,(x52++[x135]),v153,b148,c149,(n43+[x58].length),b141,c142,(n49+[x52.length].length),(g53++[(b86,x84.length,x84.length)]),(N54+1),hF,(bL h147 q44),(bL h140 q50),(aCX q55),(aAB q56 (bE h136 (bE h125 q114))),(aIF q57 q55 h140),aV 3 [0,1,2] rfl rfl (by decide) (by exact⟨rfl,rfl,rfl,rfl,rfl,rfl,trivial⟩) hh⟩)
  obtain⟨x110',hL,hRl116⟩:=aO hF
  refine dW (fun k a w=>∃(x103:List Rat),∃(x109:Int),eP K a0 a1 x58 k x103 x109=some x110'∧x103.length=x84.length∧hs _ ([hO cQ b86 x84.length 42 x84.length x103,⟨some b20,1,72,3,1,([pI .i64 (a1.length:Int)]++[pO b47 n49 c48]++[pO b41 n43 c42])⟩,hO cI b41 c42 3 n43 x40,hO (cH g53) b47 c48 24 n49 x46]++gD cQ 42 g53 x52) [(0,.vc (pS (fZ cQ) a0)),(1,.vc (pS cQ a1)),(5,.vc (pI .i64 (a1.length:Int))),(6,.vc (pP (some b20) 0)),(7,.vc (pI .i64 x58)),(8,.vc (pO b86 x84.length x84.length)),(15,.vc (pI .i64 (a1.length:Int))),(16,.vc (pI .i64 x58)),(27,.vc (pI .i64 (a1.length:Int))),(28,.vc (pI .i64 x109))] a w) K (fun a w ⟨_,_,hF,_,_⟩=>by cases hF) (fun k a w ⟨x103,x109,hF,q107,hh⟩=>dV ?_ hh) (fun a w hh=>⟨x93,0,hL,(bE h94 rfl),aV 4 [0,1,2,3] rfl rfl (by decide) (by exact⟨rfl,rfl,rfl,rfl,rfl,rfl,rfl,rfl,rfl,rfl,trivial⟩) hh⟩)
  rw [eP.eq_2] at hF
  refine go ?_ ?_
  refine aC hF rfl (fun h155 hF=>?_) (fun h155 hF=>?_)
  ·refine go ?_ ?_
   refine aI ?_
   obtain⟨v156,h157,v158,h159,v160,h161,hF⟩:=bn3 hF
   obtain⟨v162,h163,hF⟩:=aX hF wJ
   obtain⟨v164,h165,x166,h167,v169,h170,hF⟩:=bn3 hF
   refine go ?_ ?_
   exact aF (fun a w hh=>⟨x166,v169,hF,(bE h167 q107),aV 4 [0,1,2,3] rfl rfl (by decide) (by exact⟨rfl,rfl,rfl,rfl,rfl,rfl,rfl,rfl,rfl,rfl,trivial⟩) hh⟩)
  refine bI ?_
  obtain rfl:=iR hF
  exact iE Jj117 ⟨x103,hRl116,q107,rfl,rfl⟩ 4 [0,1,2,3] rfl rfl ⟨rfl,rfl,rfl,rfl,rfl,rfl,rfl,rfl,trivial⟩
 refine bI ?_
 obtain⟨rfl,rfl,rfl⟩:=sm3 hF
 exact iE Jj78 ⟨x40,x46,x52,b41,c42,n43,b47,c48,n49,g53,N54,hRl77,q44,q50,q55,q56,q57,rfl,rfl⟩ 3 [0,1,2] rfl rfl zU1
def lB (K:Nat) (x69:List Rat) (x75:List Rat):Option aN:=
 some (⟨x75,x69,0⟩:aN)
def bH (K:Nat) (a0:Int) (a1:List Nat) (a2:List Int) (a3:List (List Rat)):Nat→(List Rat)→(List Rat)→Int→Option ((List Rat)×(List Rat))
 |0,_,_,_=>none
 |k+1,x56,x62,x68=>bif(decide (x68<(a2.length:Int))) then((bO a2 x68).bind fun v84=>(bO a1 x68).bind fun v88=>(aR (2*a0)).bind fun v90=>(aR (v90+1)).bind fun v92=>(bO (a3.getD v88 []) v92).bind fun v94=>bif(decide (v84<a0)) then((bO x56 v84).bind fun v97=>(pA x56 v84 v94).bind fun x99=>(aR (x68+1)).bind fun v102=>bH K a0 a1 a2 a3 k x99 x62 v102) else((aR (2*a0)).bind fun v104=>bif(decide (v84<v104)) then((aR (v84-a0)).bind fun v109=>(bO x62 v109).bind fun v111=>(pA x62 v109 v94).bind fun x113=>(aR (x68+1)).bind fun v116=>bH K a0 a1 a2 a3 k x56 x113 v116) else((aR (x68+1)).bind fun v118=>bH K a0 a1 a2 a3 k x56 x62 v118))) else(some (x56,x62))
def eK (K:Nat) (a0:Int) (a1:List Nat) (a2:List Int) (a3:List (List Rat)):Option aN:=
 (y4 a0 0).bind fun x23=>(y4 a0 0).bind fun x27=>(bH K a0 a1 a2 a3 K x27 x23 0).bind fun(x69,x75)=>lB K x69 x75
theorem qV {K:Nat} {a0:Int} {a1:List Nat} {a2:List Int} {a3:List (List Rat)} {r:aN} (hF:eK K a0 a1 a2 a3=some r) {p0:Nat} {b4:Option Nat} {c5 n6:Nat} {b9:Option Nat} {c10 n11:Nat} {g14:List sE} {N15:Nat} (q7:a1.length=n6) (q12:a2.length=n11) (q16:a3.length=N15) (q17:d7 g14 a3) (q18:∀k∈a1,k<N15):CtO Tryz.prog 46 ([⟨some p0,1,72,3,1,([pI .i64 a0]++[pO b4 n6 c5]++[pO b9 n11 c10])⟩,hO (cH g14) b4 c5 24 n6 a1,hO cI b9 c10 3 n11 a2]++gD cQ 42 g14 a3) [.vc (pP (some p0) 0)] (fun Ho q=>Ho=([⟨some p0,1,72,3,1,([pI .i64 a0]++[pO b4 n6 c5]++[pO b9 n11 c10])⟩,hO (cH g14) b4 c5 24 n6 a1,hO cI b9 c10 3 n11 a2]++gD cQ 42 g14 a3)∧q=.va (aN.enc r)):=by
 unfold eK at hF
 refine aA Tryz.func46 rfl (by kernel_rfl) Tryz.ntmps46 rfl (fun w0 M0=>?_)
 refine aD (aK (aL rfl tyZ30q (fun b20=>?_)))
 obtain⟨x23,h24,hF⟩:=aO hF
 have hF:=qB h24 hF
 refine go ?_ ?_
 refine tQ (HsM [(0,fun G21=>([⟨some b20,1,30,3,1,([pS cQ ([]:List Rat)]++[pS cQ ([]:List Rat)]++[pI .i64 0])⟩,⟨some p0,1,72,3,1,([pI .i64 a0]++[pO b4 n6 c5]++[pO b9 n11 c10])⟩,hO (cH g14) b4 c5 24 n6 a1,hO cI b9 c10 3 n11 a2]++gD cQ 42 g14 a3)),(1,fun G21=>([hO cQ ((G21 4).1) x23.length 42 x23.length x23,⟨some b20,1,30,3,1,([pS cQ ([]:List Rat)]++[pS cQ ([]:List Rat)]++[pI .i64 0])⟩,⟨some p0,1,72,3,1,([pI .i64 a0]++[pO b4 n6 c5]++[pO b9 n11 c10])⟩,hO (cH g14) b4 c5 24 n6 a1,hO cI b9 c10 3 n11 a2]++gD cQ 42 g14 a3)),(2,fun G21=>([hO cQ ((G21 9).1) x23.length 42 x23.length x23,⟨some b20,1,30,3,1,([pS cQ ([]:List Rat)]++[pS cQ ([]:List Rat)]++[pI .i64 0])⟩,⟨some p0,1,72,3,1,([pI .i64 a0]++[pO b4 n6 c5]++[pO b9 n11 c10])⟩,hO (cH g14) b4 c5 24 n6 a1,hO cI b9 c10 3 n11 a2]++gD cQ 42 g14 a3)),(3,fun G21=>([hO cQ ((G21 9).1) x23.length 42 x23.length x23,hO cQ ((G21 4).1) x23.length 42 x23.length x23,⟨some b20,1,30,3,1,([pS cQ ([]:List Rat)]++[pS cQ ([]:List Rat)]++[pI .i64 0])⟩,⟨some p0,1,72,3,1,([pI .i64 a0]++[pO b4 n6 c5]++[pO b9 n11 c10])⟩,hO (cH g14) b4 c5 24 n6 a1,hO cI b9 c10 3 n11 a2]++gD cQ 42 g14 a3)),(7,fun G21=>([hO cQ (dB (G21 10).2) x23.length 42 x23.length x23,hO cQ ((G21 10).1) x23.length 42 x23.length x23,⟨some b20,1,30,3,1,([pS cQ ([]:List Rat)]++[pS cQ ([]:List Rat)]++[pI .i64 0])⟩,⟨some p0,1,72,3,1,([pI .i64 a0]++[pO b4 n6 c5]++[pO b9 n11 c10])⟩,hO (cH g14) b4 c5 24 n6 a1,hO cI b9 c10 3 n11 a2]++gD cQ 42 g14 a3))]) [4,9,10] [0,1,3,7,15,0,32,96,224,480,1023,0,4095] 12 1 [.v (.vc (pP (some p0) 0)),.v (.vc (pP (some p0) 0)),.v (.vc (pP (some p0) 0)),.v (.vc (pI .i64 a0)),.g (fun b _=>.vc (pO b x23.length x23.length)),.v (.vc (pP (some p0) 0)),.v (.vc (pP (some p0) 0)),.v (.vc (pP (some p0) 0)),.v (.vc (pI .i64 a0)),.g (fun b _=>.vc (pO b x23.length x23.length)),.g (fun b c=>.va ([pO b x23.length x23.length]++[pO (dB c) x23.length x23.length]++[pI .i64 0])),.a 30 ([pS cQ ([]:List Rat)]++[pS cQ ([]:List Rat)]++[pI .i64 0])] aW ⟨⟨rfl,.run (L:=[0,2]) ⟨fun G21 A=>aM (.inl rfl),fun G21 A=>aM (.inl rfl),trivial⟩ (fun G21=>zU1)⟩,⟨rfl,.run (L:=[0,2]) ⟨fun G21 A=>qZ rfl,fun G21 A=>qZ rfl,trivial⟩ (fun G21=>zU1)⟩,⟨rfl,.run (L:=[0,2]) ⟨fun G21 A=>jW (off:=0) (k:=0) rfl tyF72_0,fun G21 A=>jW (off:=0) (k:=0) rfl tyF72_0,trivial⟩ (fun G21=>zU1)⟩,⟨rfl,.run (L:=[0,2]) ⟨fun G21 A=>iD 1 1 rfl rfl rfl rfl (.one tyO3),fun G21 A=>iD 2 1 rfl rfl rfl rfl (.one tyO3),trivial⟩ (fun G21=>zU1)⟩,⟨rfl,.hvy [0,2] ⟨fun G21 A=>wQ (C:=cQ) rfl tyS24 rfl tyZ42q h24,fun G21 A=>aPf (R:=gD cQ 42 g14 a3) [1,0,2,3,4,5] (wQ (C:=cQ) rfl tyS24 rfl tyZ42q h24) (fun b_ c_=>⟨[hO cQ (b_) x23.length 42 x23.length x23,hO cQ ((G21 9).1) x23.length 42 x23.length x23,⟨some b20,1,30,3,1,([pS cQ ([]:List Rat)]++[pS cQ ([]:List Rat)]++[pI .i64 0])⟩,⟨some p0,1,72,3,1,([pI .i64 a0]++[pO b4 n6 c5]++[pO b9 n11 c10])⟩,hO (cH g14) b4 c5 24 n6 a1,hO cI b9 c10 3 n11 a2],_,rfl,rfl,rfl⟩),trivial⟩ (fun G21=>zU1)⟩,⟨rfl,.run (L:=[0,1]) ⟨fun G21 A=>aM (.inl rfl),fun G21 A=>aM (.inl rfl),trivial⟩ (fun G21=>zU1)⟩,⟨rfl,.run (L:=[0,1]) ⟨fun G21 A=>qZ rfl,fun G21 A=>qZ rfl,trivial⟩ (fun G21=>zU1)⟩,⟨rfl,.run (L:=[0,1]) ⟨fun G21 A=>jW (off:=0) (k:=0) rfl tyF72_0,fun G21 A=>jW (off:=0) (k:=0) rfl tyF72_0,trivial⟩ (fun G21=>zU1)⟩,⟨rfl,.run (L:=[0,1]) ⟨fun G21 A=>iD 1 1 rfl rfl rfl rfl (.one tyO3),fun G21 A=>iD 2 1 rfl rfl rfl rfl (.one tyO3),trivial⟩ (fun G21=>zU1)⟩,⟨rfl,.hvy [0,1] ⟨fun G21 A=>wQ (C:=cQ) rfl tyS24 rfl tyZ42q h24,fun G21 A=>wQ (C:=cQ) rfl tyS24 rfl tyZ42q h24,trivial⟩ (fun G21=>zU1)⟩,⟨rfl,.hvy [3] ⟨fun G21 A=>aLU (Post:=fun b_ x_=>([hO cQ x_ x23.length 42 x23.length x23,hO cQ b_ x23.length 42 x23.length x23,⟨some b20,1,30,3,1,([pS cQ ([]:List Rat)]++[pS cQ ([]:List Rat)]++[pI .i64 0])⟩,⟨some p0,1,72,3,1,([pI .i64 a0]++[pO b4 n6 c5]++[pO b9 n11 c10])⟩,hO (cH g14) b4 c5 24 n6 a1,hO cI b9 c10 3 n11 a2]++gD cQ 42 g14 a3)++A) (out:=fun b_ x_=>.va ([pO b_ x23.length x23.length]++[pO x_ x23.length x23.length]++[pI .i64 0])) ((G21 4).1) ((G21 9).1) (fG (is:=[0,1]) (xs:=[.tmp 11,.tmp 16]) (ps:=[.vc (pO ((G21 4).1) x23.length x23.length),.vc (pO ((G21 9).1) x23.length x23.length)]) rfl tyB30q rfl rfl ⟨trivial,trivial,trivial⟩ rfl),trivial⟩ (fun G21=>zU2)⟩,⟨rfl,.alc tyZ30q⟩,trivial⟩ (fun bs22 G21=>?_)
 refine go ?_ ?_
 refine aI (aY (fun H E=>∃(x69:List Rat),∃(x75:List Rat),lB K x69 x75=some r∧x69.length=x23.length∧x75.length=x23.length∧H=([⟨some (bs22 11),1,30,3,1,([pO ((G21 10).1) x23.length x23.length]++[pO (dB (G21 10).2) x23.length x23.length]++[pI .i64 0])⟩,hO cQ (dB (G21 10).2) x23.length 42 x23.length x69,hO cQ ((G21 10).1) x23.length 42 x23.length x75,⟨some b20,1,30,3,1,([pS cQ ([]:List Rat)]++[pS cQ ([]:List Rat)]++[pI .i64 0])⟩,⟨some p0,1,72,3,1,([pI .i64 a0]++[pO b4 n6 c5]++[pO b9 n11 c10])⟩,hO (cH g14) b4 c5 24 n6 a1,hO cI b9 c10 3 n11 a2]++gD cQ 42 g14 a3)∧E=[(2,.vc (pP (some b20) 0)),(3,.vc (pP (some (bs22 11)) 0))]) ?_ (fun Jj82=>?_))
 ·rintro _ _ ⟨x69,x75,hF,q73,q79,rfl,rfl⟩
  unfold lB at hF
  refine aJ (aD (aK (aDL 2 0 0 rfl q79 rfl rfl rfl rfl rfl ?_)))
  refine aDL 1 0 1 rfl q73 rfl rfl rfl rfl rfl ?_
  refine go ?_ ?_
  refine fX (fY ?_)
  obtain rfl:=iR hF
  exact kC (.inl rfl) Tryz.results46 (vP 1 3 rfl rfl rfl rfl (.agg tyA30) .nil) rfl 5 [2,3,4] rfl rfl (by decide) ⟨rfl,rfl⟩
 obtain⟨⟨x69',x75'⟩,hL,hRl81⟩:=aO hF
 refine dW (fun k a w=>∃(x56:List Rat),∃(x62:List Rat),∃(x68:Int),bH K a0 a1 a2 a3 k x56 x62 x68=some (x69',x75')∧x56.length=x23.length∧x62.length=x23.length∧hs _ ([⟨some (bs22 11),1,30,3,1,([pO ((G21 10).1) x23.length x23.length]++[pO (dB (G21 10).2) x23.length x23.length]++[pI .i64 0])⟩,hO cQ (dB (G21 10).2) x23.length 42 x23.length x56,hO cQ ((G21 10).1) x23.length 42 x23.length x62,⟨some b20,1,30,3,1,([pS cQ ([]:List Rat)]++[pS cQ ([]:List Rat)]++[pI .i64 0])⟩,⟨some p0,1,72,3,1,([pI .i64 a0]++[pO b4 n6 c5]++[pO b9 n11 c10])⟩,hO (cH g14) b4 c5 24 n6 a1,hO cI b9 c10 3 n11 a2]++gD cQ 42 g14 a3) [(0,.vc (pP (some p0) 0)),(2,.vc (pP (some b20) 0)),(3,.vc (pP (some (bs22 11)) 0)),(21,.vc (pO b9 n11 c10)),(22,.vc (pI .i64 (a2.length:Int))),(23,.vc (pI .i64 x68))] a w) K (fun a w ⟨_,_,_,hF,_,_,_⟩=>by cases hF) (fun k a w ⟨x56,x62,x68,hF,q60,q66,hh⟩=>dV ?_ hh) (fun a w hh=>⟨x23,x23,0,hL,rfl,rfl,aV 7 [0,1,2,3,4,5,6] rfl rfl (by decide) (by exact⟨rfl,rfl,rfl,rfl,rfl,rfl,trivial⟩) hh⟩)
 rw [bH.eq_2] at hF
 refine go ?_ ?_
 refine aC hF rfl (fun h83 hF=>?_) (fun h83 hF=>?_)
 ·refine go ?_ ?_
  refine aI ?_
  obtain⟨v84,h85,v88,h89,v90,h91,v92,h93,hF⟩:=bn4 hF
  obtain⟨v94,h95,hF⟩:=aO hF
  refine go ?_ ?_
  refine iG [0,1,3,7,0,31,63,0,128,384,896,1920,3968,8191,16383,0,65535] 16 1 [.v (.vc (pP (some p0) 0)),.v (.vc (pP (some p0) 0)),.v (.vc (pP (some p0) 1)),.v (.vc (pO b4 n6 c5)),.v (.vc (pI .i64 x68)),.v (.vc (pE b4 x68 (cH g14).n 0)),.v (.vc (pO (jB g14 v88).1 (jB g14 v88).2.1 (jB g14 v88).2.2)),.v (.vc (pP (some p0) 0)),.v (.vc (pP (some p0) 0)),.v (.vc (pP (some p0) 0)),.v (.vc (pI .i64 a0)),.v (.vc (pI .i64 v90)),.v (.vc (pI .i64 v92)),.v (.vc (pE (jB g14 v88).1 v92 cQ.n 0)),.v (.va (eQ v94)),.a 42 (eQ 0)] aW ⟨d0 (aM (.inl rfl)) zU1,d0 (qZ rfl) zU1,d0 (jW (off:=0) (k:=1) rfl tyF72_1) zU1,d0 (iD 4 1 rfl rfl rfl rfl (.one tyO23)) zU1,d0 (aM (.inl rfl)) zU1,d0 (gN (C:=(cH g14)) 5 rfl tyS23 rfl q7 (aG h89).1 (aG h89).2.1) zU2,d0 (lZ (C:=(cH g14)) (k:=1) 5 rfl rfl h89 rfl (.one tyO24) rfl) zU1,d0 (aM (.inl rfl)) zU1,d0 (qZ rfl) zU1,d0 (jW (off:=0) (k:=0) rfl tyF72_0) zU1,d0 (iD 4 1 rfl rfl rfl rfl (.one tyO3)) zU1,d0 (aCK rfl h91) ⟨oJ _ _,rfl,trivial⟩,d0 (yU rfl h93) ⟨rfl,oJ _ _,trivial⟩,d0 (gN (7+v88) rfl tyS24 (kX 7 rfl q17 q16 (q18 _ (aT h89))) (fQ q17 q16 (q18 _ (aT h89))) (aG h95).1 (aG h95).2.1) zU2,d0 (lZ (k:=4) (7+v88) rfl (kX 7 rfl q17 q16 (q18 _ (aT h89))) h95 rfl (.agg tyA42) rfl) zU1,⟨rfl,.alc tyZ42q⟩,trivial⟩ (fun bs87 G86=>?_)
  refine go ?_ ?_
  refine aI (go ?_ ?_)
  refine aC hF rfl (fun h96 hF=>?_) (fun h96 hF=>?_)
  ·obtain⟨v97,h98,x99,h100,v102,h103,hF⟩:=bn3 hF
   refine go ?_ ?_
   exact aF (fun a w hh=>⟨x99,x62,v102,hF,(bE h100 q60),q66,aV 8 [1,2,3,4,5,6,7] rfl rfl (by decide) (by exact⟨rfl,rfl,rfl,rfl,rfl,rfl,trivial⟩) hh⟩)
  have hF:=qB h91 hF
  refine go ?_ ?_
  refine aC hF rfl (fun h106 hF=>?_) (fun h106 hF=>?_)
  ·obtain⟨v109,h110,hF⟩:=aO hF
   obtain⟨v111,h112,hF⟩:=aO hF
   refine dr [0,1,0,0,8,24,56,124,0,511,1023] 10 1 ?_ (fun bs108 G107=>?_)
   obtain⟨x113,h114,v116,h117,hF⟩:=tY hF
   refine go ?_ ?_
   exact aF (fun a w hh=>⟨x56,x113,v116,hF,q60,(bE h114 q66),aV 8 [1,2,3,4,5,6,7] rfl rfl (by decide) (by exact⟨rfl,rfl,rfl,rfl,rfl,rfl,trivial⟩) hh⟩)
  obtain⟨v118,h119,hF⟩:=aO hF
  refine go ?_ ?_
  exact aF (fun a w hh=>⟨x56,x62,v118,hF,q60,q66,aV 8 [1,2,3,4,5,6,7] rfl rfl (by decide) (by exact⟨rfl,rfl,rfl,rfl,rfl,rfl,trivial⟩) hh⟩)
 refine bI ?_
 obtain⟨rfl,rfl⟩:=sm2 hF
 exact iE Jj82 ⟨x56,x62,hRl81,q60,q66,rfl,rfl⟩ 7 [0,1,2,3,4,5,6] rfl rfl zU2
def jO (K:Nat):Option Bool:=
 some false
def dR (K:Nat) (a0:Int) (a1:Rat) (a2:Int) (a3:Rat) (a5:List Nat) (a7:List (List Rat)) (x23:Int) (recl24:Int→Option (LR Bool Unit)) (x28:Int):Option (LR Bool Unit):=
 (bO a5 a0).bind fun v32=>(bO (a7.getD v32 []) x28).bind fun v34=>(aDP v34 a1).bind fun v36=>(bO a5 a2).bind fun v38=>(bO (a7.getD v38 []) x28).bind fun v40=>(aDP v40 a3).bind fun v42=>(aIG v36 v42).bind fun v44=>bif(v44 != 0) then(some (.ret (decide (v44<0)))) else((aR (x23+1)).bind fun v47=>recl24 v47)
def aQ (K:Nat) (a0:Int) (a1:Rat) (a2:Int) (a3:Rat) (a4:Int) (a5:List Nat) (a7:List (List Rat)):Nat→Int→Option (LR Bool Unit)
 |0,_=>none
 |k+1,x23=>bif(decide (x23<a4)) then(bif(decide (x23<0)) then((aR (2*a4)).bind fun v50=>(aR (v50+1)).bind fun v52=>dR K a0 a1 a2 a3 a5 a7 x23 (aQ K a0 a1 a2 a3 a4 a5 a7 k) v52) else(dR K a0 a1 a2 a3 a5 a7 x23 (aQ K a0 a1 a2 a3 a4 a5 a7 k) x23)) else(some (.go ()))
def dY (K:Nat) (a0:Int) (a1:Rat) (a2:Int) (a3:Rat) (a4:Int) (a5:List Nat) (a6:List Int) (a7:List (List Rat)):Option Bool:=
 (aQ K a0 a1 a2 a3 a4 a5 a7 K (-1)).bind fun o=>match o with| .ret r=>some r| .go _=>jO K
theorem rZ {K:Nat} {a0:Int} {a1:Rat} {a2:Int} {a3:Rat} {a4:Int} {a5:List Nat} {a6:List Int} {a7:List (List Rat)} {r:Bool} (hF:dY K a0 a1 a2 a3 a4 a5 a6 a7=some r) {p0:Nat} {b4:Option Nat} {c5 n6:Nat} {b9:Option Nat} {c10 n11:Nat} {g14:List sE} {N15:Nat} (q7:a5.length=n6) (q12:a6.length=n11) (q16:a7.length=N15) (q17:d7 g14 a7) (q18:∀k∈a5,k<N15):CtO Tryz.prog 48 ([⟨some p0,1,72,3,1,([pI .i64 a4]++[pO b4 n6 c5]++[pO b9 n11 c10])⟩,hO (cH g14) b4 c5 24 n6 a5,hO cI b9 c10 3 n11 a6]++gD cQ 42 g14 a7) [.vc (pP (some p0) 0),.vc (pI .i64 a0),.va (eQ a1),.vc (pI .i64 a2),.va (eQ a3)] (fun Ho q=>Ho=([⟨some p0,1,72,3,1,([pI .i64 a4]++[pO b4 n6 c5]++[pO b9 n11 c10])⟩,hO (cH g14) b4 c5 24 n6 a5,hO cI b9 c10 3 n11 a6]++gD cQ 42 g14 a7)∧q=.vc (pB r)):=by
 unfold dY at hF
 refine aA Tryz.func48 rfl (by kernel_rfl) Tryz.ntmps48 rfl (fun w0 M0=>?_)
 refine aD (aK (cK rfl rfl trivial (fun b20=>?_)))
 refine cK rfl rfl trivial (fun b21=>?_)
 refine go ?_ ?_
 refine aI (aY (fun H E=>jO K=some r∧H=([⟨some p0,1,72,3,1,([pI .i64 a4]++[pO b4 n6 c5]++[pO b9 n11 c10])⟩,hO (cH g14) b4 c5 24 n6 a5,hO cI b9 c10 3 n11 a6]++gD cQ 42 g14 a7)∧E=[]) ?_ (fun Jj25=>?_))
 ·rintro _ _ ⟨hF,rfl,rfl⟩
  unfold jO at hF
  refine go ?_ ?_
  refine fX (fY ?_)
  obtain rfl:=iR hF
  exact kC (.inl rfl) Tryz.results48 (.tmp rfl .nil) rfl 3 [0,1,2] rfl rfl (by decide) ⟨rfl,rfl⟩
 obtain⟨ol24,hL,hRl24⟩:=aO hF
 refine dW (fun k a w=>∃(x23:Int),aQ K a0 a1 a2 a3 a4 a5 a7 k x23=some ol24∧hs _ ([⟨some b21,1,42,4,1,(eQ a3)⟩,⟨some b20,1,42,4,1,(eQ a1)⟩,⟨some p0,1,72,3,1,([pI .i64 a4]++[pO b4 n6 c5]++[pO b9 n11 c10])⟩,hO (cH g14) b4 c5 24 n6 a5,hO cI b9 c10 3 n11 a6]++gD cQ 42 g14 a7) [(0,.vc (pP (some p0) 0)),(1,.vc (pI .i64 a0)),(3,.vc (pI .i64 a2)),(7,.vc (pP (some b20) 0)),(9,.vc (pP (some b21) 0)),(11,.vc (pI .i64 x23))] a w) K (fun a w ⟨_,hF,_⟩=>by cases hF) (fun k a w ⟨x23,hF,hh⟩=>dV ?_ hh) (fun a w hh=>⟨(-1),hL,aV 5 [0,1,2,3,4] rfl rfl (by decide) (by exact⟨rfl,rfl,rfl,rfl,rfl,rfl,trivial⟩) hh⟩)
 rw [aQ.eq_2] at hF
 refine go ?_ ?_
 refine aC hF rfl (fun h26 hF=>?_) (fun h26 hF=>?_)
 ·refine go ?_ ?_
  refine aI (aD (aK (fL ?_)))
  refine y6 ?_
  refine aU (aJ (aD (yR (fun H E=>∃(x28:Int),dR K a0 a1 a2 a3 a5 a7 x23 (aQ K a0 a1 a2 a3 a4 a5 a7 k) x28=some ol24∧H=([⟨some b21,1,42,4,1,(eQ a3)⟩,⟨some b20,1,42,4,1,(eQ a1)⟩,⟨some p0,1,72,3,1,([pI .i64 a4]++[pO b4 n6 c5]++[pO b9 n11 c10])⟩,hO (cH g14) b4 c5 24 n6 a5,hO cI b9 c10 3 n11 a6]++gD cQ 42 g14 a7)∧E=[(0,.vc (pP (some p0) 0)),(1,.vc (pI .i64 a0)),(3,.vc (pI .i64 a2)),(7,.vc (pP (some b20) 0)),(9,.vc (pP (some b21) 0)),(11,.vc (pI .i64 x23)),(12,.vc (pI .i64 x28))]) ?_ (fun Jj29=>?_))))
  ·rintro _ _ ⟨x28,hF,rfl,rfl⟩
   unfold dR at hF
   refine aD ?_
   obtain⟨v32,h33,hF⟩:=aO hF
   obtain⟨v34,h35,hF⟩:=aO hF
   obtain⟨v36,h37,hF⟩:=aX hF yX
   obtain⟨v38,h39,hF⟩:=aO hF
   obtain⟨v40,h41,hF⟩:=aO hF
   obtain⟨v42,h43,hF⟩:=aX hF yX
   obtain⟨v44,h45,hF⟩:=aX hF aBr
   refine iG (0::1::3::7::0::31::63::0::255::511::0::2047::0::4096::12288::28672::0::126976::258048::0::1044480::2093056::0::8388607::16777215::33554431::[]) 26 0 (.v (.vc (pP (some p0) 0))::.v (.vc (pP (some p0) 0))::.v (.vc (pP (some p0) 1))::.v (.vc (pO b4 n6 c5))::.v (.vc (pI .i64 a0))::.v (.vc (pE b4 a0 (cH g14).n 0))::.v (.vc (pO (jB g14 v32).1 (jB g14 v32).2.1 (jB g14 v32).2.2))::.v (.vc (pI .i64 x28))::.v (.vc (pE (jB g14 v32).1 x28 cQ.n 0))::.v (.va (eQ v34))::.v (.va (eQ a1))::.v (.va (eQ v36))::.v (.vc (pP (some p0) 0))::.v (.vc (pP (some p0) 0))::.v (.vc (pP (some p0) 1))::.v (.vc (pO b4 n6 c5))::.v (.vc (pI .i64 a2))::.v (.vc (pE b4 a2 (cH g14).n 0))::.v (.vc (pO (jB g14 v38).1 (jB g14 v38).2.1 (jB g14 v38).2.2))::.v (.vc (pI .i64 x28))::.v (.vc (pE (jB g14 v38).1 x28 cQ.n 0))::.v (.va (eQ v40))::.v (.va (eQ a3))::.v (.va (eQ v42))::.v (.vc (pI .i64 v44))::.v (.vc (pI .i64 v44))::[]) aW ⟨d0 (aM (.inl rfl)) zU1,d0 (qZ rfl) zU1,d0 (jW (off:=0) (k:=1) rfl tyF72_1) zU1,d0 (iD 2 1 rfl rfl rfl rfl (.one tyO23)) zU1,d0 (aM (.inl rfl)) zU1,d0 (gN (C:=(cH g14)) 3 rfl tyS23 rfl q7 (aG h33).1 (aG h33).2.1) zU2,d0 (lZ (C:=(cH g14)) (k:=1) 3 rfl rfl h33 rfl (.one tyO24) rfl) zU1,d0 (aM (.inl rfl)) zU1,d0 (gN (5+v32) rfl tyS24 (kX 5 rfl q17 q16 (q18 _ (aT h33))) (fQ q17 q16 (q18 _ (aT h33))) (aG h35).1 (aG h35).2.1) zU2,d0 (lZ (k:=4) (5+v32) rfl (kX 5 rfl q17 q16 (q18 _ (aT h33))) h35 rfl (.agg tyA42) rfl) zU1,d0 (iD 1 4 rfl rfl rfl rfl (.agg tyA42)) zU1,d0 (bD rfl h37 rfl) zU2,d0 (aM (.inl rfl)) zU1,d0 (qZ rfl) zU1,d0 (jW (off:=0) (k:=1) rfl tyF72_1) zU1,d0 (iD 2 1 rfl rfl rfl rfl (.one tyO23)) zU1,d0 (aM (.inl rfl)) zU1,d0 (gN (C:=(cH g14)) 3 rfl tyS23 rfl q7 (aG h39).1 (aG h39).2.1) zU2,d0 (lZ (C:=(cH g14)) (k:=1) 3 rfl rfl h39 rfl (.one tyO24) rfl) zU1,d0 (aM (.inl rfl)) zU1,d0 (gN (5+v38) rfl tyS24 (kX 5 rfl q17 q16 (q18 _ (aT h39))) (fQ q17 q16 (q18 _ (aT h39))) (aG h41).1 (aG h41).2.1) zU2,d0 (lZ (k:=4) (5+v38) rfl (kX 5 rfl q17 q16 (q18 _ (aT h39))) h41 rfl (.agg tyA42) rfl) zU1,d0 (iD 0 4 rfl rfl rfl rfl (.agg tyA42)) zU1,d0 (bD rfl h43 rfl) zU2,d0 (bD rfl h45 rfl) zU2,d0 (aM (.inr rfl)) zU1,trivial⟩ (fun bs31 G30=>?_)
   refine go ?_ ?_
   refine aC hF rfl (fun h46 hF=>?_) (fun h46 hF=>?_)
   ·refine go ?_ ?_
    refine fX (fY ?_)
    obtain rfl:=iR hF
    obtain rfl:=iR hRl24
    exact kC (.inl rfl) Tryz.results48 (.tmp rfl .nil) rfl 5 [2,3,4] rfl rfl (by decide) ⟨rfl,rfl⟩
   obtain⟨v47,h48,hF⟩:=aO hF
   refine go ?_ ?_
   exact aF (fun a w hh=>⟨v47,hF,aV 5 [0,1,2,3,4] rfl rfl (by decide) (by exact⟨rfl,rfl,rfl,rfl,rfl,rfl,trivial⟩) hh⟩)
  refine go ?_ ?_
  refine aC hF rfl (fun h49 hF=>?_) (fun h49 hF=>?_)
  ·refine aK (fL ?_)
   refine aH (qZ rfl) zU1 ?_
   refine aH (jW (off:=0) (k:=0) rfl tyF72_0) zU1 ?_
   refine aH (iD 2 1 rfl rfl rfl rfl (.one tyO3)) zU1 ?_
   obtain⟨v50,h51,hF⟩:=aO hF
   refine aH (aCK rfl h51) ⟨oJ _ _,rfl,trivial⟩ ?_
   obtain⟨v52,h53,hF⟩:=aO hF
   refine aH (yU rfl h53) ⟨rfl,oJ _ _,trivial⟩ ?_
   refine y6 ?_
   refine aU ?_
   exact iE Jj29 ⟨v52,hF,rfl,rfl⟩ 5 [0,1,2,3,4] rfl rfl ⟨rfl,rfl,rfl,rfl,rfl,rfl,rfl,trivial⟩
  refine iC ?_
  exact iE Jj29 ⟨x23,hF,rfl,rfl⟩ 5 [0,1,2,3,4] rfl rfl ⟨rfl,rfl,rfl,rfl,rfl,rfl,rfl,trivial⟩
 refine bI ?_
 obtain rfl:=iR hF
 exact iE Jj25 ⟨hRl24,rfl,rfl⟩ 5 [2,3,4] rfl rfl trivial
def iX (K:Nat) (a0:Int) (a1:Int) (a4:List Int) (x57:List Nat) (x71:List (List Rat)):Option (Int×(List Nat)×(List Int)×(List (List Rat))):=
 (bO a4 a0).bind fun v77=>(bO a4 a0).bind fun v79=>(pA a4 a0 a1).bind fun x81=>some (v77,x57,x81,x71)
def iM (K:Nat) (x70:Int) (recl75:(List (List Rat))→Int→Option (List (List Rat))) (x108:List (List Rat)):Option (List (List Rat)):=
 (aR (x70+1)).bind fun v114=>recl75 x108 v114
def cA (K:Nat) (a5:List (List Rat)) (x66:List (List Rat)) (v85:Nat) (v87:Rat):Nat→(List (List Rat))→Int→Option (List (List Rat))
 |0,_,_=>none
 |k+1,x103,x107=>bif(decide (x107<((x66.getD v85 []).length:Int))) then((bO (x103.getD v85 []) x107).bind fun v119=>(bO (x103.getD a5.length []) x107).bind fun v121=>(aES v87 v121).bind fun v123=>(aFk v119 v123).bind fun v125=>(bO (x103.getD v85 []) x107).bind fun v127=>(pA (x103.getD v85 []) x107 v125).bind fun x129=>(aR (x107+1)).bind fun v132=>cA K a5 x66 v85 v87 k (x103.set v85 x129) v132) else(some x103)
def bA (K:Nat) (a0:Int) (a1:Int) (a5:List (List Rat)) (x57:List Nat):Nat→(List (List Rat))→Int→Option (List (List Rat))
 |0,_,_=>none
 |k+1,x66,x70=>bif(decide (x70<(x57.length:Int))) then((bO x57 x70).bind fun v85=>(bO (x66.getD v85 []) a1).bind fun v87=>bif(x70==a0) then((aR (x70+1)).bind fun v91=>bA K a0 a1 a5 x57 k x66 v91) else((xD v87).bind fun v93=>bif(v93==0) then((aR (x70+1)).bind fun v96=>bA K a0 a1 a5 x57 k x66 v96) else((cA K a5 x66 v85 v87 K x66 0).bind fun x108=>iM K x70 (bA K a0 a1 a5 x57 k) x108))) else(some x66)
def iY (K:Nat) (a0:Int) (a1:Int) (a3:List Nat) (a4:List Int) (a5:List (List Rat)) (x47:List Rat):Option (Int×(List Nat)×(List Int)×(List (List Rat))):=
 (bO a3 a0).bind fun v55=>(pA a3 a0 a5.length).bind fun x57=>(bA K a0 a1 a5 x57 K (a5++[x47]) 0).bind fun x71=>iX K a0 a1 a4 x57 x71
def cF (K:Nat) (a5:List (List Rat)) (x22:List Rat) (v27:Nat) (v30:Rat):Nat→(List Rat)→Int→Option (List Rat)
 |0,_,_=>none
 |k+1,x40,x46=>bif(decide (x46<((cpL x22 (a5.getD v27 [])).length:Int))) then((bO x40 x46).bind fun v137=>(aDP v137 v30).bind fun v139=>(bO x40 x46).bind fun v141=>(pA x40 x46 v139).bind fun x143=>(aR (x46+1)).bind fun v146=>cF K a5 x22 v27 v30 k x143 v146) else(some x40)
def iI (K:Nat) (a0:Int) (a1:Int) (a2:Int) (a3:List Nat) (a4:List Int) (a5:List (List Rat)):Option (Int×(List Nat)×(List Int)×(List (List Rat))):=
 (bO a3 a0).bind fun v20=>(y4 ((a5.getD v20 []).length:Int) 0).bind fun x22=>(bO a3 a0).bind fun v27=>(bO (cpL x22 (a5.getD v27 [])) a1).bind fun v30=>(cF K a5 x22 v27 v30 K (cpL x22 (a5.getD v27 [])) 0).bind fun x47=>iY K a0 a1 a3 a4 a5 x47
theorem v0 {K:Nat} {a0:Int} {a1:Int} {a2:Int} {a3:List Nat} {a4:List Int} {a5:List (List Rat)} {r:Int×(List Nat)×(List Int)×(List (List Rat))} (hF:iI K a0 a1 a2 a3 a4 a5=some r) {p0:Nat} {b4:Option Nat} {c5 n6:Nat} {b9:Option Nat} {c10 n11:Nat} {g14:List sE} {N15:Nat} (q7:a3.length=n6) (q12:a4.length=n11) (q16:a5.length=N15) (q17:d7 g14 a5) (q18:∀k∈a3,k<N15):CtO Tryz.prog 49 ([⟨some p0,1,72,3,1,([pI .i64 a2]++[pO b4 n6 c5]++[pO b9 n11 c10])⟩,hO (cH g14) b4 c5 24 n6 a3,hO cI b9 c10 3 n11 a4]++gD cQ 42 g14 a5) [.vc (pP (some p0) 0),.vc (pI .i64 a0),.vc (pI .i64 a1)] (fun Ho q=>∃b1148 c1149 n1150 g1155 N1156,r.2.1.length=n1150∧r.2.2.1.length=n11∧r.2.2.2.length=N1156∧d7 g1155 r.2.2.2∧(∀k∈r.2.1,k<N1156)∧Ho=([⟨some p0,1,72,3,1,([pI .i64 a2]++[pO b1148 n1150 c1149]++[pO b9 n11 c10])⟩,hO (cH g1155) b1148 c1149 24 n1150 r.2.1,hO cI b9 c10 3 n11 r.2.2.1]++gD cQ 42 g1155 r.2.2.2)∧q=.vc (pI .i64 r.1)):=by
 unfold iI at hF
 refine aA Tryz.func49 rfl (by kernel_rfl) Tryz.ntmps49 rfl (fun w0 M0=>?_)
 obtain⟨v20,h21,hF⟩:=aO hF
 refine go ?_ ?_
 refine aH (aAW (C:=cQ) (xs:=(a5.getD v20 [])) (T:=42) rfl tyS24 (fQ q17 q16 (q18 _ (aT h21)))) zU1 ?_
 obtain⟨x22,h23,hF⟩:=aO hF
 refine qG (C:=cQ) rfl tyS24 rfl tyZ42q rfl h23 (fun b24=>?_)
 have hF:=qB h21 hF
 refine go ?_ ?_
 refine aH (aQB 0 (4+v20) rfl tyS24 rfl rfl (s9 4 rfl q17 q16 (q18 _ (aT h21))) (fQ q17 q16 (q18 _ (aT h21))) rfl) zU2 ?_
 obtain⟨v30,h31,hF⟩:=aO hF
 refine go ?_ ?_
 refine aH (gN (C:=cQ) 0 rfl tyS24 rfl (aC7 rfl) (aG h31).1 (aG h31).2.1) zU2 ?_
 refine aH (lZ (k:=4) 0 rfl rfl h31 rfl (.agg tyA42) rfl) zU1 ?_
 refine aL rfl tyZ42q (fun b32=>?_)
 refine go ?_ ?_
 refine aH (aAW (C:=cQ) (xs:=(cpL x22 (a5.getD v20 []))) (T:=42) rfl tyS24 (aC7 rfl)) zU1 ?_
 refine go ?_ ?_
 refine aI (aY (fun H E=>∃(x47:List Rat),iY K a0 a1 a3 a4 a5 x47=some r∧x47.length=x22.length∧H=([hO cQ b24 x22.length 42 x22.length x47,⟨some p0,1,72,3,1,([pI .i64 a2]++[pO b4 n6 c5]++[pO b9 n11 c10])⟩,hO (cH g14) b4 c5 24 n6 a3,hO cI b9 c10 3 n11 a4]++gD cQ 42 g14 a5)∧E=[(0,.vc (pP (some p0) 0)),(1,.vc (pI .i64 a0)),(2,.vc (pI .i64 a1)),(7,.vc (pO b24 x22.length x22.length))]) ?_ (fun Jj54=>?_))
 ·rintro _ _ ⟨x47,hF,q51,rfl,rfl⟩
  unfold iY at hF
  refine aJ (aD (aK (fL ?_)))
  refine aH (qZ rfl) zU1 ?_
  refine aH (jW (off:=0) (k:=1) rfl tyF72_1) zU1 ?_
  refine aH (iD 1 1 rfl rfl rfl rfl (.one tyO23)) zU1 ?_
  refine fL ?_
  refine fL ?_
  have hF:=qB h21 hF
  refine aH (gN (C:=(cH g14)) 2 rfl tyS23 rfl q7 (aG h21).1 (aG h21).2.1) zU2 ?_
  obtain⟨x57,h58,hF⟩:=aO hF
  refine aQC (show([hO cQ b24 x22.length 42 x22.length x47,⟨some p0,1,72,3,1,([pI .i64 a2]++[pO b4 n6 c5]++[pO b9 n11 c10])⟩,hO (cH (g14++[(b24,x22.length,x22.length)])) b4 c5 24 n6 a3,hO cI b9 c10 3 n11 a4]++gD cQ 42 g14 a5)=([hO cQ b24 x22.length 42 x22.length x47,⟨some p0,1,72,3,1,([pI .i64 a2]++[pO b4 n6 c5]++[pO b9 n11 c10])⟩,hO (cH g14) b4 c5 24 n6 a3,hO cI b9 c10 3 n11 a4]++gD cQ 42 g14 a5) from by rw [aGn (N:=a5.length) (b24,x22.length,x22.length) q17.1 (yY q16 q18)]) ?_
  refine lI (wB (C:=cH (g14++[(b24,x22.length,x22.length)])) (z':=a5.length) 2 rfl rfl h21 h58 tyO24.s (hq:=aL3 (b24,x22.length,x22.length) q17.1)) zU2 ?_
  refine aEc (g:=(b24,x22.length,x22.length)) 0 4 rfl rfl rfl q17 ?_
  refine aOK 7 rfl (aLP (N:=a5.length) (b24,x22.length,x22.length) q17.1) ?_
  refine go ?_ ?_
  refine aI (aY (fun H E=>∃(x71:List (List Rat)),iX K a0 a1 a4 x57 x71=some r∧x71.length=(N15+1)∧d7 (g14++[(b24,x22.length,x22.length)]) x71∧H=([⟨some p0,1,72,3,1,([pI .i64 a2]++[pO b4 n6 c5]++[pO b9 n11 c10])⟩,hO (cH (g14++[(b24,x22.length,x22.length)])) b4 c5 24 n6 x57,hO cI b9 c10 3 n11 a4]++gD cQ 42 (g14++[(b24,x22.length,x22.length)]) x71)∧E=[(0,.vc (pP (some p0) 0)),(1,.vc (pI .i64 a0)),(2,.vc (pI .i64 a1))]) ?_ (fun Jj76=>?_))
  ·rintro _ _ ⟨x71,hF,q72,q73,rfl,rfl⟩
   unfold iX at hF
   obtain⟨v77,h78,hF⟩:=aO hF
   have hF:=qB h78 hF
   obtain⟨x81,h82,hF⟩:=aO hF
   refine go ?_ ?_
   refine fX (fY ?_)
   obtain rfl:=iR hF
   exact kC (.inl rfl) Tryz.results49 (.tmp rfl .nil) rfl 3 [0,1,2] rfl rfl (by decide) ⟨b4,c5,n6,(g14++[(b24,x22.length,x22.length)]),(N15+1),(bE h58 q7),(bE h82 q12),q72,q73,(uE q18 h58 q16),rfl,rfl⟩
  obtain⟨x71',hL,hRl75⟩:=aO hF
  refine dW (fun k a w=>∃(x66:List (List Rat)),∃(x70:Int),bA K a0 a1 a5 x57 k x66 x70=some x71'∧x66.length=(N15+1)∧d7 (g14++[(b24,x22.length,x22.length)]) x66∧hs _ ([⟨some p0,1,72,3,1,([pI .i64 a2]++[pO b4 n6 c5]++[pO b9 n11 c10])⟩,hO (cH (g14++[(b24,x22.length,x22.length)])) b4 c5 24 n6 x57,hO cI b9 c10 3 n11 a4]++gD cQ 42 (g14++[(b24,x22.length,x22.length)]) x66) [(0,.vc (pP (some p0) 0)),(1,.vc (pI .i64 a0)),(2,.vc (pI .i64 a1)),(7,.vc (pO (jB (g14++[(b24,x22.length,x22.length)]) a5.length).1 (jB (g14++[(b24,x22.length,x22.length)]) a5.length).2.1 (jB (g14++[(b24,x22.length,x22.length)]) a5.length).2.2)),(62,.vc (pO b4 n6 c5)),(63,.vc (pI .i64 (x57.length:Int))),(64,.vc (pI .i64 x70))] a w) K (fun a w ⟨_,_,hF,_,_,_⟩=>by cases hF) (fun k a w ⟨x66,x70,hF,q67,q68,hh⟩=>dV ?_ hh) (fun a w hh=>⟨(a5++[x47]),0,hL,(aCX q16),(aAB q17 q51),aV 3 [0,1,2] rfl rfl (by decide) (by exact⟨rfl,rfl,rfl,rfl,rfl,rfl,rfl,trivial⟩) hh⟩)
  rw [bA.eq_2] at hF
  refine go ?_ ?_
  refine aC hF rfl (fun h84 hF=>?_) (fun h84 hF=>?_)
  ·refine go ?_ ?_
   refine aI ?_
   obtain⟨v85,h86,v87,h88,hF⟩:=tY hF
   refine go ?_ ?_
   refine aH (gN (3+v85) rfl tyS24 (s9 3 rfl q68 q67 ((uE q18 h58 q16) _ (aT h86))) (fQ q68 q67 ((uE q18 h58 q16) _ (aT h86))) (aG h88).1 (aG h88).2.1) zU2 ?_
   refine aH (lZ (k:=4) (3+v85) rfl (s9 3 rfl q68 q67 ((uE q18 h58 q16) _ (aT h86))) h88 rfl (.agg tyA42) rfl) zU1 ?_
   refine aL rfl tyZ42q (fun b89=>?_)
   refine go ?_ ?_
   refine cG hF (fun h90 hF=>?_) (fun h90 hF=>?_)
   ·refine go ?_ ?_
    refine eU rfl ?_
    refine bI ?_
    obtain⟨v91,h92,hF⟩:=aO hF
    refine go ?_ ?_
    exact aF (fun a w hh=>⟨x66,v91,hF,q67,q68,aV 4 [1,2,3] rfl rfl (by decide) (by exact⟨rfl,rfl,rfl,rfl,rfl,rfl,rfl,trivial⟩) hh⟩)
   obtain⟨v93,h94,hF⟩:=aX hF iJ
   refine go ?_ ?_
   refine aC hF rfl (fun h95 hF=>?_) (fun h95 hF=>?_)
   ·refine bI ?_
    obtain⟨v96,h97,hF⟩:=aO hF
    refine go ?_ ?_
    exact aF (fun a w hh=>⟨x66,v96,hF,q67,q68,aV 4 [1,2,3] rfl rfl (by decide) (by exact⟨rfl,rfl,rfl,rfl,rfl,rfl,rfl,trivial⟩) hh⟩)
   refine go ?_ ?_
   refine aH (aAW (C:=cQ) (xs:=(x66.getD v85 [])) (T:=42) rfl tyS24 (fQ q68 q67 ((uE q18 h58 q16) _ (aT h86)))) zU1 ?_
   refine go ?_ ?_
   refine aI (aY (fun H E=>∃(x108:List (List Rat)),iM K x70 (bA K a0 a1 a5 x57 k) x108=some x71'∧x108.length=(N15+1)∧d7 (g14++[(b24,x22.length,x22.length)]) x108∧H=([⟨some p0,1,72,3,1,([pI .i64 a2]++[pO b4 n6 c5]++[pO b9 n11 c10])⟩,hO (cH (g14++[(b24,x22.length,x22.length)])) b4 c5 24 n6 x57,hO cI b9 c10 3 n11 a4]++gD cQ 42 (g14++[(b24,x22.length,x22.length)]) x108)∧E=[(0,.vc (pP (some p0) 0)),(1,.vc (pI .i64 a0)),(2,.vc (pI .i64 a1)),(7,.vc (pO (jB (g14++[(b24,x22.length,x22.length)]) a5.length).1 (jB (g14++[(b24,x22.length,x22.length)]) a5.length).2.1 (jB (g14++[(b24,x22.length,x22.length)]) a5.length).2.2)),(62,.vc (pO b4 n6 c5)),(63,.vc (pI .i64 (x57.length:Int))),(64,.vc (pI .i64 x70)),(77,.va (eQ v87)),(78,.vc (pI .i64 v93)),(79,.vc (pB (v93==0)))]) ?_ (fun Jj113=>?_))
   ·rintro _ _ ⟨x108,hF,q109,q110,rfl,rfl⟩
    unfold iM at hF
    obtain⟨v114,h115,hF⟩:=aO hF
    refine go ?_ ?_
    exact aF (fun a w hh=>⟨x108,v114,hF,q109,q110,aV 3 [0,1,2] rfl rfl (by decide) (by exact⟨rfl,rfl,rfl,rfl,rfl,rfl,rfl,trivial⟩) hh⟩)
   obtain⟨x108',hL,hRl112⟩:=aO hF
   refine dW (fun k a w=>∃(x103:List (List Rat)),∃(x107:Int),cA K a5 x66 v85 v87 k x103 x107=some x108'∧x103.length=(N15+1)∧d7 (g14++[(b24,x22.length,x22.length)]) x103∧hs _ ([⟨some b89,1,42,4,1,(eQ v87)⟩,⟨some p0,1,72,3,1,([pI .i64 a2]++[pO b4 n6 c5]++[pO b9 n11 c10])⟩,hO (cH (g14++[(b24,x22.length,x22.length)])) b4 c5 24 n6 x57,hO cI b9 c10 3 n11 a4]++gD cQ 42 (g14++[(b24,x22.length,x22.length)]) x103) [(0,.vc (pP (some p0) 0)),(1,.vc (pI .i64 a0)),(2,.vc (pI .i64 a1)),(7,.vc (pO (jB (g14++[(b24,x22.length,x22.length)]) a5.length).1 (jB (g14++[(b24,x22.length,x22.length)]) a5.length).2.1 (jB (g14++[(b24,x22.length,x22.length)]) a5.length).2.2)),(11,.vc (pO (jB (g14++[(b24,x22.length,x22.length)]) v85).1 (jB (g14++[(b24,x22.length,x22.length)]) v85).2.1 (jB (g14++[(b24,x22.length,x22.length)]) v85).2.2)),(12,.vc (pP (some b89) 0)),(62,.vc (pO b4 n6 c5)),(63,.vc (pI .i64 (x57.length:Int))),(64,.vc (pI .i64 x70)),(77,.va (eQ v87)),(78,.vc (pI .i64 v93)),(79,.vc (pB (v93==0))),(82,.vc (pI .i64 ((x66.getD v85 []).length:Int))),(83,.vc (pI .i64 x107))] a w) K (fun a w ⟨_,_,hF,_,_,_⟩=>by cases hF) (fun k a w ⟨x103,x107,hF,q104,q105,hh⟩=>dV ?_ hh) (fun a w hh=>⟨x66,0,hL,q67,q68,aV 4 [0,1,2,3] rfl rfl (by decide) (by exact⟨rfl,rfl,rfl,rfl,rfl,rfl,rfl,rfl,rfl,rfl,rfl,rfl,rfl,rfl,trivial⟩) hh⟩)
   rw [cA.eq_2] at hF
   refine go ?_ ?_
   refine aC hF rfl (fun h116 hF=>?_) (fun h116 hF=>?_)
   ·refine go ?_ ?_
    refine aI ?_
    obtain⟨v119,h120,v121,h122,hF⟩:=tY hF
    obtain⟨v123,h124,hF⟩:=aX hF yZ
    obtain⟨v125,h126,hF⟩:=aX hF yS
    have hF:=qB h120 hF
    refine go ?_ ?_
    refine iG [0,0,0,0,12,28,0,0,0,384,896,1984,4092,8191,16383] 14 1 [.v (.vc (pO (jB (g14++[(b24,x22.length,x22.length)]) v85).1 (jB (g14++[(b24,x22.length,x22.length)]) v85).2.1 (jB (g14++[(b24,x22.length,x22.length)]) v85).2.2)),.v (.vc (pI .i64 x107)),.v (.vc (pO (jB (g14++[(b24,x22.length,x22.length)]) v85).1 (jB (g14++[(b24,x22.length,x22.length)]) v85).2.1 (jB (g14++[(b24,x22.length,x22.length)]) v85).2.2)),.v (.vc (pI .i64 x107)),.v (.vc (pE (jB (g14++[(b24,x22.length,x22.length)]) v85).1 x107 cQ.n 0)),.v (.va (eQ v119)),.v (.va (eQ v87)),.v (.vc (pO (jB (g14++[(b24,x22.length,x22.length)]) a5.length).1 (jB (g14++[(b24,x22.length,x22.length)]) a5.length).2.1 (jB (g14++[(b24,x22.length,x22.length)]) a5.length).2.2)),.v (.vc (pI .i64 x107)),.v (.vc (pE (jB (g14++[(b24,x22.length,x22.length)]) a5.length).1 x107 cQ.n 0)),.v (.va (eQ v121)),.v (.va (eQ v123)),.v (.va (eQ v125)),.v (.vc (pE (jB (g14++[(b24,x22.length,x22.length)]) v85).1 x107 cQ.n 0))] aW ⟨d0 (aM (.inl rfl)) zU1,d0 (aM (.inl rfl)) zU1,d0 (aM (.inl rfl)) zU1,d0 (aM (.inl rfl)) zU1,d0 (gN (4+v85) rfl tyS24 (kX 4 rfl q105 q104 ((uE q18 h58 q16) _ (aT h86))) (fQ q105 q104 ((uE q18 h58 q16) _ (aT h86))) (aG h120).1 (aG h120).2.1) zU2,d0 (lZ (k:=4) (4+v85) rfl (kX 4 rfl q105 q104 ((uE q18 h58 q16) _ (aT h86))) h120 rfl (.agg tyA42) rfl) zU1,d0 (iD 0 4 rfl rfl rfl rfl (.agg tyA42)) zU1,d0 (aM (.inl rfl)) zU1,d0 (aM (.inl rfl)) zU1,d0 (gN (4+a5.length) rfl tyS24 (kX 4 rfl q105 q104 (aGc q16)) (fQ q105 q104 (aGc q16)) (aG h122).1 (aG h122).2.1) zU2,d0 (lZ (k:=4) (4+a5.length) rfl (kX 4 rfl q105 q104 (aGc q16)) h122 rfl (.agg tyA42) rfl) zU1,d0 (bD rfl h124 rfl) zU2,d0 (bD rfl h126 rfl) zU2,d0 (gN (4+v85) rfl tyS24 (kX 4 rfl q105 q104 ((uE q18 h58 q16) _ (aT h86))) (fQ q105 q104 ((uE q18 h58 q16) _ (aT h86))) (aG h120).1 (aG h120).2.1) zU2,trivial⟩ (fun bs118 G117=>?_)
    obtain⟨x129,h130,hF⟩:=aO hF
    refine lI (wB (H':=([⟨some b89,1,42,4,1,(eQ v87)⟩,⟨some p0,1,72,3,1,([pI .i64 a2]++[pO b4 n6 c5]++[pO b9 n11 c10])⟩,hO (cH (g14++[(b24,x22.length,x22.length)])) b4 c5 24 n6 x57,hO cI b9 c10 3 n11 a4]++gD cQ 42 (g14++[(b24,x22.length,x22.length)]) (x103.set v85 x129))) (4+v85) rfl (s9 4 rfl q105 q104 ((uE q18 h58 q16) _ (aT h86))) h120 h130 tyA42.s (hH:=stN 4 rfl q105 q104 ((uE q18 h58 q16) _ (aT h86)))) zU2 ?_
    obtain⟨v132,h133,hF⟩:=aO hF
    refine go ?_ ?_
    exact aF (fun a w hh=>⟨(x103.set v85 x129),v132,hF,(aDd q104),(aEO q105 q104 ((uE q18 h58 q16) _ (aT h86)) (bE h130 rfl)),aV 4 [0,1,2,3] rfl rfl (by decide) (by exact⟨rfl,rfl,rfl,rfl,rfl,rfl,rfl,rfl,rfl,rfl,rfl,rfl,rfl,rfl,trivial⟩) hh⟩)
   refine bI ?_
   obtain rfl:=iR hF
   exact iE Jj113 ⟨x103,hRl112,q104,q105,rfl,rfl⟩ 4 [1,2,3] rfl rfl ⟨rfl,rfl,rfl,rfl,rfl,rfl,rfl,rfl,rfl,rfl,trivial⟩
  refine bI ?_
  obtain rfl:=iR hF
  exact iE Jj76 ⟨x66,hRl75,q67,q68,rfl,rfl⟩ 3 [0,1,2] rfl rfl ⟨rfl,rfl,rfl,trivial⟩
 obtain⟨x47',hL,hRl53⟩:=aO hF
 refine dW (fun k a w=>∃(x40:List Rat),∃(x46:Int),cF K a5 x22 v20 v30 k x40 x46=some x47'∧x40.length=x22.length∧hs _ ([⟨some b32,1,42,4,1,(eQ v30)⟩,hO cQ b24 x22.length 42 x22.length x40,⟨some p0,1,72,3,1,([pI .i64 a2]++[pO b4 n6 c5]++[pO b9 n11 c10])⟩,hO (cH g14) b4 c5 24 n6 a3,hO cI b9 c10 3 n11 a4]++gD cQ 42 g14 a5) [(0,.vc (pP (some p0) 0)),(1,.vc (pI .i64 a0)),(2,.vc (pI .i64 a1)),(7,.vc (pO b24 x22.length x22.length)),(8,.vc (pP (some b32) 0)),(38,.vc (pI .i64 ((cpL x22 (a5.getD v20 [])).length:Int))),(39,.vc (pI .i64 x46))] a w) K (fun a w ⟨_,_,hF,_,_⟩=>by cases hF) (fun k a w ⟨x40,x46,hF,q44,hh⟩=>dV ?_ hh) (fun a w hh=>⟨(cpL x22 (a5.getD v20 [])),0,hL,(aC7 rfl),aV 5 [0,1,2,3,4] rfl rfl (by decide) (by exact⟨rfl,rfl,rfl,rfl,rfl,rfl,rfl,trivial⟩) hh⟩)
 rw [cF.eq_2] at hF
 refine go ?_ ?_
 refine aC hF rfl (fun h134 hF=>?_) (fun h134 hF=>?_)
 ·refine go ?_ ?_
  refine aI ?_
  obtain⟨v137,h138,hF⟩:=aO hF
  obtain⟨v139,h140,hF⟩:=aX hF yX
  have hF:=qB h138 hF
  refine go ?_ ?_
  refine dr [0,0,0,0,12,28,0,124,255,511] 9 1 ?_ (fun bs136 G135=>?_)
  obtain⟨x143,h144,v146,h147,hF⟩:=tY hF
  refine go ?_ ?_
  exact aF (fun a w hh=>⟨x143,v146,hF,(bE h144 q44),aV 5 [0,1,2,3,4] rfl rfl (by decide) (by exact⟨rfl,rfl,rfl,rfl,rfl,rfl,rfl,trivial⟩) hh⟩)
 refine bI ?_
 obtain rfl:=iR hF
 exact iE Jj54 ⟨x40,hRl53,q44,rfl,rfl⟩ 5 [1,2,3,4] rfl rfl ⟨rfl,rfl,rfl,rfl,trivial⟩
def sK (K:Nat):Option (aN×Int):=
 none
def nV (K:Nat) (x86:Int) (v90:Int×(List Nat)×(List Int)×(List (List Rat))) (x116:Int) (recl87:(List Nat)→(List Int)→(List (List Rat))→Int→Int→Int→Option (LR (aN×Int) Unit)) (x122:Int):Option (LR (aN×Int) Unit):=
 bif(decide (x122<0)) then(some (.ret ((⟨([]:List Rat),([]:List Rat),0⟩:aN),15))) else((aR (x86+1)).bind fun v126=>recl87 v90.2.1 v90.2.2.1 v90.2.2.2 x122 x116 v126)
def cV (K:Nat) (v6:Int×(List Nat)×(List Int)×(List (List Rat))) (v90:Int×(List Nat)×(List Int)×(List (List Rat))) (x116:Int):Nat→Int→Int→Option Int
 |0,_,_=>none
 |k+1,x120,x121=>bif(decide (x121<(v90.2.1.length:Int))) then((bO v90.2.1 x121).bind fun v129=>(bO (v90.2.2.2.getD v129 []) x116).bind fun v133=>(xD v133).bind fun v135=>bif(decide (0<v135)) then(bif(decide (x120<0)) then((aR (x121+1)).bind fun v139=>cV K v6 v90 x116 k x121 v139) else((bO (v90.2.2.2.getD v129 []) x116).bind fun v141=>(bO v90.2.1 x120).bind fun v143=>(bO (v90.2.2.2.getD v143 []) x116).bind fun v145=>(dY K x121 v141 x120 v145 v6.1 v90.2.1 v90.2.2.1 v90.2.2.2).bind fun v147=>bif v147 then((aR (x121+1)).bind fun v150=>cV K v6 v90 x116 k x121 v150) else((aR (x121+1)).bind fun v152=>cV K v6 v90 x116 k x120 v152))) else((aR (x121+1)).bind fun v154=>cV K v6 v90 x116 k x120 v154)) else(some x120)
def jQ (K:Nat) (v6:Int×(List Nat)×(List Int)×(List (List Rat))) (x86:Int) (v90:Int×(List Nat)×(List Int)×(List (List Rat))) (recl87:(List Nat)→(List Int)→(List (List Rat))→Int→Int→Int→Option (LR (aN×Int) Unit)) (x116:Int):Option (LR (aN×Int) Unit):=
 (cV K v6 v90 x116 K (-1) 0).bind fun x122=>nV K x86 v90 x116 recl87 x122
def cN (K:Nat) (a2:Int) (v6:Int×(List Nat)×(List Int)×(List (List Rat))):Nat→(List Nat)→(List Int)→(List (List Rat))→Int→Int→Int→Option (LR (aN×Int) Unit)
 |0,_,_,_,_,_,_=>none
 |k+1,x66,x72,x78,x84,x85,x86=>bif(x86==a2) then(some (.ret ((⟨([]:List Rat),([]:List Rat),0⟩:aN),16))) else((iI K x84 x85 v6.1 x66 x72 x78).bind fun v90=>(aR (2*v6.1)).bind fun v105=>bif(v90.1==v105) then((eK K v6.1 v90.2.1 v90.2.2.1 v90.2.2.2).bind fun v108=>(aR (x86+1)).bind fun v111=>some (.ret ((⟨v108.z,v108.w,v111⟩:aN),0))) else((aR (v90.1+v6.1)).bind fun v113=>bif(decide (v6.1≤v90.1)) then((aR (v90.1-v6.1)).bind fun v157=>jQ K v6 x86 v90 (cN K a2 v6 k) v157) else(jQ K v6 x86 v90 (cN K a2 v6 k) v113)))
def oT (K:Nat) (a2:Int) (v6:Int×(List Nat)×(List Int)×(List (List Rat))) (x40:Int):Option (aN×Int):=
 (aR (2*v6.1)).bind fun v43=>(cN K a2 v6 K v6.2.1 v6.2.2.1 v6.2.2.2 x40 v43 0).bind fun o=>match o with| .ret r=>some r| .go _=>sK K
def f7 (K:Nat) (v6:Int×(List Nat)×(List Int)×(List (List Rat))) (v33:Rat):Nat→Int→Int→Option Int
 |0,_,_=>none
 |k+1,x38,x39=>bif(decide (x39<v6.1)) then((dY K x39 v33 x38 v33 v6.1 v6.2.1 v6.2.2.1 v6.2.2.2).bind fun v160=>bif v160 then((aR (x39+1)).bind fun v163=>f7 K v6 v33 k x39 v163) else((aR (x39+1)).bind fun v165=>f7 K v6 v33 k x38 v165)) else(some x38)
def gF (K:Nat) (a0:List (List Rat)) (a1:List Rat) (a2:Int):Option (aN×Int):=
 (dX K a0 a1).bind fun v2=>bif(!v2) then(some ((⟨([]:List Rat),([]:List Rat),0⟩:aN),1)) else(bif(decide (a2<0)) then(some ((⟨([]:List Rat),([]:List Rat),0⟩:aN),1)) else((mJ K a0 a1).bind fun v6=>(gR K a1).bind fun v28=>bif(!v28) then((eK K v6.1 v6.2.1 v6.2.2.1 v6.2.2.2).bind fun v31=>some (v31,0)) else((qof 1 1).bind fun v33=>(f7 K v6 v33 K 0 0).bind fun x40=>oT K a2 v6 x40)))
theorem uJ {K:Nat} {a0:List (List Rat)} {a1:List Rat} {a2:Int} {r:aN×Int} (hF:gF K a0 a1 a2=some r):Ct Tryz.prog 13 [.vc (pS (fZ cQ) a0),.vc (pS cQ a1),.vc (pI .i64 a2)] (.t2 (.va (aN.enc r.1)) (.vc (pI .i64 r.2))):=by
 unfold gF at hF
 refine aA Tryz.func13 rfl (by kernel_rfl) Tryz.ntmps13 rfl (fun w0 M0=>?_)
 refine aD (aK (aL rfl tyZ30q (fun b1=>?_)))
 obtain⟨v2,h3,hF⟩:=aX hF rM
 refine go ?_ ?_
 refine cG hF (fun h4 hF=>?_) (fun h4 hF=>?_)
 ·refine go ?_ ?_
  refine eU rfl ?_
  refine aD (aK (aH (fG (is:=[]) (xs:=[]) (ps:=[]) rfl tyB30q rfl rfl trivial rfl) trivial ?_))
  exact bP
 refine go ?_ ?_
 refine aC hF rfl (fun h5 hF=>?_) (fun h5 hF=>?_)
 ·refine aD (aK (aH (fG (is:=[]) (xs:=[]) (ps:=[]) rfl tyB30q rfl rfl trivial rfl) trivial ?_))
  exact bP
 obtain⟨v6,h7,hF⟩:=aO hF
 refine go ?_ ?_
 refine aGo [] [0] rfl (aAq h7) zU2 rfl rfl (by decide) ?_
 rintro _ _ ⟨b8,b12,c13,n14,b17,c18,n19,g22,N23,q15,q20,q24,q25,q26,rfl,rfl⟩
 refine lQ (jV [⟨some b8,1,72,3,1,([pI .i64 v6.1]++[pO b12 n14 c13]++[pO b17 n19 c18])⟩,hO (cH g22) b12 c13 24 n14 v6.2.1,hO cI b17 c18 3 n19 v6.2.2.1] (gD cQ 42 g22 v6.2.2.2) [⟨some b1,1,30,3,1,([pS cQ ([]:List Rat)]++[pS cQ ([]:List Rat)]++[pI .i64 0])⟩]) ?_
 obtain⟨v28,h29,hF⟩:=aX hF oX
 refine go ?_ ?_
 refine aC hF rfl (fun h30 hF=>?_) (fun h30 hF=>?_)
 ·obtain⟨v31,h32,hF⟩:=aO hF
  refine go ?_ ?_
  refine m6 4 [0,1,2] [3] rfl (qV h32 q15 q20 q24 q25 q26) zU1 rfl rfl rfl (by decide) ?_
  rintro _ _ ⟨rfl,rfl⟩
  refine lQ (jV [⟨some b8,1,72,3,1,([pI .i64 v6.1]++[pO b12 n14 c13]++[pO b17 n19 c18])⟩,hO (cH g22) b12 c13 24 n14 v6.2.1,hO cI b17 c18 3 n19 v6.2.2.1] (gD cQ 42 g22 v6.2.2.2) [⟨some b1,1,30,3,1,([pS cQ ([]:List Rat)]++[pS cQ ([]:List Rat)]++[pI .i64 0])⟩]) ?_
  exact bP
 obtain⟨v33,h34,hF⟩:=aX hF tE
 refine go ?_ ?_
 refine aL rfl tyZ42q (fun b35=>?_)
 refine go ?_ ?_
 refine aI (aY (fun H E=>∃(x40:Int),oT K a2 v6 x40=some r∧H=([⟨some b8,1,72,3,1,([pI .i64 v6.1]++[pO b12 n14 c13]++[pO b17 n19 c18])⟩,hO (cH g22) b12 c13 24 n14 v6.2.1,hO cI b17 c18 3 n19 v6.2.2.1,⟨some b1,1,30,3,1,([pS cQ ([]:List Rat)]++[pS cQ ([]:List Rat)]++[pI .i64 0])⟩]++gD cQ 42 g22 v6.2.2.2)∧E=[(2,.vc (pI .i64 a2)),(6,.vc (pP (some b1) 0)),(8,.vc (pP (some b8) 0)),(10,.vc (pI .i64 x40))]) ?_ (fun Jj42=>?_))
 ·rintro _ _ ⟨x40,hF,rfl,rfl⟩
  unfold oT at hF
  obtain⟨v43,h44,hF⟩:=aO hF
  refine go ?_ ?_
  refine aI (aY (fun H E=>sK K=some r∧H=[]∧E=[]) ?_ (fun Jj88=>?_))
  ·rintro _ _ ⟨hF,rfl,rfl⟩
   unfold sK at hF
   cases hF
  obtain⟨ol87,hL,hRl87⟩:=aO hF
  refine dW (fun k a w=>∃(x66:List Nat),∃(x72:List Int),∃(x78:List (List Rat)),∃(x84:Int),∃(x85:Int),∃(x86:Int),∃(b67:Option Nat),∃(c68:Nat),∃(n69:Nat),∃(g79:List sE),∃(N80:Nat),cN K a2 v6 k x66 x72 x78 x84 x85 x86=some ol87∧x66.length=n69∧x72.length=n19∧x78.length=N80∧d7 g79 x78∧(∀k∈x66,k<N80)∧hs _ ([⟨some b8,1,72,3,1,([pI .i64 v6.1]++[pO b67 n69 c68]++[pO b17 n19 c18])⟩,hO (cH g79) b67 c68 24 n69 x66,hO cI b17 c18 3 n19 x72,⟨some b1,1,30,3,1,([pS cQ ([]:List Rat)]++[pS cQ ([]:List Rat)]++[pI .i64 0])⟩]++gD cQ 42 g79 x78) [(2,.vc (pI .i64 a2)),(6,.vc (pP (some b1) 0)),(8,.vc (pP (some b8) 0)),(10,.vc (pI .i64 x84)),(12,.vc (pI .i64 x85)),(13,.vc (pI .i64 x86))] a w) K (fun a w ⟨_,_,_,_,_,_,_,_,_,_,_,hF,_,_,_,_,_,_⟩=>by cases hF) (fun k a w ⟨x66,x72,x78,x84,x85,x86,b67,c68,n69,g79,N80,hF,q70,q76,q81,q82,q83,hh⟩=>dV ?_ hh) (fun a w hh=>⟨v6.2.1,v6.2.2.1,v6.2.2.2,x40,v43,0,b12,c13,n14,g22,N23,hL,q15,q20,q24,q25,q26,aV 4 [0,1,2,3] rfl rfl (by decide) (by exact⟨rfl,rfl,rfl,rfl,rfl,rfl,trivial⟩) hh⟩)
  rw [cN.eq_2] at hF
  refine aD (aI (go ?_ ?_))
  refine aC hF rfl (fun h89 hF=>?_) (fun h89 hF=>?_)
  ·refine aD (aK (aH (fG (is:=[]) (xs:=[]) (ps:=[]) rfl tyB30q rfl rfl trivial rfl) trivial ?_))
   exact bP
  obtain⟨v90,h91,hF⟩:=aO hF
  refine go ?_ ?_
  refine m6 4 [0,1,2] [3] rfl (v0 h91 q70 q76 q81 q82 q83) ⟨rfl,rfl,rfl,trivial⟩ rfl rfl rfl (by decide) ?_
  rintro _ _ ⟨b92,c93,n94,g99,N100,q95,q97,q101,q102,q103,rfl,rfl⟩
  refine lQ (jV [⟨some b8,1,72,3,1,([pI .i64 v6.1]++[pO b92 n94 c93]++[pO b17 n19 c18])⟩,hO (cH g99) b92 c93 24 n94 v90.2.1,hO cI b17 c18 3 n19 v90.2.2.1] (gD cQ 42 g99 v90.2.2.2) [⟨some b1,1,30,3,1,([pS cQ ([]:List Rat)]++[pS cQ ([]:List Rat)]++[pI .i64 0])⟩]) ?_
  have hF:=qB h44 hF
  refine go ?_ ?_
  refine aC hF rfl (fun h107 hF=>?_) (fun h107 hF=>?_)
  ·obtain⟨v108,h109,hF⟩:=aO hF
   refine go ?_ ?_
   refine m6 4 [0,1,2] [3] rfl (qV h109 q95 q97 q101 q102 q103) zU1 rfl rfl rfl (by decide) ?_
   rintro _ _ ⟨rfl,rfl⟩
   refine lQ (jV [⟨some b8,1,72,3,1,([pI .i64 v6.1]++[pO b92 n94 c93]++[pO b17 n19 c18])⟩,hO (cH g99) b92 c93 24 n94 v90.2.1,hO cI b17 c18 3 n19 v90.2.2.1] (gD cQ 42 g99 v90.2.2.2) [⟨some b1,1,30,3,1,([pS cQ ([]:List Rat)]++[pS cQ ([]:List Rat)]++[pI .i64 0])⟩]) ?_
   refine aL rfl tyZ30q (fun b110=>?_)
   obtain⟨v111,h112,hF⟩:=aO hF
   exact bP
  refine iC (aJ (aD (aK (fL ?_))))
  refine fL ?_
  refine aH (qZ rfl) zU1 ?_
  refine aH (jW (off:=0) (k:=0) rfl tyF72_0) zU1 ?_
  refine aH (iD 0 1 rfl rfl rfl rfl (.one tyO3)) zU1 ?_
  obtain⟨v113,h114,hF⟩:=aO hF
  refine aH (yU rfl h114) zU2 ?_
  refine y6 ?_
  refine aU (aJ (aD (yR (fun H E=>∃(x116:Int),jQ K v6 x86 v90 (cN K a2 v6 k) x116=some ol87∧H=([⟨some b8,1,72,3,1,([pI .i64 v6.1]++[pO b92 n94 c93]++[pO b17 n19 c18])⟩,hO (cH g99) b92 c93 24 n94 v90.2.1,hO cI b17 c18 3 n19 v90.2.2.1,⟨some b1,1,30,3,1,([pS cQ ([]:List Rat)]++[pS cQ ([]:List Rat)]++[pI .i64 0])⟩]++gD cQ 42 g99 v90.2.2.2)∧E=[(2,.vc (pI .i64 a2)),(6,.vc (pP (some b1) 0)),(8,.vc (pP (some b8) 0)),(12,.vc (pI .i64 x116)),(13,.vc (pI .i64 x86))]) ?_ (fun Jj117=>?_))))
  ·rintro _ _ ⟨x116,hF,rfl,rfl⟩
   unfold jQ at hF
   refine go ?_ ?_
   refine aI (aY (fun H E=>∃(x122:Int),nV K x86 v90 x116 (cN K a2 v6 k) x122=some ol87∧H=([⟨some b8,1,72,3,1,([pI .i64 v6.1]++[pO b92 n94 c93]++[pO b17 n19 c18])⟩,hO (cH g99) b92 c93 24 n94 v90.2.1,hO cI b17 c18 3 n19 v90.2.2.1,⟨some b1,1,30,3,1,([pS cQ ([]:List Rat)]++[pS cQ ([]:List Rat)]++[pI .i64 0])⟩]++gD cQ 42 g99 v90.2.2.2)∧E=[(2,.vc (pI .i64 a2)),(6,.vc (pP (some b1) 0)),(8,.vc (pP (some b8) 0)),(10,.vc (pI .i64 x122)),(12,.vc (pI .i64 x116)),(13,.vc (pI .i64 x86))]) ?_ (fun Jj124=>?_))
   ·rintro _ _ ⟨x122,hF,rfl,rfl⟩
    unfold nV at hF
    refine go ?_ ?_
    refine aC hF rfl (fun h125 hF=>?_) (fun h125 hF=>?_)
    ·refine aD (aK (aH (fG (is:=[]) (xs:=[]) (ps:=[]) rfl tyB30q rfl rfl trivial rfl) trivial ?_))
     exact bP
    obtain⟨v126,h127,hF⟩:=aO hF
    refine go ?_ ?_
    exact aF (fun a w hh=>⟨v90.2.1,v90.2.2.1,v90.2.2.2,x122,x116,v126,b92,c93,n94,g99,N100,hF,q95,q97,q101,q102,q103,aV 4 [0,1,2,3] rfl rfl (by decide) (by exact⟨rfl,rfl,rfl,rfl,rfl,rfl,trivial⟩) hh⟩)
   obtain⟨x122',hL,hRl123⟩:=aO hF
   refine dW (fun k a w=>∃(x120:Int),∃(x121:Int),cV K v6 v90 x116 k x120 x121=some x122'∧hs _ ([⟨some b8,1,72,3,1,([pI .i64 v6.1]++[pO b92 n94 c93]++[pO b17 n19 c18])⟩,hO (cH g99) b92 c93 24 n94 v90.2.1,hO cI b17 c18 3 n19 v90.2.2.1,⟨some b1,1,30,3,1,([pS cQ ([]:List Rat)]++[pS cQ ([]:List Rat)]++[pI .i64 0])⟩]++gD cQ 42 g99 v90.2.2.2) [(2,.vc (pI .i64 a2)),(6,.vc (pP (some b1) 0)),(8,.vc (pP (some b8) 0)),(10,.vc (pI .i64 x120)),(12,.vc (pI .i64 x116)),(13,.vc (pI .i64 x86)),(100,.vc (pO b92 n94 c93)),(101,.vc (pI .i64 (v90.2.1.length:Int))),(102,.vc (pI .i64 x121))] a w) K (fun a w ⟨_,_,hF,_⟩=>by cases hF) (fun k a w ⟨x120,x121,hF,hh⟩=>dV ?_ hh) (fun a w hh=>⟨(-1),0,hL,aV 4 [0,1,2,3] rfl rfl (by decide) (by exact⟨rfl,rfl,rfl,rfl,rfl,rfl,rfl,rfl,rfl,trivial⟩) hh⟩)
   rw [cV.eq_2] at hF
   refine go ?_ ?_
   refine aC hF rfl (fun h128 hF=>?_) (fun h128 hF=>?_)
   ·refine go ?_ ?_
    refine aI ?_
    obtain⟨v129,h130,v133,h134,hF⟩:=tY hF
    obtain⟨v135,h136,hF⟩:=aX hF iJ
    refine go ?_ ?_
    rcases Bool.eq_false_or_eq_true (decide (0<v135)) with h137|h137
    ·have hF:=tA h137 hF
     rcases Bool.eq_false_or_eq_true (decide (x120<0)) with h138|h138
     ·have hF:=tA h138 hF
      refine iG (0::0::3::7::15::31::63::127::255::511::1023::1023::1023::1023::13311::29695::1023::1023::132095::394239::918527::1023::4064255::8258559::1023::33424383::66978815::134217727::268435455::536870911::[]) 27 3 (.v (.vc (pO (jB g99 v129).1 (jB g99 v129).2.1 (jB g99 v129).2.2))::.v (.vc (pI .i64 x116))::.v (.vc (pE (jB g99 v129).1 x116 cQ.n 0))::.v (.va (eQ v133))::.v (.vc (pI .i64 v135))::.v (.vc (pB (decide (0<v135))))::.v (.vc (pB true))::.v (.vc (pI .i64 x120))::.v (.vc (pB (decide (x120<0))))::.v (.vc (pB true))::.v .un::.v .un::.v .un::.v .un::.v .un::.v .un::.v .un::.v .un::.v .un::.v .un::.v .un::.v .un::.v .un::.v .un::.v .un::.v .un::.v .un::[]) aW ⟨d0 (aM (.inl rfl)) zU1,d0 (aM (.inl rfl)) zU1,d0 (gN (4+v129) rfl tyS24 (kX 4 rfl q102 q101 (q103 _ (aT h130))) (fQ q102 q101 (q103 _ (aT h130))) (aG h134).1 (aG h134).2.1) zU2,d0 (lZ (k:=4) (4+v129) rfl (kX 4 rfl q102 q101 (q103 _ (aT h130))) h134 rfl (.agg tyA42) rfl) zU1,d0 (bD rfl h136 rfl) zU1,d0 (aKN rfl) ⟨rfl,oJ _ _,trivial⟩,d0 (lL (aM (.inl rfl)) h137) zU1,g0 (aM (.inl rfl)) zU1,g0 (aGb rfl) ⟨rfl,oJ _ _,trivial⟩,g0 (lL (aM (.inl rfl)) h138) zU1,⟨rfl,.skipN⟩,⟨rfl,.skipN⟩,⟨rfl,.skipN⟩,⟨rfl,.skipN⟩,⟨rfl,.skipN⟩,⟨rfl,.skipN⟩,⟨rfl,.skipN⟩,⟨rfl,.skipN⟩,⟨rfl,.skipN⟩,⟨rfl,.skipN⟩,⟨rfl,.skipN⟩,⟨rfl,.skipN⟩,⟨rfl,.skipN⟩,⟨rfl,.skipN⟩,⟨rfl,.skipN⟩,⟨rfl,.skipN⟩,⟨rfl,.skipN⟩,trivial⟩ (fun bs132 G131=>?_)
      refine go ?_ ?_
      refine eU rfl ?_
      obtain⟨v139,h140,hF⟩:=aO hF
      refine go ?_ ?_
      exact aF (fun a w hh=>⟨x121,v139,hF,aV 4 [0,1,2,3] rfl rfl (by decide) (by exact⟨rfl,rfl,rfl,rfl,rfl,rfl,rfl,rfl,rfl,trivial⟩) hh⟩)
     have hF:=rJ h138 hF
     have hF:=qB h134 hF
     obtain⟨v143,h144,hF⟩:=aO hF
     obtain⟨v145,h146,hF⟩:=aO hF
     refine iG (0::0::3::7::15::31::63::127::255::511::1023::1023::1023::1023::13311::29695::1023::1023::132095::394239::918527::1023::4064255::8258559::1023::33424383::66978815::134217727::268435455::536870911::[]) 27 3 (.v (.vc (pO (jB g99 v129).1 (jB g99 v129).2.1 (jB g99 v129).2.2))::.v (.vc (pI .i64 x116))::.v (.vc (pE (jB g99 v129).1 x116 cQ.n 0))::.v (.va (eQ v133))::.v (.vc (pI .i64 v135))::.v (.vc (pB (decide (0<v135))))::.v (.vc (pB true))::.v (.vc (pI .i64 x120))::.v (.vc (pB (decide (x120<0))))::.v (.vc (pB false))::.v (.vc (pP (some b8) 0))::.v (.vc (pI .i64 x121))::.v (.vc (pO (jB g99 v129).1 (jB g99 v129).2.1 (jB g99 v129).2.2))::.v (.vc (pI .i64 x116))::.v (.vc (pE (jB g99 v129).1 x116 cQ.n 0))::.v (.va (eQ v133))::.v (.vc (pI .i64 x120))::.v (.vc (pP (some b8) 0))::.v (.vc (pP (some b8) 0))::.v (.vc (pP (some b8) 1))::.v (.vc (pO b92 n94 c93))::.v (.vc (pI .i64 x120))::.v (.vc (pE b92 x120 (cH g99).n 0))::.v (.vc (pO (jB g99 v143).1 (jB g99 v143).2.1 (jB g99 v143).2.2))::.v (.vc (pI .i64 x116))::.v (.vc (pE (jB g99 v143).1 x116 cQ.n 0))::.v (.va (eQ v145))::[]) aW ⟨d0 (aM (.inl rfl)) zU1,d0 (aM (.inl rfl)) zU1,d0 (gN (4+v129) rfl tyS24 (kX 4 rfl q102 q101 (q103 _ (aT h130))) (fQ q102 q101 (q103 _ (aT h130))) (aG h134).1 (aG h134).2.1) zU2,d0 (lZ (k:=4) (4+v129) rfl (kX 4 rfl q102 q101 (q103 _ (aT h130))) h134 rfl (.agg tyA42) rfl) zU1,d0 (bD rfl h136 rfl) zU1,d0 (aKN rfl) ⟨rfl,oJ _ _,trivial⟩,d0 (lL (aM (.inl rfl)) h137) zU1,g0 (aM (.inl rfl)) zU1,g0 (aGb rfl) ⟨rfl,oJ _ _,trivial⟩,g0 (lL (aM (.inl rfl)) h138) zU1,g0 (aM (.inl rfl)) zU1,g0 (aM (.inl rfl)) zU1,g0 (aM (.inl rfl)) zU1,g0 (aM (.inl rfl)) zU1,g0 (gN (4+v129) rfl tyS24 (kX 4 rfl q102 q101 (q103 _ (aT h130))) (fQ q102 q101 (q103 _ (aT h130))) (aG h134).1 (aG h134).2.1) zU2,g0 (lZ (k:=4) (4+v129) rfl (kX 4 rfl q102 q101 (q103 _ (aT h130))) h134 rfl (.agg tyA42) rfl) zU1,g0 (aM (.inl rfl)) zU1,g0 (aM (.inl rfl)) zU1,g0 (qZ rfl) zU1,g0 (jW (off:=0) (k:=1) rfl tyF72_1) zU1,g0 (iD 0 1 rfl rfl rfl rfl (.one tyO23)) zU1,g0 (aM (.inl rfl)) zU1,g0 (gN (C:=(cH g99)) 1 rfl tyS23 rfl q95 (aG h144).1 (aG h144).2.1) zU2,g0 (lZ (C:=(cH g99)) (k:=1) 1 rfl rfl h144 rfl (.one tyO24) rfl) zU1,g0 (aM (.inl rfl)) zU1,g0 (gN (4+v143) rfl tyS24 (kX 4 rfl q102 q101 (q103 _ (aT h144))) (fQ q102 q101 (q103 _ (aT h144))) (aG h146).1 (aG h146).2.1) zU2,g0 (lZ (k:=4) (4+v143) rfl (kX 4 rfl q102 q101 (q103 _ (aT h144))) h146 rfl (.agg tyA42) rfl) zU1,trivial⟩ (fun bs132 G131=>?_)
     obtain⟨v147,h148,hF⟩:=aO hF
     refine wE (aKE 4 [0,1,2] [3] [0,1,2,3] rfl (rZ h148 q95 q97 q101 q102 q103) rfl rfl rfl rfl (by decide) (by decide) rfl) ⟨rfl,rfl,rfl,rfl,rfl,trivial⟩ ?_
     refine go ?_ ?_
     refine aC hF rfl (fun h149 hF=>?_) (fun h149 hF=>?_)
     ·obtain⟨v150,h151,hF⟩:=aO hF
      refine go ?_ ?_
      exact aF (fun a w hh=>⟨x121,v150,hF,aV 4 [0,1,2,3] rfl rfl (by decide) (by exact⟨rfl,rfl,rfl,rfl,rfl,rfl,rfl,rfl,rfl,trivial⟩) hh⟩)
     obtain⟨v152,h153,hF⟩:=aO hF
     refine go ?_ ?_
     exact aF (fun a w hh=>⟨x120,v152,hF,aV 4 [0,1,2,3] rfl rfl (by decide) (by exact⟨rfl,rfl,rfl,rfl,rfl,rfl,rfl,rfl,rfl,trivial⟩) hh⟩)
    have hF:=rJ h137 hF
    refine iG (0::0::3::7::15::31::63::127::255::511::1023::1023::1023::1023::13311::29695::1023::1023::132095::394239::918527::1023::4064255::8258559::1023::33424383::66978815::134217727::268435455::536870911::[]) 27 3 (.v (.vc (pO (jB g99 v129).1 (jB g99 v129).2.1 (jB g99 v129).2.2))::.v (.vc (pI .i64 x116))::.v (.vc (pE (jB g99 v129).1 x116 cQ.n 0))::.v (.va (eQ v133))::.v (.vc (pI .i64 v135))::.v (.vc (pB (decide (0<v135))))::.v (.vc (pB false))::.v .un::.v .un::.v .un::.v .un::.v .un::.v .un::.v .un::.v .un::.v .un::.v .un::.v .un::.v .un::.v .un::.v .un::.v .un::.v .un::.v .un::.v .un::.v .un::.v .un::[]) aW ⟨d0 (aM (.inl rfl)) zU1,d0 (aM (.inl rfl)) zU1,d0 (gN (4+v129) rfl tyS24 (kX 4 rfl q102 q101 (q103 _ (aT h130))) (fQ q102 q101 (q103 _ (aT h130))) (aG h134).1 (aG h134).2.1) zU2,d0 (lZ (k:=4) (4+v129) rfl (kX 4 rfl q102 q101 (q103 _ (aT h130))) h134 rfl (.agg tyA42) rfl) zU1,d0 (bD rfl h136 rfl) zU1,d0 (aKN rfl) ⟨rfl,oJ _ _,trivial⟩,d0 (lL (aM (.inl rfl)) h137) zU1,⟨rfl,.skipN⟩,⟨rfl,.skipN⟩,⟨rfl,.skipN⟩,⟨rfl,.skipU⟩,⟨rfl,.skipU⟩,⟨rfl,.skipU⟩,⟨rfl,.skipU⟩,⟨rfl,.skipU⟩,⟨rfl,.skipU⟩,⟨rfl,.skipU⟩,⟨rfl,.skipU⟩,⟨rfl,.skipU⟩,⟨rfl,.skipU⟩,⟨rfl,.skipU⟩,⟨rfl,.skipU⟩,⟨rfl,.skipU⟩,⟨rfl,.skipU⟩,⟨rfl,.skipU⟩,⟨rfl,.skipU⟩,⟨rfl,.skipU⟩,trivial⟩ (fun bs132 G131=>?_)
    refine go ?_ ?_
    refine uV rfl ?_
    obtain⟨v154,h155,hF⟩:=aO hF
    refine go ?_ ?_
    exact aF (fun a w hh=>⟨x120,v154,hF,aV 4 [0,1,2,3] rfl rfl (by decide) (by exact⟨rfl,rfl,rfl,rfl,rfl,rfl,rfl,rfl,rfl,trivial⟩) hh⟩)
   refine bI ?_
   obtain rfl:=iR hF
   exact iE Jj124 ⟨x120,hRl123,rfl,rfl⟩ 4 [0,1,2,3] rfl rfl ⟨rfl,rfl,rfl,rfl,rfl,rfl,trivial⟩
  refine go ?_ ?_
  refine aC hF rfl (fun h156 hF=>?_) (fun h156 hF=>?_)
  ·refine aK (fL ?_)
   refine fL ?_
   refine aH (qZ rfl) zU1 ?_
   refine aH (jW (off:=0) (k:=0) rfl tyF72_0) zU1 ?_
   refine aH (iD 0 1 rfl rfl rfl rfl (.one tyO3)) zU1 ?_
   obtain⟨v157,h158,hF⟩:=aO hF
   refine aH (aHp rfl h158) zU2 ?_
   refine y6 ?_
   refine aU ?_
   exact iE Jj117 ⟨v157,hF,rfl,rfl⟩ 4 [0,1,2,3] rfl rfl ⟨rfl,rfl,rfl,rfl,rfl,trivial⟩
  refine iC ?_
  exact iE Jj117 ⟨v113,hF,rfl,rfl⟩ 4 [0,1,2,3] rfl rfl ⟨rfl,rfl,rfl,rfl,rfl,trivial⟩
 obtain⟨x40',hL,hRl41⟩:=aO hF
 refine dW (fun k a w=>∃(x38:Int),∃(x39:Int),f7 K v6 v33 k x38 x39=some x40'∧hs _ ([⟨some b35,1,42,4,1,(eQ v33)⟩,⟨some b8,1,72,3,1,([pI .i64 v6.1]++[pO b12 n14 c13]++[pO b17 n19 c18])⟩,hO (cH g22) b12 c13 24 n14 v6.2.1,hO cI b17 c18 3 n19 v6.2.2.1,⟨some b1,1,30,3,1,([pS cQ ([]:List Rat)]++[pS cQ ([]:List Rat)]++[pI .i64 0])⟩]++gD cQ 42 g22 v6.2.2.2) [(2,.vc (pI .i64 a2)),(6,.vc (pP (some b1) 0)),(8,.vc (pP (some b8) 0)),(9,.vc (pP (some b35) 0)),(10,.vc (pI .i64 x38)),(39,.vc (pI .i64 v6.1)),(40,.vc (pI .i64 x39))] a w) K (fun a w ⟨_,_,hF,_⟩=>by cases hF) (fun k a w ⟨x38,x39,hF,hh⟩=>dV ?_ hh) (fun a w hh=>⟨0,0,hL,aV 5 [0,1,2,3,4] rfl rfl (by decide) (by exact⟨rfl,rfl,rfl,rfl,rfl,rfl,rfl,trivial⟩) hh⟩)
 rw [f7.eq_2] at hF
 refine go ?_ ?_
 refine aC hF rfl (fun h159 hF=>?_) (fun h159 hF=>?_)
 ·refine go ?_ ?_
  refine aI ?_
  obtain⟨v160,h161,hF⟩:=aO hF
  refine go ?_ ?_
  refine m6 5 [1,2,3] [0,4] rfl (rZ h161 q15 q20 q24 q25 q26) ⟨rfl,rfl,rfl,rfl,rfl,trivial⟩ rfl rfl rfl (by decide) ?_
  rintro _ _ ⟨rfl,rfl⟩
  refine lQ (jV [⟨some b8,1,72,3,1,([pI .i64 v6.1]++[pO b12 n14 c13]++[pO b17 n19 c18])⟩,hO (cH g22) b12 c13 24 n14 v6.2.1,hO cI b17 c18 3 n19 v6.2.2.1] (gD cQ 42 g22 v6.2.2.2) [⟨some b35,1,42,4,1,(eQ v33)⟩,⟨some b1,1,30,3,1,([pS cQ ([]:List Rat)]++[pS cQ ([]:List Rat)]++[pI .i64 0])⟩]) ?_
  refine aU (aJ (aC hF rfl (fun h162 hF=>?_) (fun h162 hF=>?_)))
  ·obtain⟨v163,h164,hF⟩:=aO hF
   refine go ?_ ?_
   exact aF (fun a w hh=>⟨x39,v163,hF,aV 5 [3,0,1,2,4] rfl rfl (by decide) (by exact⟨rfl,rfl,rfl,rfl,rfl,rfl,rfl,trivial⟩) hh⟩)
  obtain⟨v165,h166,hF⟩:=aO hF
  refine go ?_ ?_
  exact aF (fun a w hh=>⟨x38,v165,hF,aV 5 [3,0,1,2,4] rfl rfl (by decide) (by exact⟨rfl,rfl,rfl,rfl,rfl,rfl,rfl,trivial⟩) hh⟩)
 refine bI ?_
 obtain rfl:=iR hF
 exact iE Jj42 ⟨x38,hRl41,rfl,rfl⟩ 5 [1,2,3,4] rfl rfl ⟨rfl,rfl,rfl,rfl,trivial⟩
def pZ (K:Nat):Option Bool:=
 some true
def jJ (K:Nat) (a0:List Rat):Nat→Int→Option (LR Bool Unit)
 |0,_=>none
 |k+1,x2=>bif(decide (x2<(a0.length:Int))) then((bO a0 x2).bind fun v6=>(aKj v6).bind fun v8=>bif(!v8) then(some (.ret false)) else((aR (x2+1)).bind fun v11=>jJ K a0 k v11)) else(some (.go ()))
def lF (K:Nat) (a0:List Rat):Option Bool:=
 (jJ K a0 K 0).bind fun o=>match o with| .ret r=>some r| .go _=>pZ K
theorem uH {K:Nat} {a0:List Rat} {r:Bool} (hF:lF K a0=some r):Ct Tryz.prog 63 [.vc (pS cQ a0)] (.vc (pB r)):=by
 unfold lF at hF
 refine aA Tryz.func63 rfl (by kernel_rfl) Tryz.ntmps63 rfl (fun w0 M0=>?_)
 refine go ?_ ?_
 refine aI (aY (fun H E=>pZ K=some r∧H=[]∧E=[]) ?_ (fun Jj4=>?_))
 ·rintro _ _ ⟨hF,rfl,rfl⟩
  unfold pZ at hF
  exact bP
 obtain⟨ol3,hL,hRl3⟩:=aO hF
 refine dW (fun k a w=>∃(x2:Int),jJ K a0 k x2=some ol3∧hs _ [] [(0,.vc (pS cQ a0)),(3,.vc (pI .i64 x2))] a w) K (fun a w ⟨_,hF,_⟩=>by cases hF) (fun k a w ⟨x2,hF,hh⟩=>dV ?_ hh) (fun a w hh=>⟨0,hL,gO [] hh⟩)
 rw [jJ.eq_2] at hF
 refine go ?_ ?_
 refine aC hF rfl (fun h5 hF=>?_) (fun h5 hF=>?_)
 ·refine go ?_ ?_
  refine aI ?_
  obtain⟨v6,h7,hF⟩:=aO hF
  obtain⟨v8,h9,hF⟩:=aX hF aBq
  refine go ?_ ?_
  refine aC hF rfl (fun h10 hF=>?_) (fun h10 hF=>?_)
  ·exact bP
  obtain⟨v11,h12,hF⟩:=aO hF
  refine go ?_ ?_
  exact aF (fun a w hh=>⟨v11,hF,gO [] hh⟩)
 refine bI ?_
 obtain rfl:=iR hF
 exact p6 Jj4 ⟨hRl3,rfl,rfl⟩ []
def oO (K:Nat):Option Bool:=
 some true
def dK (K:Nat) (a0:List (List Rat)) (a1:List Rat):Nat→Int→Option (LR Bool Unit)
 |0,_=>none
 |k+1,x7=>bif(decide (x7<(a0.length:Int))) then((bO a0 x7).bind fun v11=>bif((v11.length:Int) != (a1.length:Int)) then(some (.ret false)) else((bO a0 x7).bind fun v14=>(lF K v14).bind fun v16=>bif(!v16) then(some (.ret false)) else((aR (x7+1)).bind fun v19=>dK K a0 a1 k v19))) else(some (.go ()))
def fO (K:Nat) (a0:List (List Rat)) (a1:List Rat):Option Bool:=
 bif((a0.length:Int) != (a1.length:Int)) then(some false) else(bif(decide (32<(a1.length:Int))) then(some false) else((lF K a1).bind fun v3=>bif(!v3) then(some false) else((dK K a0 a1 K 0).bind fun o=>match o with| .ret r=>some r| .go _=>oO K)))
theorem w7 {K:Nat} {a0:List (List Rat)} {a1:List Rat} {r:Bool} (hF:fO K a0 a1=some r):Ct Tryz.prog 28 [.vc (pS (fZ cQ) a0),.vc (pS cQ a1)] (.vc (pB r)):=by
 unfold fO at hF
 refine aA Tryz.func28 rfl (by kernel_rfl) Tryz.ntmps28 rfl (fun w0 M0=>?_)
 refine go ?_ ?_
 refine cG hF (fun h1 hF=>?_) (fun h1 hF=>?_)
 ·refine go ?_ ?_
  refine eU rfl ?_
  exact bP
 refine go ?_ ?_
 refine cG hF (fun h2 hF=>?_) (fun h2 hF=>?_)
 ·refine go ?_ ?_
  refine eU rfl ?_
  exact bP
 obtain⟨v3,h4,hF⟩:=aX hF uH
 refine go ?_ ?_
 refine aC hF rfl (fun h5 hF=>?_) (fun h5 hF=>?_)
 ·exact bP
 refine go ?_ ?_
 refine aI (aY (fun H E=>oO K=some r∧H=[]∧E=[]) ?_ (fun Jj9=>?_))
 ·rintro _ _ ⟨hF,rfl,rfl⟩
  unfold oO at hF
  exact bP
 obtain⟨ol8,hL,hRl8⟩:=aO hF
 refine dW (fun k a w=>∃(x7:Int),dK K a0 a1 k x7=some ol8∧hs _ [] [(0,.vc (pS (fZ cQ) a0)),(1,.vc (pS cQ a1)),(5,.vc (pI .i64 x7))] a w) K (fun a w ⟨_,hF,_⟩=>by cases hF) (fun k a w ⟨x7,hF,hh⟩=>dV ?_ hh) (fun a w hh=>⟨0,hL,gO [] hh⟩)
 rw [dK.eq_2] at hF
 refine go ?_ ?_
 refine aC hF rfl (fun h10 hF=>?_) (fun h10 hF=>?_)
 ·refine go ?_ ?_
  refine aI ?_
  obtain⟨v11,h12,hF⟩:=aO hF
  refine go ?_ ?_
  refine cG hF (fun h13 hF=>?_) (fun h13 hF=>?_)
  ·refine go ?_ ?_
   refine eU rfl ?_
   exact bP
  have hF:=qB h12 hF
  obtain⟨v16,h17,hF⟩:=aX hF uH
  refine go ?_ ?_
  refine aC hF rfl (fun h18 hF=>?_) (fun h18 hF=>?_)
  ·exact bP
  obtain⟨v19,h20,hF⟩:=aO hF
  refine go ?_ ?_
  exact aF (fun a w hh=>⟨v19,hF,gO [] hh⟩)
 refine bI ?_
 obtain rfl:=iR hF
 exact p6 Jj9 ⟨hRl8,rfl,rfl⟩ []
def mF (K:Nat):Option Bool:=
 some false
def fS (K:Nat) (a0:List Rat):Nat→Int→Option (LR Bool Unit)
 |0,_=>none
 |k+1,x2=>bif(decide (x2<(a0.length:Int))) then((bO a0 x2).bind fun v6=>(xD v6).bind fun v8=>bif(decide (v8<0)) then(some (.ret true)) else((aR (x2+1)).bind fun v11=>fS K a0 k v11)) else(some (.go ()))
def iQ (K:Nat) (a0:List Rat):Option Bool:=
 (fS K a0 K 0).bind fun o=>match o with| .ret r=>some r| .go _=>mF K
theorem rV {K:Nat} {a0:List Rat} {r:Bool} (hF:iQ K a0=some r):Ct Tryz.prog 33 [.vc (pS cQ a0)] (.vc (pB r)):=by
 unfold iQ at hF
 refine aA Tryz.func33 rfl (by kernel_rfl) Tryz.ntmps33 rfl (fun w0 M0=>?_)
 refine go ?_ ?_
 refine aI (aY (fun H E=>mF K=some r∧H=[]∧E=[]) ?_ (fun Jj4=>?_))
 ·rintro _ _ ⟨hF,rfl,rfl⟩
  unfold mF at hF
  exact bP
 obtain⟨ol3,hL,hRl3⟩:=aO hF
 refine dW (fun k a w=>∃(x2:Int),fS K a0 k x2=some ol3∧hs _ [] [(0,.vc (pS cQ a0)),(3,.vc (pI .i64 x2))] a w) K (fun a w ⟨_,hF,_⟩=>by cases hF) (fun k a w ⟨x2,hF,hh⟩=>dV ?_ hh) (fun a w hh=>⟨0,hL,gO [] hh⟩)
 rw [fS.eq_2] at hF
 refine go ?_ ?_
 refine aC hF rfl (fun h5 hF=>?_) (fun h5 hF=>?_)
 ·refine go ?_ ?_
  refine aI ?_
  obtain⟨v6,h7,hF⟩:=aO hF
  obtain⟨v8,h9,hF⟩:=aX hF rR
  refine go ?_ ?_
  refine aC hF rfl (fun h10 hF=>?_) (fun h10 hF=>?_)
  ·exact bP
  obtain⟨v11,h12,hF⟩:=aO hF
  refine go ?_ ?_
  exact aF (fun a w hh=>⟨v11,hF,gO [] hh⟩)
 refine bI ?_
 obtain rfl:=iR hF
 exact p6 Jj4 ⟨hRl3,rfl,rfl⟩ []
def nZ (K:Nat):Option Bool:=
 some false
def fI (K:Nat) (a0:List Rat) (a1:List Rat):Nat→Int→Option (LR Bool Unit)
 |0,_=>none
 |k+1,x2=>bif(decide (x2<(a0.length:Int))) then(bif(decide (x2<(a1.length:Int))) then((bO a0 x2).bind fun v9=>(bO a1 x2).bind fun v11=>(aIG v9 v11).bind fun v13=>bif(v13 != 0) then(some (.ret (decide (v13<0)))) else((aR (x2+1)).bind fun v16=>fI K a0 a1 k v16)) else(some (.go ()))) else(some (.go ()))
def jS (K:Nat) (a0:List Rat) (a1:List Rat):Option Bool:=
 (fI K a0 a1 K 0).bind fun o=>match o with| .ret r=>some r| .go _=>nZ K
theorem wC {K:Nat} {a0:List Rat} {a1:List Rat} {r:Bool} (hF:jS K a0 a1=some r):Ct Tryz.prog 51 [.vc (pS cQ a0),.vc (pS cQ a1)] (.vc (pB r)):=by
 unfold jS at hF
 refine aA Tryz.func51 rfl (by kernel_rfl) Tryz.ntmps51 rfl (fun w0 M0=>?_)
 refine go ?_ ?_
 refine aI (aY (fun H E=>nZ K=some r∧H=[]∧E=[]) ?_ (fun Jj4=>?_))
 ·rintro _ _ ⟨hF,rfl,rfl⟩
  unfold nZ at hF
  exact bP
 obtain⟨ol3,hL,hRl3⟩:=aO hF
 refine dW (fun k a w=>∃(x2:Int),fI K a0 a1 k x2=some ol3∧hs _ [] [(0,.vc (pS cQ a0)),(1,.vc (pS cQ a1)),(5,.vc (pI .i64 x2))] a w) K (fun a w ⟨_,hF,_⟩=>by cases hF) (fun k a w ⟨x2,hF,hh⟩=>dV ?_ hh) (fun a w hh=>⟨0,hL,gO [] hh⟩)
 rw [fI.eq_2] at hF
 refine go ?_ ?_
 refine cG hF (fun h5 hF=>?_) (fun h5 hF=>?_)
 ·refine go ?_ ?_
  refine aC hF rfl (fun h6 hF=>?_) (fun h6 hF=>?_)
  ·refine go ?_ ?_
   refine aI (aD ?_)
   obtain⟨v9,h10,hF⟩:=aO hF
   obtain⟨v11,h12,hF⟩:=aO hF
   obtain⟨v13,h14,hF⟩:=aX hF aAK
   refine dr [0,0,3,7,0,0,48,112,255,511] 10 0 ?_ (fun bs8 G7=>?_)
   refine go ?_ ?_
   refine aC hF rfl (fun h15 hF=>?_) (fun h15 hF=>?_)
   ·exact bP
   obtain⟨v16,h17,hF⟩:=aO hF
   refine go ?_ ?_
   exact aF (fun a w hh=>⟨v16,hF,gO [] hh⟩)
  refine bI ?_
  obtain rfl:=iR hF
  exact p6 Jj4 ⟨hRl3,rfl,rfl⟩ []
 refine go ?_ ?_
 refine uV rfl ?_
 refine bI ?_
 obtain rfl:=iR hF
 exact p6 Jj4 ⟨hRl3,rfl,rfl⟩ []
def pV (K:Nat) (x29:List Rat):Option (List Rat):=
 some x29
def jI (K:Nat) (a0:List Rat) (a1:Int) (a2:Rat):Nat→(List Rat)→Int→Option (List Rat)
 |0,_,_=>none
 |k+1,x22,x28=>bif(decide (x28<a1)) then((bO a0 x28).bind fun v40=>(aDP v40 a2).bind fun v42=>(sD x22 [v42]).bind fun x44=>(aR (x28+1)).bind fun v51=>jI K a0 a1 a2 k x44 v51) else(some x22)
def kN (K:Nat) (a0:List Rat) (a1:Int) (a2:Rat):Option (List Rat):=
 (aR (2*a1)).bind fun v4=>(aR (v4+1)).bind fun v6=>(bO a0 v6).bind fun v8=>(aDP v8 a2).bind fun v10=>(jI K a0 a1 a2 K [v10] 0).bind fun x29=>pV K x29
theorem sS {K:Nat} {a0:List Rat} {a1:Int} {a2:Rat} {r:List Rat} (hF:kN K a0 a1 a2=some r):Ct Tryz.prog 52 [.vc (pS cQ a0),.vc (pI .i64 a1),.va (eQ a2)] (.vc (pS cQ r)):=by
 unfold kN at hF
 refine aA Tryz.func52 rfl (by kernel_rfl) Tryz.ntmps52 rfl (fun w0 M0=>?_)
 refine aD (aK (cK rfl rfl trivial (fun b1=>?_)))
 refine aH (aM (.inr rfl)) ⟨eM cQ,trivial⟩ ?_
 obtain⟨v4,h5,v6,h7,v8,h9,hF⟩:=bn3 hF
 obtain⟨v10,h11,hF⟩:=aX hF u9
 refine go ?_ ?_
 refine dr [0,0,2,6,15,31,0,127,255,511] 8 2 ?_ (fun bs3 G2=>?_)
 refine aFl (aCM (C:=cQ) (xs:=[.tmp 16]) (ps:=[.va (eQ v10)]) (zs:=[v10]) rfl tyS24 rfl ⟨⟨trivial,rfl⟩,trivial⟩ rfl) zU1 (fun b12 _=>?_)
 refine go ?_ ?_
 refine aI (aY (fun H E=>∃(x29:List Rat),∃(b30:Option Nat),∃(c31:Nat),∃(n32:Nat),pV K x29=some r∧x29.length=n32∧H=[hO cQ b30 c31 42 n32 x29]∧E=[(7,.vc (pO b30 n32 c31))]) ?_ (fun Jj36=>?_))
 ·rintro _ _ ⟨x29,b30,c31,n32,hF,q33,rfl,rfl⟩
  unfold pV at hF
  refine go ?_ ?_
  refine fX (fY (mL 0 [6,7,32] rfl q33 ⟨rfl,rfl,rfl,trivial⟩ rfl ?_))
  obtain rfl:=iR hF
  exact gW (.inl rfl) Tryz.results52 (.tmp rfl .nil) rfl rfl
 obtain⟨x29',hL,hRl35⟩:=aO hF
 refine dW (fun k a w=>∃(x22:List Rat),∃(x28:Int),∃(b23:Option Nat),∃(c24:Nat),∃(n25:Nat),jI K a0 a1 a2 k x22 x28=some x29'∧x22.length=n25∧hs _ [hO cQ b23 c24 42 n25 x22,⟨some b1,1,42,4,1,(eQ a2)⟩] [(0,.vc (pS cQ a0)),(1,.vc (pI .i64 a1)),(5,.vc (pP (some b1) 0)),(7,.vc (pO b23 n25 c24)),(8,.vc (pI .i64 x28))] a w) K (fun a w ⟨_,_,_,_,_,hF,_,_⟩=>by cases hF) (fun k a w ⟨x22,x28,b23,c24,n25,hF,q26,hh⟩=>dV ?_ hh) (fun a w hh=>⟨[v10],0,b12,1,1,hL,rfl,gO [0,1] hh⟩)
 rw [jI.eq_2] at hF
 refine go ?_ ?_
 refine aC hF rfl (fun h37 hF=>?_) (fun h37 hF=>?_)
 ·refine go ?_ ?_
  refine aI ?_
  obtain⟨v40,h41,hF⟩:=aO hF
  obtain⟨v42,h43,hF⟩:=aX hF u9
  refine iG [0,0,0,6,14,0,62,126,255,511] 8 2 [.v (.vc (pO b23 n25 c24)),.v (.vc (pS cQ a0)),.v (.vc (pI .i64 x28)),.v (.vc (pM (cQ.e v40))),.v (.va (eQ v40)),.v (.va (eQ a2)),.v (.va (eQ v42)),.v (.vc (pS cQ [v42]))] aW ⟨d0 (aM (.inl rfl)) zU1,d0 (aM (.inl rfl)) zU1,d0 (aM (.inl rfl)) zU1,d0 (vZ rfl tyS24 h41) zU2,d0 (vH 4 rfl rfl (.agg tyA42)) zU1,d0 (iD 1 4 rfl rfl rfl rfl (.agg tyA42)) zU1,d0 (bD rfl h43 rfl) zU2,d0 (gP (C:=cQ) (xs:=[.tmp 29]) (ps:=[.va (eQ v42)]) (zs:=[v42]) rfl tyS24 rfl ⟨⟨trivial,rfl⟩,trivial⟩ rfl) zU1,trivial⟩ (fun bs39 G38=>?_)
  obtain⟨x44,h45,hF⟩:=aO hF
  refine kK 0 rfl tyS24 rfl rfl q26 rfl rfl h45 (fun b46 c47 H48 e49=>?_)
  cases e49
  obtain⟨v51,h52,hF⟩:=aO hF
  refine go ?_ ?_
  exact aF (fun a w hh=>⟨x44,v51,b46,c47,(n25+[v42].length),hF,(bL h45 q26),gO [0,1] hh⟩)
 refine bI ?_
 obtain rfl:=iR hF
 exact p6 Jj36 ⟨x22,b23,c24,n25,hRl35,q26,rfl,rfl⟩ [0]
def nR (K:Nat) (x41:List (List Rat)):Option (List (List Rat)):=
 some x41
def nN (K:Nat) (x34:List (List Rat)) (x40:Int) (recl47:(List (List Rat))→Int→Option (List (List Rat))) (x76:List Rat):Option (List (List Rat)):=
 (sD x34 [x76]).bind fun x84=>(aR (x40+1)).bind fun v91=>recl47 x84 v91
def iA (K:Nat) (a0:List (List Rat)) (a2:Int) (x17:List Rat) (x40:Int):Nat→(List Rat)→Int→Option (List Rat)
 |0,_,_=>none
 |k+1,x69,x75=>bif(decide (x75<(x17.length:Int))) then((bO a0 x40).bind fun v96=>(bO v96 x75).bind fun v98=>(bO a0 x40).bind fun v100=>(bO v100 a2).bind fun v102=>(bO x17 x75).bind fun v104=>(aES v102 v104).bind fun v106=>(aFk v98 v106).bind fun v108=>(sD x69 [v108]).bind fun x110=>(aR (x75+1)).bind fun v117=>iA K a0 a2 x17 x40 k x110 v117) else(some x69)
def cU (K:Nat) (a0:List (List Rat)) (a1:Int) (a2:Int) (x17:List Rat):Nat→(List (List Rat))→Int→Option (List (List Rat))
 |0,_,_=>none
 |k+1,x34,x40=>bif(decide (x40<(a0.length:Int))) then(bif(x40==a1) then((sD x34 [x17]).bind fun x51=>(aR (x40+1)).bind fun v58=>cU K a0 a1 a2 x17 k x51 v58) else((iA K a0 a2 x17 x40 K ([]:List Rat) 0).bind fun x76=>nN K x34 x40 (cU K a0 a1 a2 x17 k) x76)) else(some x34)
def nO (K:Nat) (a0:List (List Rat)) (a1:Int) (a2:Int) (x17:List Rat):Option (List (List Rat)):=
 (cU K a0 a1 a2 x17 K ([]:List (List Rat)) 0).bind fun x41=>nR K x41
def gY (K:Nat) (a0:List (List Rat)) (a1:Int) (a2:Int):Nat→(List Rat)→Int→Option (List Rat)
 |0,_,_=>none
 |k+1,x10,x16=>(bO a0 a1).bind fun v119=>bif(decide (x16<(v119.length:Int))) then((bO a0 a1).bind fun v124=>(bO v124 x16).bind fun v126=>(bO a0 a1).bind fun v128=>(bO v128 a2).bind fun v130=>(aDP v126 v130).bind fun v132=>(sD x10 [v132]).bind fun x134=>(aR (x16+1)).bind fun v141=>gY K a0 a1 a2 k x134 v141) else(some x10)
def oK (K:Nat) (a0:List (List Rat)) (a1:Int) (a2:Int):Option (List (List Rat)):=
 (gY K a0 a1 a2 K ([]:List Rat) 0).bind fun x17=>nO K a0 a1 a2 x17
theorem aBm {K:Nat} {a0:List (List Rat)} {a1:Int} {a2:Int} {r:List (List Rat)} (hF:oK K a0 a1 a2=some r):Ct Tryz.prog 53 [.vc (pS (fZ cQ) a0),.vc (pI .i64 a1),.vc (pI .i64 a2)] (.vc (pS (fZ cQ) r)):=by
 unfold oK at hF
 refine aA Tryz.func53 rfl (by kernel_rfl) Tryz.ntmps53 rfl (fun w0 M0=>?_)
 refine aD (aK (aH (aM (.inr rfl)) ⟨eM (fZ cQ),trivial⟩ ?_))
 refine aU (aJ (aD (aK (pN cQ 42 rfl ?_))))
 refine go ?_ ?_
 refine aI (aY (fun H E=>∃(x17:List Rat),∃(b18:Option Nat),∃(c19:Nat),∃(n20:Nat),nO K a0 a1 a2 x17=some r∧x17.length=n20∧H=[hO cQ b18 c19 42 n20 x17]∧E=[(0,.vc (pS (fZ cQ) a0)),(1,.vc (pI .i64 a1)),(2,.vc (pI .i64 a2)),(7,.vc (pO b18 n20 c19))]) ?_ (fun Jj24=>?_))
 ·rintro _ _ ⟨x17,b18,c19,n20,hF,q21,rfl,rfl⟩
  unfold nO at hF
  refine aJ (aD (aK (pN (fZ cQ) 24 rfl ?_)))
  refine go ?_ ?_
  refine aI (aHA 1 [7] rfl q21 zU1 rfl ?_)
  refine aY (fun H E=>∃(x41:List (List Rat)),∃(b42:Option Nat),∃(c43:Nat),∃(n44:Nat),nR K x41=some r∧x41.length=n44∧H=[hO (fZ cQ) b42 c43 24 n44 x41]∧E=[(9,.vc (pO b42 n44 c43))]) ?_ (fun Jj48=>?_)
  ·rintro _ _ ⟨x41,b42,c43,n44,hF,q45,rfl,rfl⟩
   unfold nR at hF
   refine go ?_ ?_
   refine fX (fY (mL 0 [6,9,86] rfl q45 ⟨rfl,rfl,rfl,trivial⟩ rfl ?_))
   obtain rfl:=iR hF
   exact gW (.inl rfl) Tryz.results53 (.tmp rfl .nil) rfl rfl
  obtain⟨x41',hL,hRl47⟩:=aO hF
  refine dW (fun k a w=>∃(x34:List (List Rat)),∃(x40:Int),∃(b35:Option Nat),∃(c36:Nat),∃(n37:Nat),cU K a0 a1 a2 x17 k x34 x40=some x41'∧x34.length=n37∧hs _ [hO (fZ cQ) b35 c36 24 n37 x34] [(0,.vc (pS (fZ cQ) a0)),(1,.vc (pI .i64 a1)),(2,.vc (pI .i64 a2)),(7,.vc (pS cQ x17)),(9,.vc (pO b35 n37 c36)),(10,.vc (pI .i64 x40))] a w) K (fun a w ⟨_,_,_,_,_,hF,_,_⟩=>by cases hF) (fun k a w ⟨x34,x40,b35,c36,n37,hF,q38,hh⟩=>dV ?_ hh) (fun a w hh=>⟨([]:List (List Rat)),0,none,0,0,hL,rfl,gO [0] hh⟩)
  rw [cU.eq_2] at hF
  refine go ?_ ?_
  refine aC hF rfl (fun h49 hF=>?_) (fun h49 hF=>?_)
  ·refine go ?_ ?_
   refine aI (go ?_ ?_)
   refine aC hF rfl (fun h50 hF=>?_) (fun h50 hF=>?_)
   ·refine go ?_ ?_
    refine aH (gP (C:=(fZ cQ)) (xs:=[.tmp 50]) (ps:=[.vc (pS cQ x17)]) (zs:=[x17]) rfl tyS23 rfl ⟨⟨trivial,rfl⟩,trivial⟩ rfl) zU1 ?_
    obtain⟨x51,h52,hF⟩:=aO hF
    refine kK 0 rfl tyS23 rfl rfl q38 rfl rfl h52 (fun b53 c54 H55 e56=>?_)
    cases e56
    refine go ?_ ?_
    refine bI ?_
    obtain⟨v58,h59,hF⟩:=aO hF
    refine go ?_ ?_
    exact aF (fun a w hh=>⟨x51,v58,b53,c54,(n37+[x17].length),hF,(bL h52 q38),gO [0] hh⟩)
   refine iC (aJ (aD (aK (pN cQ 42 rfl ?_))))
   refine go ?_ ?_
   refine aI (aY (fun H E=>∃(x76:List Rat),∃(b77:Option Nat),∃(c78:Nat),∃(n79:Nat),nN K x34 x40 (cU K a0 a1 a2 x17 k) x76=some x41'∧x76.length=n79∧H=[hO cQ b77 c78 42 n79 x76,hO (fZ cQ) b35 c36 24 n37 x34]∧E=[(0,.vc (pS (fZ cQ) a0)),(1,.vc (pI .i64 a1)),(2,.vc (pI .i64 a2)),(7,.vc (pS cQ x17)),(9,.vc (pO b35 n37 c36)),(10,.vc (pI .i64 x40)),(11,.vc (pO b77 n79 c78))]) ?_ (fun Jj83=>?_))
   ·rintro _ _ ⟨x76,b77,c78,n79,hF,q80,rfl,rfl⟩
    unfold nN at hF
    refine aJ (aK (fL ?_))
    refine fL ?_
    refine wI 0 [11,83] rfl q80 zU2 rfl ?_
    refine aH (gP (C:=(fZ cQ)) (xs:=[.tmp 83]) (ps:=[.vc (pS cQ x76)]) (zs:=[x76]) rfl tyS23 rfl ⟨⟨trivial,rfl⟩,trivial⟩ rfl) zU1 ?_
    obtain⟨x84,h85,hF⟩:=aO hF
    refine kK 0 rfl tyS23 rfl rfl q38 rfl rfl h85 (fun b86 c87 H88 e89=>?_)
    cases e89
    obtain⟨v91,h92,hF⟩:=aO hF
    refine go ?_ ?_
    exact aF (fun a w hh=>⟨x84,v91,b86,c87,(n37+[x76].length),hF,(bL h85 q38),gO [0] hh⟩)
   obtain⟨x76',hL,hRl82⟩:=aO hF
   refine dW (fun k a w=>∃(x69:List Rat),∃(x75:Int),∃(b70:Option Nat),∃(c71:Nat),∃(n72:Nat),iA K a0 a2 x17 x40 k x69 x75=some x76'∧x69.length=n72∧hs _ [hO cQ b70 c71 42 n72 x69,hO (fZ cQ) b35 c36 24 n37 x34] [(0,.vc (pS (fZ cQ) a0)),(1,.vc (pI .i64 a1)),(2,.vc (pI .i64 a2)),(7,.vc (pS cQ x17)),(9,.vc (pO b35 n37 c36)),(10,.vc (pI .i64 x40)),(11,.vc (pO b70 n72 c71)),(12,.vc (pI .i64 x75))] a w) K (fun a w ⟨_,_,_,_,_,hF,_,_⟩=>by cases hF) (fun k a w ⟨x69,x75,b70,c71,n72,hF,q73,hh⟩=>dV ?_ hh) (fun a w hh=>⟨([]:List Rat),0,none,0,0,hL,rfl,gO [0,1] hh⟩)
   rw [iA.eq_2] at hF
   refine go ?_ ?_
   refine aC hF rfl (fun h93 hF=>?_) (fun h93 hF=>?_)
   ·refine go ?_ ?_
    refine aI ?_
    obtain⟨v96,h97,hF⟩:=aO hF
    obtain⟨v98,h99,hF⟩:=aO hF
    have hF:=qB h97 hF
    obtain⟨v102,h103,hF⟩:=aO hF
    obtain⟨v104,h105,hF⟩:=aO hF
    obtain⟨v106,h107,hF⟩:=aX hF yN
    obtain⟨v108,h109,hF⟩:=aX hF aCo
    refine iG [0,0,0,6,14,0,62,126,0,0,768,1792,0,7936,16128,0,0,98304,229376,524032,1048574,2097150,4194303,8388607] 22 2 [.v (.vc (pO b70 n72 c71)),.v (.vc (pS (fZ cQ) a0)),.v (.vc (pI .i64 x40)),.v (.vc (pM ((fZ cQ).e v96))),.v (.vc (pS cQ v96)),.v (.vc (pI .i64 x75)),.v (.vc (pM (cQ.e v98))),.v (.va (eQ v98)),.v (.vc (pS (fZ cQ) a0)),.v (.vc (pI .i64 x40)),.v (.vc (pM ((fZ cQ).e v96))),.v (.vc (pS cQ v96)),.v (.vc (pI .i64 a2)),.v (.vc (pM (cQ.e v102))),.v (.va (eQ v102)),.v (.vc (pS cQ x17)),.v (.vc (pI .i64 x75)),.v (.vc (pM (cQ.e v104))),.v (.va (eQ v104)),.v (.va (eQ v106)),.v (.va (eQ v108)),.v (.vc (pS cQ [v108]))] aW ⟨d0 (aM (.inl rfl)) zU1,d0 (aM (.inl rfl)) zU1,d0 (aM (.inl rfl)) zU1,d0 (vZ rfl tyS23 h97) zU2,d0 (vH 1 rfl rfl (.one tyO24)) zU1,d0 (aM (.inl rfl)) zU1,d0 (vZ rfl tyS24 h99) zU2,d0 (vH 4 rfl rfl (.agg tyA42)) zU1,d0 (aM (.inl rfl)) zU1,d0 (aM (.inl rfl)) zU1,d0 (vZ rfl tyS23 h97) zU2,d0 (vH 1 rfl rfl (.one tyO24)) zU1,d0 (aM (.inl rfl)) zU1,d0 (vZ rfl tyS24 h103) zU2,d0 (vH 4 rfl rfl (.agg tyA42)) zU1,d0 (aM (.inl rfl)) zU1,d0 (aM (.inl rfl)) zU1,d0 (vZ rfl tyS24 h105) zU2,d0 (vH 4 rfl rfl (.agg tyA42)) zU1,d0 (bD rfl h107 rfl) zU2,d0 (bD rfl h109 rfl) zU2,d0 (gP (C:=cQ) (xs:=[.tmp 79]) (ps:=[.va (eQ v108)]) (zs:=[v108]) rfl tyS24 rfl ⟨⟨trivial,rfl⟩,trivial⟩ rfl) zU1,trivial⟩ (fun bs95 G94=>?_)
    obtain⟨x110,h111,hF⟩:=aO hF
    refine kK 0 rfl tyS24 rfl rfl q73 rfl rfl h111 (fun b112 c113 H114 e115=>?_)
    cases e115
    obtain⟨v117,h118,hF⟩:=aO hF
    refine go ?_ ?_
    exact aF (fun a w hh=>⟨x110,v117,b112,c113,(n72+[v108].length),hF,(bL h111 q73),gO [0,1] hh⟩)
   refine bI ?_
   obtain rfl:=iR hF
   exact p6 Jj83 ⟨x69,b70,c71,n72,hRl82,q73,rfl,rfl⟩ [0,1]
  refine bI ?_
  obtain rfl:=iR hF
  exact p6 Jj48 ⟨x34,b35,c36,n37,hRl47,q38,rfl,rfl⟩ [0]
 obtain⟨x17',hL,hRl23⟩:=aO hF
 refine dW (fun k a w=>∃(x10:List Rat),∃(x16:Int),∃(b11:Option Nat),∃(c12:Nat),∃(n13:Nat),gY K a0 a1 a2 k x10 x16=some x17'∧x10.length=n13∧hs _ [hO cQ b11 c12 42 n13 x10] [(0,.vc (pS (fZ cQ) a0)),(1,.vc (pI .i64 a1)),(2,.vc (pI .i64 a2)),(7,.vc (pO b11 n13 c12)),(8,.vc (pI .i64 x16))] a w) K (fun a w ⟨_,_,_,_,_,hF,_,_⟩=>by cases hF) (fun k a w ⟨x10,x16,b11,c12,n13,hF,q14,hh⟩=>dV ?_ hh) (fun a w hh=>⟨([]:List Rat),0,none,0,0,hL,rfl,gO [0] hh⟩)
 rw [gY.eq_2] at hF
 obtain⟨v119,h120,hF⟩:=aO hF
 refine go ?_ ?_
 refine aC hF rfl (fun h121 hF=>?_) (fun h121 hF=>?_)
 ·refine go ?_ ?_
  refine aI ?_
  have hF:=qB h120 hF
  obtain⟨v126,h127,hF⟩:=aO hF
  have hF:=qB h120 hF
  obtain⟨v130,h131,hF⟩:=aO hF
  obtain⟨v132,h133,hF⟩:=aX hF u9
  refine iG [0,0,0,6,14,0,62,126,0,0,768,1792,0,7936,16128,32766,65534,131071,262143] 17 2 [.v (.vc (pO b11 n13 c12)),.v (.vc (pS (fZ cQ) a0)),.v (.vc (pI .i64 a1)),.v (.vc (pM ((fZ cQ).e v119))),.v (.vc (pS cQ v119)),.v (.vc (pI .i64 x16)),.v (.vc (pM (cQ.e v126))),.v (.va (eQ v126)),.v (.vc (pS (fZ cQ) a0)),.v (.vc (pI .i64 a1)),.v (.vc (pM ((fZ cQ).e v119))),.v (.vc (pS cQ v119)),.v (.vc (pI .i64 a2)),.v (.vc (pM (cQ.e v130))),.v (.va (eQ v130)),.v (.va (eQ v132)),.v (.vc (pS cQ [v132]))] aW ⟨d0 (aM (.inl rfl)) zU1,d0 (aM (.inl rfl)) zU1,d0 (aM (.inl rfl)) zU1,d0 (vZ rfl tyS23 h120) zU2,d0 (vH 1 rfl rfl (.one tyO24)) zU1,d0 (aM (.inl rfl)) zU1,d0 (vZ rfl tyS24 h127) zU2,d0 (vH 4 rfl rfl (.agg tyA42)) zU1,d0 (aM (.inl rfl)) zU1,d0 (aM (.inl rfl)) zU1,d0 (vZ rfl tyS23 h120) zU2,d0 (vH 1 rfl rfl (.one tyO24)) zU1,d0 (aM (.inl rfl)) zU1,d0 (vZ rfl tyS24 h131) zU2,d0 (vH 4 rfl rfl (.agg tyA42)) zU1,d0 (bD rfl h133 rfl) zU2,d0 (gP (C:=cQ) (xs:=[.tmp 37]) (ps:=[.va (eQ v132)]) (zs:=[v132]) rfl tyS24 rfl ⟨⟨trivial,rfl⟩,trivial⟩ rfl) zU1,trivial⟩ (fun bs123 G122=>?_)
  obtain⟨x134,h135,hF⟩:=aO hF
  refine kK 0 rfl tyS24 rfl rfl q14 rfl rfl h135 (fun b136 c137 H138 e139=>?_)
  cases e139
  obtain⟨v141,h142,hF⟩:=aO hF
  refine go ?_ ?_
  exact aF (fun a w hh=>⟨x134,v141,b136,c137,(n13+[v132].length),hF,(bL h135 q14),gO [0] hh⟩)
 refine bI ?_
 obtain rfl:=iR hF
 exact p6 Jj24 ⟨x10,b11,c12,n13,hRl23,q14,rfl,rfl⟩ [0]
end Go.Proofs.YtolfcbpgmfbgmaaGreat
