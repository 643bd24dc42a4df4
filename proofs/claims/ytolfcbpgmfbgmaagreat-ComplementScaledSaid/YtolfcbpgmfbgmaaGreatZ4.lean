/- Texts of the proof, part 4: Q1. -/
import Derived.Test.YtolfcbpgmfbgmaaGreatZ3
set_option linter.unusedSimpArgs false
set_option linter.unusedVariables false
set_option maxRecDepth 100000
namespace Go.Proofs.YtolfcbpgmfbgmaaGreat
structure aHN where
 vars:Int
 rows:Int
 cols:Int
 t:List (List Rat)
 costs:List Rat
 basis:List Int
noncomputable def aHN.enc (x:aHN):List CP:=[pI .i64 x.vars]++[pI .i64 x.rows]++[pI .i64 x.cols]++[pS (fA cQ) x.t]++[pS cQ x.costs]++[pS cI x.basis]
noncomputable def aHN.cod:Cd aHN:=⟨6,aHN.enc,fun _=>rfl⟩
structure aHx where
 rows:List (List Rat)
 pivots:List Int
 det:Rat
noncomputable def aHx.enc (x:aHx):List CP:=[pS (fA cQ) x.rows]++[pS cI x.pivots]++(eQ x.det)
noncomputable def aHx.cod:Cd aHx:=⟨6,aHx.enc,fun _=>rfl⟩
structure aMI where
 z:List Rat
 w:List Rat
 pivots:Int
noncomputable def aMI.enc (x:aMI):List CP:=[pS cQ x.z]++[pS cQ x.w]++[pI .i64 x.pivots]
noncomputable def aMI.cod:Cd aMI:=⟨3,aMI.enc,fun _=>rfl⟩
structure aMk where
 n:Int
 rows:List (List Rat)
 basic:List Int
noncomputable def aMk.enc (x:aMk):List CP:=[pI .i64 x.n]++[pS (fA cQ) x.rows]++[pS cI x.basic]
noncomputable def aMk.cod:Cd aMk:=⟨3,aMk.enc,fun _=>rfl⟩
structure aO where
 a:List Rat
 b:Rat
noncomputable def aO.enc (x:aO):List CP:=[pS cQ x.a]++(eQ x.b)
noncomputable def aO.cod:Cd aO:=⟨5,aO.enc,fun _=>rfl⟩
structure aNq where
 vars:Int
 lines:List aO
 goal:List Rat
noncomputable def aNq.enc (x:aNq):List CP:=[pI .i64 x.vars]++[pS aO.cod x.lines]++[pS cQ x.goal]
noncomputable def aNq.cod:Cd aNq:=⟨3,aNq.enc,fun _=>rfl⟩
structure aLT where
 a:List Rat
 b:Rat
noncomputable def aLT.enc (x:aLT):List CP:=[pS cQ x.a]++(eQ x.b)
noncomputable def aLT.cod:Cd aLT:=⟨5,aLT.enc,fun _=>rfl⟩
structure aM1 where
 kind:Int
 x:List Rat
 y:List Rat
 value:Rat
noncomputable def aM1.enc (x:aM1):List CP:=[pI .i64 x.kind]++[pS cQ x.x]++[pS cQ x.y]++(eQ x.value)
noncomputable def aM1.cod:Cd aM1:=⟨7,aM1.enc,fun _=>rfl⟩
structure oF where
 kind:Int
 x:List Rat
 y:List Rat
 value:Rat
noncomputable def oF.enc (x:oF):List CP:=[pI .i64 x.kind]++[pS cQ x.x]++[pS cQ x.y]++(eQ x.value)
noncomputable def oF.cod:Cd oF:=⟨7,oF.enc,fun _=>rfl⟩
structure aL where
 z:List Rat
 w:List Rat
 pivots:Int
noncomputable def aL.enc (x:aL):List CP:=[pS cQ x.z]++[pS cQ x.w]++[pI .i64 x.pivots]
noncomputable def aL.cod:Cd aL:=⟨3,aL.enc,fun _=>rfl⟩
structure aV where
 vars:Int
 lines:List aO
 goal:List Rat
noncomputable def aV.enc (x:aV):List CP:=[pI .i64 x.vars]++[pS aO.cod x.lines]++[pS cQ x.goal]
noncomputable def aV.cod:Cd aV:=⟨3,aV.enc,fun _=>rfl⟩
structure pJ where
 n:Int
 rows:List (List Rat)
 basic:List Int
noncomputable def pJ.enc (x:pJ):List CP:=[pI .i64 x.n]++[pS (fA cQ) x.rows]++[pS cI x.basic]
noncomputable def pJ.cod:Cd pJ:=⟨3,pJ.enc,fun _=>rfl⟩
structure iK where
 rows:List (List Rat)
 pivots:List Int
 det:Rat
noncomputable def iK.enc (x:iK):List CP:=[pS (fA cQ) x.rows]++[pS cI x.pivots]++(eQ x.det)
noncomputable def iK.cod:Cd iK:=⟨6,iK.enc,fun _=>rfl⟩
structure uZ where
 vars:Int
 rows:Int
 cols:Int
 t:List (List Rat)
 costs:List Rat
 basis:List Int
noncomputable def uZ.enc (x:uZ):List CP:=[pI .i64 x.vars]++[pI .i64 x.rows]++[pI .i64 x.cols]++[pS (fA cQ) x.t]++[pS cQ x.costs]++[pS cI x.basis]
noncomputable def uZ.cod:Cd uZ:=⟨6,uZ.enc,fun _=>rfl⟩
instance tyA139:TyA Tryz.prog 139 6:=mkA Tryz.underlying139 rfl (by kernel_rfl)
instance tyA30:TyA Tryz.prog 30 3:=mkA Tryz.underlying30 rfl (by kernel_rfl)
instance tyA90:TyA Tryz.prog 90 3:=mkA Tryz.underlying90 rfl (by kernel_rfl)
instance tyA92:TyA Tryz.prog 92 5:=mkA Tryz.underlying92 rfl (by kernel_rfl)
instance tyA94:TyA Tryz.prog 94 7:=mkA Tryz.underlying94 rfl (by kernel_rfl)
theorem tyB123_o3_o4_o5q:TyB Tryz.prog 123 [(0,1),(1,1),(2,1),(3,1),(4,1),(5,1)] ([pI .i64 0]++[pI .i64 0]++[pI .i64 0]++[pO none 0 0]++[pO none 0 0]++[pO none 0 0]):=mkB (z:=.agg #[.int .i64 0,.int .i64 0,.int .i64 0,.slice none 0 0,.slice none 0 0,.slice none 0 0]) (by kernel_rfl) Tryz.underlying123 (by kernel_rfl) (fun M=>bD.app (bD.app (bD.app (bD.app (bD.app (show bD M [pI .i64 0] [.int .i64 0] from zU1) (show bD M [pI .i64 0] [.int .i64 0] from zU1)) (show bD M [pI .i64 0] [.int .i64 0] from zU1)) (show bD M [pO none 0 0] [.slice none 0 0] from⟨.inl rfl,trivial⟩)) (show bD M [pO none 0 0] [.slice none 0 0] from⟨.inl rfl,trivial⟩)) (show bD M [pO none 0 0] [.slice none 0 0] from⟨.inl rfl,trivial⟩))
theorem tyB139_o0_o1q:TyB Tryz.prog 139 [(0,1),(1,1),(2,4)] ([pO none 0 0]++[pO none 0 0]++(eQ 0)):=mkB (z:=.agg #[.slice none 0 0,.slice none 0 0,.bool false,.slice none 0 0,.bool false,.slice none 0 0]) (by kernel_rfl) Tryz.underlying139 (by kernel_rfl) (fun M=>bD.app (bD.app (show bD M [pO none 0 0] [.slice none 0 0] from⟨.inl rfl,trivial⟩) (show bD M [pO none 0 0] [.slice none 0 0] from⟨.inl rfl,trivial⟩)) (eQ0 M))
theorem tyB30q:TyB Tryz.prog 30 [(0,1),(1,1),(2,1)] ([pS cQ ([]:List Rat)]++[pS cQ ([]:List Rat)]++[pI .i64 0]):=mkB (z:=.agg #[.slice none 0 0,.slice none 0 0,.int .i64 0]) (by kernel_rfl) Tryz.underlying30 (by kernel_rfl) (fun M=>bD.app (bD.app (show bD M [pS cQ ([]:List Rat)] [.slice none 0 0] from⟨eI cQ M,trivial⟩) (show bD M [pS cQ ([]:List Rat)] [.slice none 0 0] from⟨eI cQ M,trivial⟩)) (show bD M [pI .i64 0] [.int .i64 0] from zU1))
theorem tyB42q:TyB Tryz.prog 42 [(0,2),(2,2)] (eQ 0):=mkB (z:=.agg #[.bool false,.slice none 0 0,.bool false,.slice none 0 0]) (by kernel_rfl) Tryz.underlying42 (by kernel_rfl) (fun M=>eQ0 M)
theorem tyB72_o1_o2q:TyB Tryz.prog 72 [(0,1),(1,1),(2,1)] ([pI .i64 0]++[pO none 0 0]++[pO none 0 0]):=mkB (z:=.agg #[.int .i64 0,.slice none 0 0,.slice none 0 0]) (by kernel_rfl) Tryz.underlying72 (by kernel_rfl) (fun M=>bD.app (bD.app (show bD M [pI .i64 0] [.int .i64 0] from zU1) (show bD M [pO none 0 0] [.slice none 0 0] from⟨.inl rfl,trivial⟩)) (show bD M [pO none 0 0] [.slice none 0 0] from⟨.inl rfl,trivial⟩))
theorem tyB90_o1q:TyB Tryz.prog 90 [(0,1),(1,1),(2,1)] ([pI .i64 0]++[pO none 0 0]++[pS cQ ([]:List Rat)]):=mkB (z:=.agg #[.int .i64 0,.slice none 0 0,.slice none 0 0]) (by kernel_rfl) Tryz.underlying90 (by kernel_rfl) (fun M=>bD.app (bD.app (show bD M [pI .i64 0] [.int .i64 0] from zU1) (show bD M [pO none 0 0] [.slice none 0 0] from⟨.inl rfl,trivial⟩)) (show bD M [pS cQ ([]:List Rat)] [.slice none 0 0] from⟨eI cQ M,trivial⟩))
theorem tyB92q:TyB Tryz.prog 92 [(0,1),(1,4)] ([pS cQ ([]:List Rat)]++(eQ 0)):=mkB (z:=.agg #[.slice none 0 0,.bool false,.slice none 0 0,.bool false,.slice none 0 0]) (by kernel_rfl) Tryz.underlying92 (by kernel_rfl) (fun M=>bD.app (show bD M [pS cQ ([]:List Rat)] [.slice none 0 0] from⟨eI cQ M,trivial⟩) (eQ0 M))
theorem tyB92_o0q:TyB Tryz.prog 92 [(0,1),(1,4)] ([pO none 0 0]++(eQ 0)):=mkB (z:=.agg #[.slice none 0 0,.bool false,.slice none 0 0,.bool false,.slice none 0 0]) (by kernel_rfl) Tryz.underlying92 (by kernel_rfl) (fun M=>bD.app (show bD M [pO none 0 0] [.slice none 0 0] from⟨.inl rfl,trivial⟩) (eQ0 M))
theorem tyB94q:TyB Tryz.prog 94 [(0,1),(1,1),(2,1),(3,4)] ([pI .i64 0]++[pS cQ ([]:List Rat)]++[pS cQ ([]:List Rat)]++(eQ 0)):=mkB (z:=.agg #[.int .i64 0,.slice none 0 0,.slice none 0 0,.bool false,.slice none 0 0,.bool false,.slice none 0 0]) (by kernel_rfl) Tryz.underlying94 (by kernel_rfl) (fun M=>bD.app (bD.app (bD.app (show bD M [pI .i64 0] [.int .i64 0] from zU1) (show bD M [pS cQ ([]:List Rat)] [.slice none 0 0] from⟨eI cQ M,trivial⟩)) (show bD M [pS cQ ([]:List Rat)] [.slice none 0 0] from⟨eI cQ M,trivial⟩)) (eQ0 M))
instance tyF123_0:TyF Tryz.prog 123 0 0:=mkF (ft:=3) (k:=0) Tryz.underlying123 rfl rfl rfl (by kernel_rfl)
instance tyF123_1:TyF Tryz.prog 123 1 1:=mkF (ft:=3) (k:=0) Tryz.underlying123 rfl rfl rfl (by kernel_rfl)
instance tyF123_2:TyF Tryz.prog 123 2 2:=mkF (ft:=3) (k:=0) Tryz.underlying123 rfl rfl rfl (by kernel_rfl)
instance tyF123_3:TyF Tryz.prog 123 3 3:=mkF (ft:=23) (k:=0) Tryz.underlying123 rfl rfl rfl (by kernel_rfl)
instance tyF123_4:TyF Tryz.prog 123 4 4:=mkF (ft:=24) (k:=0) Tryz.underlying123 rfl rfl rfl (by kernel_rfl)
instance tyF123_5:TyF Tryz.prog 123 5 5:=mkF (ft:=22) (k:=0) Tryz.underlying123 rfl rfl rfl (by kernel_rfl)
instance tyF139_0:TyF Tryz.prog 139 0 0:=mkF (ft:=23) (k:=0) Tryz.underlying139 rfl rfl rfl (by kernel_rfl)
instance tyF139_1:TyF Tryz.prog 139 1 1:=mkF (ft:=22) (k:=0) Tryz.underlying139 rfl rfl rfl (by kernel_rfl)
instance tyF139_2:TyF Tryz.prog 139 2 2:=mkF (ft:=42) (k:=3) Tryz.underlying139 rfl rfl rfl (by kernel_rfl)
instance tyF30_0:TyF Tryz.prog 30 0 0:=mkF (ft:=24) (k:=0) Tryz.underlying30 rfl rfl rfl (by kernel_rfl)
instance tyF30_1:TyF Tryz.prog 30 1 1:=mkF (ft:=24) (k:=0) Tryz.underlying30 rfl rfl rfl (by kernel_rfl)
instance tyF30_2:TyF Tryz.prog 30 2 2:=mkF (ft:=3) (k:=0) Tryz.underlying30 rfl rfl rfl (by kernel_rfl)
instance tyF72_0:TyF Tryz.prog 72 0 0:=mkF (ft:=3) (k:=0) Tryz.underlying72 rfl rfl rfl (by kernel_rfl)
instance tyF72_1:TyF Tryz.prog 72 1 1:=mkF (ft:=23) (k:=0) Tryz.underlying72 rfl rfl rfl (by kernel_rfl)
instance tyF72_2:TyF Tryz.prog 72 2 2:=mkF (ft:=22) (k:=0) Tryz.underlying72 rfl rfl rfl (by kernel_rfl)
instance tyF90_0:TyF Tryz.prog 90 0 0:=mkF (ft:=3) (k:=0) Tryz.underlying90 rfl rfl rfl (by kernel_rfl)
instance tyF90_1:TyF Tryz.prog 90 1 1:=mkF (ft:=88) (k:=0) Tryz.underlying90 rfl rfl rfl (by kernel_rfl)
instance tyF90_2:TyF Tryz.prog 90 2 2:=mkF (ft:=24) (k:=0) Tryz.underlying90 rfl rfl rfl (by kernel_rfl)
instance tyF92_0:TyF Tryz.prog 92 0 0:=mkF (ft:=24) (k:=0) Tryz.underlying92 rfl rfl rfl (by kernel_rfl)
instance tyF92_1:TyF Tryz.prog 92 1 1:=mkF (ft:=42) (k:=3) Tryz.underlying92 rfl rfl rfl (by kernel_rfl)
instance tyF94_0:TyF Tryz.prog 94 0 0:=mkF (ft:=3) (k:=0) Tryz.underlying94 rfl rfl rfl (by kernel_rfl)
instance tyF94_1:TyF Tryz.prog 94 1 1:=mkF (ft:=24) (k:=0) Tryz.underlying94 rfl rfl rfl (by kernel_rfl)
instance tyF94_3:TyF Tryz.prog 94 3 3:=mkF (ft:=42) (k:=3) Tryz.underlying94 rfl rfl rfl (by kernel_rfl)
theorem tyG139_1:TyG Tryz.prog 139 1 1 22:=⟨⟨_,_,Tryz.underlying139,rfl,rfl,rfl⟩,mk1 Tryz.underlying22 rfl (by kernel_rfl)⟩
instance tyO120:Ty1 Tryz.prog 120:=mk1 Tryz.underlying120 rfl (by kernel_rfl)
instance tyO23:Ty1 Tryz.prog 23:=mk1 Tryz.underlying23 rfl (by kernel_rfl)
instance tyO24:Ty1 Tryz.prog 24:=mk1 Tryz.underlying24 rfl (by kernel_rfl)
instance tyO88:Ty1 Tryz.prog 88:=mk1 Tryz.underlying88 rfl (by kernel_rfl)
instance tyS23:TyS Tryz.prog 23 24 1 24:=mkS (z:=.slice none 0 0) (k:=0) Tryz.underlying23 (by kernel_rfl) rfl
instance tyS24:TyS Tryz.prog 24 42 4 64:=mkS (z:=.agg #[.bool false,.slice none 0 0,.bool false,.slice none 0 0]) (k:=3) Tryz.underlying24 (by kernel_rfl) rfl
instance tyS85:TyS Tryz.prog 85 4 1 1:=mkS (z:=.bool false) (k:=0) Tryz.underlying85 (by kernel_rfl) rfl
instance tyS88:TyS Tryz.prog 88 92 5 88:=mkS (z:=.agg #[.slice none 0 0,.bool false,.slice none 0 0,.bool false,.slice none 0 0]) (k:=4) Tryz.underlying88 (by kernel_rfl) rfl
instance tyZ120q:TyZ Tryz.prog 120 [aRa]:=mkZ (z:=.pointer none) (k:=1) (by kernel_rfl) rfl (fun M=>show bD M [aRa] [.pointer none] from zU1)
instance tyZ139q:TyZ Tryz.prog 139 ([pS (fA cQ) ([]:List (List Rat))]++[pS cI ([]:List Int)]++(eQ 0)):=mkZ (z:=.agg #[.slice none 0 0,.slice none 0 0,.bool false,.slice none 0 0,.bool false,.slice none 0 0]) (k:=6) (by kernel_rfl) rfl (fun M=>bD.app (bD.app (show bD M [pS (fA cQ) ([]:List (List Rat))] [.slice none 0 0] from⟨eI (fA cQ) M,trivial⟩) (show bD M [pS cI ([]:List Int)] [.slice none 0 0] from⟨eI cI M,trivial⟩)) (eQ0 M))
theorem tyZ23_oq:TyZ Tryz.prog 23 [pO none 0 0]:=mkZ (z:=.slice none 0 0) (k:=1) (by kernel_rfl) rfl (fun M=>show bD M [pO none 0 0] [.slice none 0 0] from⟨.inl rfl,trivial⟩)
instance tyZ24q:TyZ Tryz.prog 24 [pS cQ ([]:List Rat)]:=mkZ (z:=.slice none 0 0) (k:=1) (by kernel_rfl) rfl (fun M=>show bD M [pS cQ ([]:List Rat)] [.slice none 0 0] from⟨eI cQ M,trivial⟩)
instance tyZ3q:TyZ Tryz.prog 3 [pI .i64 0]:=mkZ (z:=.int .i64 0) (k:=1) (by kernel_rfl) rfl (fun M=>show bD M [pI .i64 0] [.int .i64 0] from zU1)
instance tyZ30q:TyZ Tryz.prog 30 ([pS cQ ([]:List Rat)]++[pS cQ ([]:List Rat)]++[pI .i64 0]):=mkZ (z:=.agg #[.slice none 0 0,.slice none 0 0,.int .i64 0]) (k:=3) (by kernel_rfl) rfl (fun M=>bD.app (bD.app (show bD M [pS cQ ([]:List Rat)] [.slice none 0 0] from⟨eI cQ M,trivial⟩) (show bD M [pS cQ ([]:List Rat)] [.slice none 0 0] from⟨eI cQ M,trivial⟩)) (show bD M [pI .i64 0] [.int .i64 0] from zU1))
instance tyZ4q:TyZ Tryz.prog 4 [pB false]:=mkZ (z:=.bool false) (k:=1) (by kernel_rfl) rfl (fun M=>show bD M [pB false] [.bool false] from zU1)
instance tyZ42q:TyZ Tryz.prog 42 (eQ 0):=mkZ (z:=.agg #[.bool false,.slice none 0 0,.bool false,.slice none 0 0]) (k:=4) (by kernel_rfl) rfl (fun M=>eQ0 M)
instance tyZ90q:TyZ Tryz.prog 90 ([pI .i64 0]++[pS aO.cod ([]:List aO)]++[pS cQ ([]:List Rat)]):=mkZ (z:=.agg #[.int .i64 0,.slice none 0 0,.slice none 0 0]) (k:=3) (by kernel_rfl) rfl (fun M=>bD.app (bD.app (show bD M [pI .i64 0] [.int .i64 0] from zU1) (show bD M [pS aO.cod ([]:List aO)] [.slice none 0 0] from⟨eI aO.cod M,trivial⟩)) (show bD M [pS cQ ([]:List Rat)] [.slice none 0 0] from⟨eI cQ M,trivial⟩))
instance tyZ92q:TyZ Tryz.prog 92 ([pS cQ ([]:List Rat)]++(eQ 0)):=mkZ (z:=.agg #[.slice none 0 0,.bool false,.slice none 0 0,.bool false,.slice none 0 0]) (k:=5) (by kernel_rfl) rfl (fun M=>bD.app (show bD M [pS cQ ([]:List Rat)] [.slice none 0 0] from⟨eI cQ M,trivial⟩) (eQ0 M))
instance tyZ94q:TyZ Tryz.prog 94 ([pI .i64 0]++[pS cQ ([]:List Rat)]++[pS cQ ([]:List Rat)]++(eQ 0)):=mkZ (z:=.agg #[.int .i64 0,.slice none 0 0,.slice none 0 0,.bool false,.slice none 0 0,.bool false,.slice none 0 0]) (k:=7) (by kernel_rfl) rfl (fun M=>bD.app (bD.app (bD.app (show bD M [pI .i64 0] [.int .i64 0] from zU1) (show bD M [pS cQ ([]:List Rat)] [.slice none 0 0] from⟨eI cQ M,trivial⟩)) (show bD M [pS cQ ([]:List Rat)] [.slice none 0 0] from⟨eI cQ M,trivial⟩)) (eQ0 M))
def gV (a0:Int) (a1:Int):Option Int:=
 bif(decide (a0<0)) then((aQ (a0+1)).bind fun v2=>(aQ (-v2)).bind fun v4=>(zX v4 a1).bind fun v6=>some v6) else((zX a0 a1).bind fun v8=>some v8)
theorem pX {a0:Int} {a1:Int} {r:Int} (hF:gV a0 a1=some r):Ct Tryz.prog 12 [.vc (pI .i64 a0),.vc (pI .i64 a1)] (.vc (pI .i64 r)):=by
 unfold gV at hF
 refine aA Tryz.func12 rfl (by kernel_rfl) Tryz.ntmps12 rfl (fun w0 M0=>?_)
 refine go ?_ ?_
 refine aE hF rfl (fun h1 hF=>?_) (fun h1 hF=>?_)
 ·obtain⟨v2,h3,v4,h5,v6,h7,hF⟩:=bn3 hF
  exact bQ
 obtain⟨v8,h9,hF⟩:=aP hF
 exact bQ
def cD (a0:List Int) (a1:Int) (a2:Int):Option Int:=
 bif(decide (a1<0)) then(some 0) else(bif(decide ((a0.length:Int)≤a1)) then(some 0) else((bK a0 a1).bind fun v3=>(gV v3 a2).bind fun v5=>some v5))
theorem lO {a0:List Int} {a1:Int} {a2:Int} {r:Int} (hF:cD a0 a1 a2=some r):Ct Tryz.prog 39 [.vc (pS cI a0),.vc (pI .i64 a1),.vc (pI .i64 a2)] (.vc (pI .i64 r)):=by
 unfold cD at hF
 refine aA Tryz.func39 rfl (by kernel_rfl) Tryz.ntmps39 rfl (fun w0 M0=>?_)
 refine go ?_ ?_
 refine dV hF (fun h1 hF=>?_) (fun h1 hF=>?_)
 ·refine go ?_ ?_
  refine jS rfl ?_
  exact bQ
 refine go ?_ ?_
 refine aE hF rfl (fun h2 hF=>?_) (fun h2 hF=>?_)
 ·exact bQ
 obtain⟨v3,h4,hF⟩:=aP hF
 obtain⟨v5,h6,hF⟩:=bC hF pX
 exact bQ
def jI (a0:Int):Option Rat:=
 (gV a0 60).bind fun v2=>bif(decide (v2<24)) then(some 0) else((zX v2 9).bind fun v5=>(aQ (v5-4)).bind fun v7=>(chq v2 9).bind fun v9=>(zX v9 3).bind fun v11=>(aQ (1+v11)).bind fun v13=>(qof v7 v13).bind fun v15=>some v15)
theorem aA6 {a0:Int} {r:Rat} (hF:jI a0=some r):Ct Tryz.prog 40 [.vc (pI .i64 a0)] (.va (eQ r)):=by
 unfold jI at hF
 refine aA Tryz.func40 rfl (by kernel_rfl) Tryz.ntmps40 rfl (fun w0 M0=>?_)
 refine aD (aI (aK rfl tyZ42q (fun b1=>?_)))
 obtain⟨v2,h3,hF⟩:=bC hF pX
 refine go ?_ ?_
 refine aE hF rfl (fun h4 hF=>?_) (fun h4 hF=>?_)
 ·refine aD (aI (aG (gH (is:=[]) (xs:=[]) (ps:=[]) rfl tyB42q rfl rfl trivial rfl) trivial ?_))
  exact bQ
 obtain⟨v5,h6,v7,h8,v9,h10,v11,h12,hF⟩:=bn4 hF
 obtain⟨v13,h14,hF⟩:=aP hF
 obtain⟨v15,h16,hF⟩:=bC hF dK
 exact bQ
def qV (K:Nat) (x7:Rat):Option Rat:=
 some x7
def jH (K:Nat) (a0:List Rat) (a1:List Rat):Nat→Rat→Int→Option Rat
 |0,_,_=>none
 |k+1,x5,x6=>bif(decide (x6<(a0.length:Int))) then(bif(decide (x6<(a1.length:Int))) then((bK a0 x6).bind fun v14=>(bK a1 x6).bind fun v16=>(aC1 v14 v16).bind fun v18=>(aFu x5 v18).bind fun v20=>(aQ (x6+1)).bind fun v22=>jH K a0 a1 k v20 v22) else(some x5)) else(some x5)
def lX (K:Nat) (a0:List Rat) (a1:List Rat):Option Rat:=
 (jH K a0 a1 K 0 0).bind fun x7=>qV K x7
theorem yS {K:Nat} {a0:List Rat} {a1:List Rat} {r:Rat} (hF:lX K a0 a1=some r):Ct Tryz.prog 42 [.vc (pS cQ a0),.vc (pS cQ a1)] (.va (eQ r)):=by
 unfold lX at hF
 refine aA Tryz.func42 rfl (by kernel_rfl) Tryz.ntmps42 rfl (fun w0 M0=>?_)
 refine aD (aI (aK rfl tyZ42q (fun b1=>?_)))
 refine go ?_ ?_
 refine aK rfl tyZ42q (fun b2=>?_)
 refine go ?_ ?_
 refine aJ (aX (fun H E=>∃(x7:Rat),qV K x7=some r∧H=[⟨some b2,1,42,4,1,(eQ x7)⟩,⟨some b1,1,42,4,1,(eQ 0)⟩]∧E=[(4,.vc (pP (some b1) 0)),(5,.vc (pP (some b2) 0))]) ?_ (fun Jj9=>?_))
 ·rintro _ _ ⟨x7,hF,rfl,rfl⟩
  unfold qV at hF
  exact bQ
 obtain⟨x7',hL,hRl8⟩:=aP hF
 refine dQ (fun k a w=>∃(x5:Rat),∃(x6:Int),jH K a0 a1 k x5 x6=some x7'∧hs _ [⟨some b2,1,42,4,1,(eQ x5)⟩,⟨some b1,1,42,4,1,(eQ 0)⟩] [(0,.vc (pS cQ a0)),(1,.vc (pS cQ a1)),(4,.vc (pP (some b1) 0)),(5,.vc (pP (some b2) 0)),(6,.vc (pI .i64 x6))] a w) K (fun a w ⟨_,_,hF,_⟩=>by cases hF) (fun k a w ⟨x5,x6,hF,hh⟩=>dP ?_ hh) (fun a w hh=>⟨0,0,hL,iF [0,1] hh⟩)
 rw [jH.eq_2] at hF
 refine go ?_ ?_
 refine dV hF (fun h10 hF=>?_) (fun h10 hF=>?_)
 ·refine go ?_ ?_
  refine aE hF rfl (fun h11 hF=>?_) (fun h11 hF=>?_)
  ·refine go ?_ ?_
   refine aJ ?_
   obtain⟨v14,h15,hF⟩:=aP hF
   obtain⟨v16,h17,hF⟩:=aP hF
   obtain⟨v18,h19,hF⟩:=bC hF y9
   obtain⟨v20,h21,hF⟩:=bC hF vC
   refine dr [0,0,0,6,14,0,0,96,224,510,1023,2047] 11 1 ?_ (fun bs13 G12=>?_)
   obtain⟨v22,h23,hF⟩:=aP hF
   refine go ?_ ?_
   exact aF (fun a w hh=>⟨v20,v22,hF,iF [0,1] hh⟩)
  refine bH ?_
  obtain rfl:=iD hF
  exact rO Jj9 ⟨x5,hRl8,rfl,rfl⟩ [0,1]
 refine go ?_ ?_
 refine vM rfl ?_
 refine bH ?_
 obtain rfl:=iD hF
 exact rO Jj9 ⟨x5,hRl8,rfl,rfl⟩ [0,1]
def lJ (K:Nat) (x37:List Rat) (x119:List (List Rat)):Option ((List (List Rat))×(List Rat)):=
 some (x119,x37)
def lK (K:Nat) (v5:Int) (x112:List (List Rat)) (x118:Int) (recl125:(List (List Rat))→Int→Option (List (List Rat))) (x144:List Rat):Option (List (List Rat)):=
 bif(v5==2) then((bK x144 x118).bind fun v155=>(qof 1 1).bind fun v157=>(aFu v155 v157).bind fun v159=>(bK x144 x118).bind fun v161=>(pN x144 x118 v159).bind fun x163=>(rM x112 [x163]).bind fun x166=>(aQ (x118+1)).bind fun v173=>recl125 x166 v173) else((rM x112 [x144]).bind fun x175=>(aQ (x118+1)).bind fun v182=>recl125 x175 v182)
def eR (K:Nat) (v3:Int) (x43:List (List Rat)) (x118:Int):Nat→(List Rat)→Int→Option (List Rat)
 |0,_,_=>none
 |k+1,x137,x143=>bif(decide (x143<v3)) then((bK x43 x118).bind fun v187=>(bK x43 x143).bind fun v189=>(lX K v187 v189).bind fun v191=>(rM x137 [v191]).bind fun x193=>(aQ (x143+1)).bind fun v200=>eR K v3 x43 x118 k x193 v200) else(some x137)
def cN (K:Nat) (v3:Int) (v5:Int) (x43:List (List Rat)):Nat→(List (List Rat))→Int→Option (List (List Rat))
 |0,_,_=>none
 |k+1,x112,x118=>bif(decide (x118<v3)) then((eR K v3 x43 x118 K ([]:List Rat) 0).bind fun x144=>lK K v5 x112 x118 (cN K v3 v5 x43 k) x144) else(some x112)
def lQ (K:Nat) (x37:List Rat) (x218:List (List Rat)):Option ((List (List Rat))×(List Rat)):=
 some (x218,x37)
def lN (K:Nat) (v5:Int) (x211:List (List Rat)) (x217:Int) (recl224:(List (List Rat))→Int→Option (List (List Rat))) (x243:List Rat):Option (List (List Rat)):=
 bif(v5==2) then((bK x243 x217).bind fun v254=>(qof 1 1).bind fun v256=>(aFu v254 v256).bind fun v258=>(bK x243 x217).bind fun v260=>(pN x243 x217 v258).bind fun x262=>(rM x211 [x262]).bind fun x265=>(aQ (x217+1)).bind fun v272=>recl224 x265 v272) else((rM x211 [x243]).bind fun x274=>(aQ (x217+1)).bind fun v281=>recl224 x274 v281)
def eH (K:Nat) (v3:Int) (x43:List (List Rat)) (x217:Int):Nat→(List Rat)→Int→Option (List Rat)
 |0,_,_=>none
 |k+1,x236,x242=>bif(decide (x242<v3)) then((bK x43 x217).bind fun v286=>(bK x43 x242).bind fun v288=>(lX K v286 v288).bind fun v290=>(rM x236 [v290]).bind fun x292=>(aQ (x242+1)).bind fun v299=>eH K v3 x43 x217 k x292 v299) else(some x236)
def cK (K:Nat) (v3:Int) (v5:Int) (x43:List (List Rat)):Nat→(List (List Rat))→Int→Option (List (List Rat))
 |0,_,_=>none
 |k+1,x211,x217=>bif(decide (x217<v3)) then((eH K v3 x43 x217 K ([]:List Rat) 0).bind fun x243=>lN K v5 x211 x217 (cK K v3 v5 x43 k) x243) else(some x211)
def cT (K:Nat) (a0:List Int) (v3:Int) (v5:Int) (x37:List Rat) (x43:List (List Rat)):Option ((List (List Rat))×(List Rat)):=
 bif(v5==0) then(some (x43,x37)) else(bif(v3==0) then(some (x43,x37)) else(bif(v5==4) then(bif(decide (4≤v3)) then((qof 1 1).bind fun v56=>(cD a0 2 4).bind fun v59=>(qof v59 2).bind fun v61=>(cD a0 3 5).bind fun v64=>(aQ (v64-2)).bind fun v66=>(qof v66 2).bind fun v68=>(qof 2 1).bind fun v71=>(qof (-1) 1).bind fun v74=>(aBs v68).bind fun v79=>(aBs v71).bind fun v81=>(aBs v68).bind fun v83=>(aBs v71).bind fun v85=>(slL x37 0 3).bind fun x89=>(rM ([]:List Rat) x89).bind fun x91=>(rM x91 [0]).bind fun x94=>some ([[v71,v68,v79,0],[v68,v71,v81,v56],[v83,v85,v71,v56],[v61,v74,v74,0]],x94)) else((cN K v3 v5 x43 K ([]:List (List Rat)) 0).bind fun x119=>lJ K x37 x119)) else((cK K v3 v5 x43 K ([]:List (List Rat)) 0).bind fun x218=>lQ K x37 x218)))
def lL (K:Nat) (a0:List Int) (x24:List Rat) (x30:List (List Rat)) (x36:Int) (recl49:(List Rat)→(List (List Rat))→Int→Option ((List Rat)×(List (List Rat)))) (x318:List Rat):Option ((List Rat)×(List (List Rat))):=
 (rM x30 [x318]).bind fun x326=>(aQ (40+x36)).bind fun v333=>(cD a0 v333 13).bind fun v335=>(aQ (v335-8)).bind fun v337=>(aQ (47+x36)).bind fun v339=>(cD a0 v339 2).bind fun v341=>(aQ (1+v341)).bind fun v343=>(qof v337 v343).bind fun v345=>(rM x24 [v345]).bind fun x347=>(aQ (x36+1)).bind fun v354=>recl49 x347 x326 v354
def eJ (K:Nat) (a0:List Int) (v3:Int) (x36:Int):Nat→(List Rat)→Int→Option (List Rat)
 |0,_,_=>none
 |k+1,x311,x317=>bif(decide (x317<v3)) then((aQ (6*x36)).bind fun v357=>(aQ (3+v357)).bind fun v359=>(aQ (v359+x317)).bind fun v361=>(cD a0 v361 60).bind fun v363=>(jI v363).bind fun v365=>(rM x311 [v365]).bind fun x367=>(aQ (x317+1)).bind fun v374=>eJ K a0 v3 x36 k x367 v374) else(some x311)
def dO (K:Nat) (a0:List Int) (v3:Int):Nat→(List Rat)→(List (List Rat))→Int→Option ((List Rat)×(List (List Rat)))
 |0,_,_,_=>none
 |k+1,x24,x30,x36=>bif(decide (x36<v3)) then((eJ K a0 v3 x36 K ([]:List Rat) 0).bind fun x318=>lL K a0 x24 x30 x36 (dO K a0 v3 k) x318) else(some (x24,x30))
def kG (K:Nat) (a0:List Int) (a1:Int):Option ((List (List Rat))×(List Rat)):=
 (aQ (a1+1)).bind fun v1=>(cD a0 0 v1).bind fun v3=>(cD a0 1 5).bind fun v5=>(dO K a0 v3 K ([]:List Rat) ([]:List (List Rat)) 0).bind fun(x37,x43)=>cT K a0 v3 v5 x37 x43
theorem aAF {K:Nat} {a0:List Int} {a1:Int} {r:(List (List Rat))×(List Rat)} (hF:kG K a0 a1=some r):Ct Tryz.prog 10 [.vc (pS cI a0),.vc (pI .i64 a1)] (.t2 (.vc (pS (fA cQ) r.1)) (.vc (pS cQ r.2))):=by
 unfold kG at hF
 refine aA Tryz.func10 rfl (by kernel_rfl) Tryz.ntmps10 rfl (fun w0 M0=>?_)
 refine aD (aI (aG (aM (.inr rfl)) ⟨eI (fA cQ),trivial⟩ ?_))
 refine aG (aM (.inr rfl)) ⟨eI cQ,trivial⟩ ?_
 refine aU (aH (aD (aI (fI ?_))))
 refine fI ?_
 obtain⟨v1,h2,hF⟩:=aP hF
 refine aG (xQ rfl h2) ⟨rfl,p6 _ _,trivial⟩ ?_
 obtain⟨v3,h4,hF⟩:=bC hF lO
 refine aG (bJ rfl h4 rfl) ⟨rfl,p6 _ _,rfl,trivial⟩ ?_
 refine yK ?_
 refine aU (aH (aD (aI (fI ?_))))
 obtain⟨v5,h6,hF⟩:=bC hF lO
 refine aG (bJ rfl h6 rfl) ⟨rfl,p6 _ _,p6 _ _,trivial⟩ ?_
 refine yK ?_
 refine aU (aH (aD (aI (qE (fA cQ) 24 rfl ?_))))
 refine aU (aH (aD (aI (qE cQ 42 rfl ?_))))
 refine go ?_ ?_
 refine aJ (aX (fun H E=>∃(x37:List Rat),∃(x43:List (List Rat)),∃(b38:Option Nat),∃(c39:Nat),∃(n40:Nat),∃(b44:Option Nat),∃(c45:Nat),∃(n46:Nat),cT K a0 v3 v5 x37 x43=some r∧x37.length=n40∧x43.length=n46∧H=[hO cQ b38 c39 42 n40 x37,hO (fA cQ) b44 c45 24 n46 x43]∧E=[(0,.vc (pS cI a0)),(6,.vc (pI .i64 v3)),(7,.vc (pI .i64 v5)),(8,.vc (pO b44 n46 c45)),(9,.vc (pO b38 n40 c39))]) ?_ (fun Jj50=>?_))
 ·rintro _ _ ⟨x37,x43,b38,c39,n40,b44,c45,n46,hF,q41,q47,rfl,rfl⟩
  unfold cT at hF
  refine go ?_ ?_
  refine dV hF (fun h51 hF=>?_) (fun h51 hF=>?_)
  ·refine go ?_ ?_
   refine jS rfl ?_
   refine go ?_ ?_
   refine fY (fZ (tC 1 [4,8,74] rfl q47 ⟨rfl,rfl,rfl,trivial⟩ rfl ?_))
   refine tC 0 [5,9,75] rfl q41 ⟨rfl,rfl,rfl,trivial⟩ rfl ?_
   obtain rfl:=iD hF
   exact jL (.inl rfl) Tryz.results10 (.tmp rfl (.tmp rfl .nil)) rfl rfl
  refine go ?_ ?_
  refine aE hF rfl (fun h52 hF=>?_) (fun h52 hF=>?_)
  ·refine go ?_ ?_
   refine fY (fZ (tC 1 [4,8,74] rfl q47 ⟨rfl,rfl,rfl,trivial⟩ rfl ?_))
   refine tC 0 [5,9,75] rfl q41 ⟨rfl,rfl,rfl,trivial⟩ rfl ?_
   obtain rfl:=iD hF
   exact jL (.inl rfl) Tryz.results10 (.tmp rfl (.tmp rfl .nil)) rfl rfl
  refine go ?_ ?_
  refine dV hF (fun h53 hF=>?_) (fun h53 hF=>?_)
  ·refine go ?_ ?_
   refine aE hF rfl (fun h54 hF=>?_) (fun h54 hF=>?_)
   ·refine aD (aI (aG (gH (is:=[]) (xs:=[]) (ps:=[]) rfl tyB42q rfl rfl trivial rfl) trivial ?_))
    refine aK rfl tyZ42q (fun b55=>?_)
    obtain⟨v56,h57,hF⟩:=bC hF dK
    refine go ?_ ?_
    refine aK rfl tyZ42q (fun b58=>?_)
    obtain⟨v59,h60,hF⟩:=bC hF lO
    obtain⟨v61,h62,hF⟩:=bC hF dK
    refine go ?_ ?_
    refine aK rfl tyZ42q (fun b63=>?_)
    obtain⟨v64,h65,hF⟩:=bC hF lO
    obtain⟨v66,h67,hF⟩:=aP hF
    obtain⟨v68,h69,hF⟩:=bC hF dK
    refine go ?_ ?_
    refine aK rfl tyZ42q (fun b70=>?_)
    obtain⟨v71,h72,hF⟩:=bC hF dK
    refine go ?_ ?_
    refine aK rfl tyZ42q (fun b73=>?_)
    obtain⟨v74,h75,hF⟩:=bC hF dK
    refine go ?_ ?_
    refine aK rfl tyZ42q (fun b76=>?_)
    refine kY (t_s 0 rfl rfl rfl tyA42.s) zU2 ?_
    refine aU (aH (aD (aQS 6 [9] rfl q41 zU1 rfl ?_)))
    obtain⟨v79,h80,hF⟩:=bC hF sJ
    obtain⟨v81,h82,hF⟩:=bC hF sJ
    obtain⟨v83,h84,hF⟩:=bC hF sJ
    obtain⟨v85,h86,hF⟩:=bC hF sJ
    obtain⟨x89,h90,hF⟩:=aP hF
    obtain⟨x91,h92,hF⟩:=aP hF
    obtain⟨x94,h95,hF⟩:=aP hF
    refine rR (HsM [(0,fun G77=>[⟨some b76,1,42,4,1,(eQ v74)⟩,⟨some b73,1,42,4,1,(eQ v71)⟩,⟨some b70,1,42,4,1,(eQ v68)⟩,⟨some b63,1,42,4,1,(eQ v61)⟩,⟨some b58,1,42,4,1,(eQ v56)⟩,⟨some b55,1,42,4,1,(eQ 0)⟩,hO (fA cQ) b44 c45 24 n46 x43]),(1,fun G77=>[hO cQ ((G77 25).1) 0 42 0 ([]:List Rat),⟨some b76,1,42,4,1,(eQ v74)⟩,⟨some b73,1,42,4,1,(eQ v71)⟩,⟨some b70,1,42,4,1,(eQ v68)⟩,⟨some b63,1,42,4,1,(eQ v61)⟩,⟨some b58,1,42,4,1,(eQ v56)⟩,⟨some b55,1,42,4,1,(eQ 0)⟩,hO (fA cQ) b44 c45 24 n46 x43]),(3,fun G77=>[hO cQ ((G77 28).1) ((G77 28).2) 42 (0+x89.length) x91,⟨some b76,1,42,4,1,(eQ v74)⟩,⟨some b73,1,42,4,1,(eQ v71)⟩,⟨some b70,1,42,4,1,(eQ v68)⟩,⟨some b63,1,42,4,1,(eQ v61)⟩,⟨some b58,1,42,4,1,(eQ v56)⟩,⟨some b55,1,42,4,1,(eQ 0)⟩,hO (fA cQ) b44 c45 24 n46 x43]),(7,fun G77=>[hO cQ ((G77 31).1) ((G77 31).2) 42 ((0+x89.length)+[0].length) x94,⟨some b76,1,42,4,1,(eQ v74)⟩,⟨some b73,1,42,4,1,(eQ v71)⟩,⟨some b70,1,42,4,1,(eQ v68)⟩,⟨some b63,1,42,4,1,(eQ v61)⟩,⟨some b58,1,42,4,1,(eQ v56)⟩,⟨some b55,1,42,4,1,(eQ 0)⟩,hO (fA cQ) b44 c45 24 n46 x43]),(15,fun G77=>[hO cQ ((G77 33).1) ((G77 33).2) 42 ((0+x89.length)+[0].length) x94,⟨some b76,1,42,4,1,(eQ v74)⟩,⟨some b73,1,42,4,1,(eQ v71)⟩,⟨some b70,1,42,4,1,(eQ v68)⟩,⟨some b63,1,42,4,1,(eQ v61)⟩,⟨some b58,1,42,4,1,(eQ v56)⟩,⟨some b55,1,42,4,1,(eQ 0)⟩,hO (fA cQ) b44 c45 24 n46 x43])]) [25,28,31,33] (0::0::0::4::0::31::0::0::0::268::0::1996::0::4876::0::29452::0::0::258828::0::0::0::0::7864320::16777215::0::0::67108864::234943244::0::536870912::2113991436::4294967295::8589934591::[]) 34 0 (.v (.va (eQ v71))::.v (.va (eQ v68))::.v (.va (eQ v68))::.v (.va (eQ v79))::.v (.va (eQ 0))::.v (.vc (pS cQ [v71,v68,v79,0]))::.v (.va (eQ v68))::.v (.va (eQ v71))::.v (.va (eQ v71))::.v (.va (eQ v81))::.v (.va (eQ v56))::.v (.vc (pS cQ [v68,v71,v81,v56]))::.v (.va (eQ v68))::.v (.va (eQ v83))::.v (.va (eQ v71))::.v (.va (eQ v85))::.v (.va (eQ v71))::.v (.va (eQ v56))::.v (.vc (pS cQ [v83,v85,v71,v56]))::.v (.va (eQ v61))::.v (.va (eQ v74))::.v (.va (eQ v74))::.v (.va (eQ 0))::.v (.vc (pS cQ [v61,v74,v74,0]))::.v (.vc (pS (fA cQ) [[v71,v68,v79,0],[v68,v71,v81,v56],[v83,v85,v71,v56],[v61,v74,v74,0]]))::.g (fun b _=>.vc (pO b 0 0))::.v (.vc (pS cQ x37))::.v (.vc (pS cQ x89))::.g (fun b c=>.vc (pO b (0+x89.length) c))::.v (.va (eQ 0))::.v (.vc (pS cQ [0]))::.g (fun b c=>.vc (pO b ((0+x89.length)+[0].length) c))::.v (.vc (pS (fA cQ) [[v71,v68,v79,0],[v68,v71,v81,v56],[v83,v85,v71,v56],[v61,v74,v74,0]]))::.g (fun b c=>.vc (pO b ((0+x89.length)+[0].length) c))::[]) aY ⟨⟨rfl,.run (L:=[0,1,3,7]) ⟨fun G77 A=>fF 1 4 rfl rfl rfl rfl (.agg tyA42),fun G77 A=>fF 2 4 rfl rfl rfl rfl (.agg tyA42),fun G77 A=>fF 2 4 rfl rfl rfl rfl (.agg tyA42),fun G77 A=>fF 2 4 rfl rfl rfl rfl (.agg tyA42),trivial⟩ (fun G77=>zU1)⟩,⟨rfl,.run (L:=[0,1,3,7]) ⟨fun G77 A=>fF 2 4 rfl rfl rfl rfl (.agg tyA42),fun G77 A=>fF 3 4 rfl rfl rfl rfl (.agg tyA42),fun G77 A=>fF 3 4 rfl rfl rfl rfl (.agg tyA42),fun G77 A=>fF 3 4 rfl rfl rfl rfl (.agg tyA42),trivial⟩ (fun G77=>zU1)⟩,⟨rfl,.run (L:=[0,1]) ⟨fun G77 A=>fF 2 4 rfl rfl rfl rfl (.agg tyA42),fun G77 A=>fF 3 4 rfl rfl rfl rfl (.agg tyA42),trivial⟩ (fun G77=>zU1)⟩,⟨rfl,.run (L:=[0,1]) ⟨fun G77 A=>bJ rfl h80 rfl,fun G77 A=>bJ rfl h80 rfl,trivial⟩ (fun G77=>zU1)⟩,⟨rfl,.run (L:=[0,1,3,7]) ⟨fun G77 A=>fF 5 4 rfl rfl rfl rfl (.agg tyA42),fun G77 A=>fF 6 4 rfl rfl rfl rfl (.agg tyA42),fun G77 A=>fF 6 4 rfl rfl rfl rfl (.agg tyA42),fun G77 A=>fF 6 4 rfl rfl rfl rfl (.agg tyA42),trivial⟩ (fun G77=>zU1)⟩,⟨rfl,.run (L:=[0,1,3,7]) ⟨fun G77 A=>gG (C:=cQ) (xs:=[.tmp 93,.tmp 94,.tmp 96,.tmp 97]) (ps:=[.va (eQ v71),.va (eQ v68),.va (eQ v79),.va (eQ 0)]) (zs:=[v71,v68,v79,0]) rfl tyS24 rfl ⟨⟨trivial,rfl⟩,⟨trivial,rfl⟩,⟨trivial,rfl⟩,⟨trivial,rfl⟩,trivial⟩ rfl,fun G77 A=>gG (C:=cQ) (xs:=[.tmp 93,.tmp 94,.tmp 96,.tmp 97]) (ps:=[.va (eQ v71),.va (eQ v68),.va (eQ v79),.va (eQ 0)]) (zs:=[v71,v68,v79,0]) rfl tyS24 rfl ⟨⟨trivial,rfl⟩,⟨trivial,rfl⟩,⟨trivial,rfl⟩,⟨trivial,rfl⟩,trivial⟩ rfl,fun G77 A=>gG (C:=cQ) (xs:=[.tmp 93,.tmp 94,.tmp 96,.tmp 97]) (ps:=[.va (eQ v71),.va (eQ v68),.va (eQ v79),.va (eQ 0)]) (zs:=[v71,v68,v79,0]) rfl tyS24 rfl ⟨⟨trivial,rfl⟩,⟨trivial,rfl⟩,⟨trivial,rfl⟩,⟨trivial,rfl⟩,trivial⟩ rfl,fun G77 A=>gG (C:=cQ) (xs:=[.tmp 93,.tmp 94,.tmp 96,.tmp 97]) (ps:=[.va (eQ v71),.va (eQ v68),.va (eQ v79),.va (eQ 0)]) (zs:=[v71,v68,v79,0]) rfl tyS24 rfl ⟨⟨trivial,rfl⟩,⟨trivial,rfl⟩,⟨trivial,rfl⟩,⟨trivial,rfl⟩,trivial⟩ rfl,trivial⟩ (fun G77=>⟨rfl,rfl,rfl,rfl,trivial⟩)⟩,⟨rfl,.run (L:=[0,1,3,7]) ⟨fun G77 A=>fF 2 4 rfl rfl rfl rfl (.agg tyA42),fun G77 A=>fF 3 4 rfl rfl rfl rfl (.agg tyA42),fun G77 A=>fF 3 4 rfl rfl rfl rfl (.agg tyA42),fun G77 A=>fF 3 4 rfl rfl rfl rfl (.agg tyA42),trivial⟩ (fun G77=>zU1)⟩,⟨rfl,.run (L:=[0,1,3,7]) ⟨fun G77 A=>fF 1 4 rfl rfl rfl rfl (.agg tyA42),fun G77 A=>fF 2 4 rfl rfl rfl rfl (.agg tyA42),fun G77 A=>fF 2 4 rfl rfl rfl rfl (.agg tyA42),fun G77 A=>fF 2 4 rfl rfl rfl rfl (.agg tyA42),trivial⟩ (fun G77=>zU1)⟩,⟨rfl,.run (L:=[0,1]) ⟨fun G77 A=>fF 1 4 rfl rfl rfl rfl (.agg tyA42),fun G77 A=>fF 2 4 rfl rfl rfl rfl (.agg tyA42),trivial⟩ (fun G77=>zU1)⟩,⟨rfl,.run (L:=[0,1]) ⟨fun G77 A=>bJ rfl h82 rfl,fun G77 A=>bJ rfl h82 rfl,trivial⟩ (fun G77=>zU1)⟩,⟨rfl,.run (L:=[0,1,3,7]) ⟨fun G77 A=>fF 4 4 rfl rfl rfl rfl (.agg tyA42),fun G77 A=>fF 5 4 rfl rfl rfl rfl (.agg tyA42),fun G77 A=>fF 5 4 rfl rfl rfl rfl (.agg tyA42),fun G77 A=>fF 5 4 rfl rfl rfl rfl (.agg tyA42),trivial⟩ (fun G77=>zU1)⟩,⟨rfl,.run (L:=[0,1,3,7]) ⟨fun G77 A=>gG (C:=cQ) (xs:=[.tmp 99,.tmp 100,.tmp 102,.tmp 103]) (ps:=[.va (eQ v68),.va (eQ v71),.va (eQ v81),.va (eQ v56)]) (zs:=[v68,v71,v81,v56]) rfl tyS24 rfl ⟨⟨trivial,rfl⟩,⟨trivial,rfl⟩,⟨trivial,rfl⟩,⟨trivial,rfl⟩,trivial⟩ rfl,fun G77 A=>gG (C:=cQ) (xs:=[.tmp 99,.tmp 100,.tmp 102,.tmp 103]) (ps:=[.va (eQ v68),.va (eQ v71),.va (eQ v81),.va (eQ v56)]) (zs:=[v68,v71,v81,v56]) rfl tyS24 rfl ⟨⟨trivial,rfl⟩,⟨trivial,rfl⟩,⟨trivial,rfl⟩,⟨trivial,rfl⟩,trivial⟩ rfl,fun G77 A=>gG (C:=cQ) (xs:=[.tmp 99,.tmp 100,.tmp 102,.tmp 103]) (ps:=[.va (eQ v68),.va (eQ v71),.va (eQ v81),.va (eQ v56)]) (zs:=[v68,v71,v81,v56]) rfl tyS24 rfl ⟨⟨trivial,rfl⟩,⟨trivial,rfl⟩,⟨trivial,rfl⟩,⟨trivial,rfl⟩,trivial⟩ rfl,fun G77 A=>gG (C:=cQ) (xs:=[.tmp 99,.tmp 100,.tmp 102,.tmp 103]) (ps:=[.va (eQ v68),.va (eQ v71),.va (eQ v81),.va (eQ v56)]) (zs:=[v68,v71,v81,v56]) rfl tyS24 rfl ⟨⟨trivial,rfl⟩,⟨trivial,rfl⟩,⟨trivial,rfl⟩,⟨trivial,rfl⟩,trivial⟩ rfl,trivial⟩ (fun G77=>⟨rfl,rfl,rfl,rfl,trivial⟩)⟩,⟨rfl,.run (L:=[0,1]) ⟨fun G77 A=>fF 2 4 rfl rfl rfl rfl (.agg tyA42),fun G77 A=>fF 3 4 rfl rfl rfl rfl (.agg tyA42),trivial⟩ (fun G77=>zU1)⟩,⟨rfl,.run (L:=[0,1]) ⟨fun G77 A=>bJ rfl h84 rfl,fun G77 A=>bJ rfl h84 rfl,trivial⟩ (fun G77=>zU1)⟩,⟨rfl,.run (L:=[0,1]) ⟨fun G77 A=>fF 1 4 rfl rfl rfl rfl (.agg tyA42),fun G77 A=>fF 2 4 rfl rfl rfl rfl (.agg tyA42),trivial⟩ (fun G77=>zU1)⟩,⟨rfl,.run (L:=[0,1]) ⟨fun G77 A=>bJ rfl h86 rfl,fun G77 A=>bJ rfl h86 rfl,trivial⟩ (fun G77=>zU1)⟩,⟨rfl,.run (L:=[0,1,3,7]) ⟨fun G77 A=>fF 1 4 rfl rfl rfl rfl (.agg tyA42),fun G77 A=>fF 2 4 rfl rfl rfl rfl (.agg tyA42),fun G77 A=>fF 2 4 rfl rfl rfl rfl (.agg tyA42),fun G77 A=>fF 2 4 rfl rfl rfl rfl (.agg tyA42),trivial⟩ (fun G77=>zU1)⟩,⟨rfl,.run (L:=[0,1,3,7]) ⟨fun G77 A=>fF 4 4 rfl rfl rfl rfl (.agg tyA42),fun G77 A=>fF 5 4 rfl rfl rfl rfl (.agg tyA42),fun G77 A=>fF 5 4 rfl rfl rfl rfl (.agg tyA42),fun G77 A=>fF 5 4 rfl rfl rfl rfl (.agg tyA42),trivial⟩ (fun G77=>zU1)⟩,⟨rfl,.run (L:=[0,1,3,7]) ⟨fun G77 A=>gG (C:=cQ) (xs:=[.tmp 106,.tmp 108,.tmp 109,.tmp 110]) (ps:=[.va (eQ v83),.va (eQ v85),.va (eQ v71),.va (eQ v56)]) (zs:=[v83,v85,v71,v56]) rfl tyS24 rfl ⟨⟨trivial,rfl⟩,⟨trivial,rfl⟩,⟨trivial,rfl⟩,⟨trivial,rfl⟩,trivial⟩ rfl,fun G77 A=>gG (C:=cQ) (xs:=[.tmp 106,.tmp 108,.tmp 109,.tmp 110]) (ps:=[.va (eQ v83),.va (eQ v85),.va (eQ v71),.va (eQ v56)]) (zs:=[v83,v85,v71,v56]) rfl tyS24 rfl ⟨⟨trivial,rfl⟩,⟨trivial,rfl⟩,⟨trivial,rfl⟩,⟨trivial,rfl⟩,trivial⟩ rfl,fun G77 A=>gG (C:=cQ) (xs:=[.tmp 106,.tmp 108,.tmp 109,.tmp 110]) (ps:=[.va (eQ v83),.va (eQ v85),.va (eQ v71),.va (eQ v56)]) (zs:=[v83,v85,v71,v56]) rfl tyS24 rfl ⟨⟨trivial,rfl⟩,⟨trivial,rfl⟩,⟨trivial,rfl⟩,⟨trivial,rfl⟩,trivial⟩ rfl,fun G77 A=>gG (C:=cQ) (xs:=[.tmp 106,.tmp 108,.tmp 109,.tmp 110]) (ps:=[.va (eQ v83),.va (eQ v85),.va (eQ v71),.va (eQ v56)]) (zs:=[v83,v85,v71,v56]) rfl tyS24 rfl ⟨⟨trivial,rfl⟩,⟨trivial,rfl⟩,⟨trivial,rfl⟩,⟨trivial,rfl⟩,trivial⟩ rfl,trivial⟩ (fun G77=>⟨rfl,rfl,rfl,rfl,trivial⟩)⟩,⟨rfl,.run (L:=[0,1,3,7]) ⟨fun G77 A=>fF 3 4 rfl rfl rfl rfl (.agg tyA42),fun G77 A=>fF 4 4 rfl rfl rfl rfl (.agg tyA42),fun G77 A=>fF 4 4 rfl rfl rfl rfl (.agg tyA42),fun G77 A=>fF 4 4 rfl rfl rfl rfl (.agg tyA42),trivial⟩ (fun G77=>zU1)⟩,⟨rfl,.run (L:=[0,1,3,7]) ⟨fun G77 A=>fF 0 4 rfl rfl rfl rfl (.agg tyA42),fun G77 A=>fF 1 4 rfl rfl rfl rfl (.agg tyA42),fun G77 A=>fF 1 4 rfl rfl rfl rfl (.agg tyA42),fun G77 A=>fF 1 4 rfl rfl rfl rfl (.agg tyA42),trivial⟩ (fun G77=>zU1)⟩,⟨rfl,.run (L:=[0,1,3,7]) ⟨fun G77 A=>fF 0 4 rfl rfl rfl rfl (.agg tyA42),fun G77 A=>fF 1 4 rfl rfl rfl rfl (.agg tyA42),fun G77 A=>fF 1 4 rfl rfl rfl rfl (.agg tyA42),fun G77 A=>fF 1 4 rfl rfl rfl rfl (.agg tyA42),trivial⟩ (fun G77=>zU1)⟩,⟨rfl,.run (L:=[0,1,3,7]) ⟨fun G77 A=>fF 5 4 rfl rfl rfl rfl (.agg tyA42),fun G77 A=>fF 6 4 rfl rfl rfl rfl (.agg tyA42),fun G77 A=>fF 6 4 rfl rfl rfl rfl (.agg tyA42),fun G77 A=>fF 6 4 rfl rfl rfl rfl (.agg tyA42),trivial⟩ (fun G77=>zU1)⟩,⟨rfl,.run (L:=[0,1,3,7]) ⟨fun G77 A=>gG (C:=cQ) (xs:=[.tmp 112,.tmp 113,.tmp 114,.tmp 115]) (ps:=[.va (eQ v61),.va (eQ v74),.va (eQ v74),.va (eQ 0)]) (zs:=[v61,v74,v74,0]) rfl tyS24 rfl ⟨⟨trivial,rfl⟩,⟨trivial,rfl⟩,⟨trivial,rfl⟩,⟨trivial,rfl⟩,trivial⟩ rfl,fun G77 A=>gG (C:=cQ) (xs:=[.tmp 112,.tmp 113,.tmp 114,.tmp 115]) (ps:=[.va (eQ v61),.va (eQ v74),.va (eQ v74),.va (eQ 0)]) (zs:=[v61,v74,v74,0]) rfl tyS24 rfl ⟨⟨trivial,rfl⟩,⟨trivial,rfl⟩,⟨trivial,rfl⟩,⟨trivial,rfl⟩,trivial⟩ rfl,fun G77 A=>gG (C:=cQ) (xs:=[.tmp 112,.tmp 113,.tmp 114,.tmp 115]) (ps:=[.va (eQ v61),.va (eQ v74),.va (eQ v74),.va (eQ 0)]) (zs:=[v61,v74,v74,0]) rfl tyS24 rfl ⟨⟨trivial,rfl⟩,⟨trivial,rfl⟩,⟨trivial,rfl⟩,⟨trivial,rfl⟩,trivial⟩ rfl,fun G77 A=>gG (C:=cQ) (xs:=[.tmp 112,.tmp 113,.tmp 114,.tmp 115]) (ps:=[.va (eQ v61),.va (eQ v74),.va (eQ v74),.va (eQ 0)]) (zs:=[v61,v74,v74,0]) rfl tyS24 rfl ⟨⟨trivial,rfl⟩,⟨trivial,rfl⟩,⟨trivial,rfl⟩,⟨trivial,rfl⟩,trivial⟩ rfl,trivial⟩ (fun G77=>⟨rfl,rfl,rfl,rfl,trivial⟩)⟩,⟨rfl,.run (L:=[0,1,3,7]) ⟨fun G77 A=>gG (C:=(fA cQ)) (xs:=[.tmp 98,.tmp 104,.tmp 111,.tmp 116]) (ps:=[.vc (pS cQ [v71,v68,v79,0]),.vc (pS cQ [v68,v71,v81,v56]),.vc (pS cQ [v83,v85,v71,v56]),.vc (pS cQ [v61,v74,v74,0])]) (zs:=[[v71,v68,v79,0],[v68,v71,v81,v56],[v83,v85,v71,v56],[v61,v74,v74,0]]) rfl tyS23 rfl ⟨⟨trivial,rfl⟩,⟨trivial,rfl⟩,⟨trivial,rfl⟩,⟨trivial,rfl⟩,trivial⟩ rfl,fun G77 A=>gG (C:=(fA cQ)) (xs:=[.tmp 98,.tmp 104,.tmp 111,.tmp 116]) (ps:=[.vc (pS cQ [v71,v68,v79,0]),.vc (pS cQ [v68,v71,v81,v56]),.vc (pS cQ [v83,v85,v71,v56]),.vc (pS cQ [v61,v74,v74,0])]) (zs:=[[v71,v68,v79,0],[v68,v71,v81,v56],[v83,v85,v71,v56],[v61,v74,v74,0]]) rfl tyS23 rfl ⟨⟨trivial,rfl⟩,⟨trivial,rfl⟩,⟨trivial,rfl⟩,⟨trivial,rfl⟩,trivial⟩ rfl,fun G77 A=>gG (C:=(fA cQ)) (xs:=[.tmp 98,.tmp 104,.tmp 111,.tmp 116]) (ps:=[.vc (pS cQ [v71,v68,v79,0]),.vc (pS cQ [v68,v71,v81,v56]),.vc (pS cQ [v83,v85,v71,v56]),.vc (pS cQ [v61,v74,v74,0])]) (zs:=[[v71,v68,v79,0],[v68,v71,v81,v56],[v83,v85,v71,v56],[v61,v74,v74,0]]) rfl tyS23 rfl ⟨⟨trivial,rfl⟩,⟨trivial,rfl⟩,⟨trivial,rfl⟩,⟨trivial,rfl⟩,trivial⟩ rfl,fun G77 A=>gG (C:=(fA cQ)) (xs:=[.tmp 98,.tmp 104,.tmp 111,.tmp 116]) (ps:=[.vc (pS cQ [v71,v68,v79,0]),.vc (pS cQ [v68,v71,v81,v56]),.vc (pS cQ [v83,v85,v71,v56]),.vc (pS cQ [v61,v74,v74,0])]) (zs:=[[v71,v68,v79,0],[v68,v71,v81,v56],[v83,v85,v71,v56],[v61,v74,v74,0]]) rfl tyS23 rfl ⟨⟨trivial,rfl⟩,⟨trivial,rfl⟩,⟨trivial,rfl⟩,⟨trivial,rfl⟩,trivial⟩ rfl,trivial⟩ (fun G77=>⟨rfl,rfl,rfl,rfl,trivial⟩)⟩,⟨rfl,.hvy (ins:=fun _=>[]) [0] ⟨fun G77 A=>aJY (C:=cQ) (xs:=[]) (ps:=[]) (zs:=([]:List Rat)) rfl tyS24 rfl trivial rfl,trivial⟩ (fun G77=>trivial)⟩,⟨rfl,.run (L:=[0,1]) ⟨fun G77 A=>aM (.inl rfl),fun G77 A=>aM (.inl rfl),trivial⟩ (fun G77=>zU1)⟩,⟨rfl,.run (L:=[0,1]) ⟨fun G77 A=>aDP rfl tyS24 h90,fun G77 A=>aDP rfl tyS24 h90,trivial⟩ (fun G77=>⟨rfl,p6 _ _,trivial⟩)⟩,⟨rfl,.hvy (ins:=fun G77=>[(.tmp 118,.vc (pO ((G77 25).1) 0 0)),(.tmp 120,.vc (pS cQ x89))]) [1] ⟨fun G77 A=>aDE 0 rfl tyS24 rfl rfl rfl h92,trivial⟩ (fun G77=>zU2)⟩,⟨rfl,.run (L:=[0,1,3]) ⟨fun G77 A=>fF 5 4 rfl rfl rfl rfl (.agg tyA42),fun G77 A=>fF 6 4 rfl rfl rfl rfl (.agg tyA42),fun G77 A=>fF 6 4 rfl rfl rfl rfl (.agg tyA42),trivial⟩ (fun G77=>zU1)⟩,⟨rfl,.run (L:=[0,1,3]) ⟨fun G77 A=>gG (C:=cQ) (xs:=[.tmp 122]) (ps:=[.va (eQ 0)]) (zs:=[0]) rfl tyS24 rfl ⟨⟨trivial,rfl⟩,trivial⟩ rfl,fun G77 A=>gG (C:=cQ) (xs:=[.tmp 122]) (ps:=[.va (eQ 0)]) (zs:=[0]) rfl tyS24 rfl ⟨⟨trivial,rfl⟩,trivial⟩ rfl,fun G77 A=>gG (C:=cQ) (xs:=[.tmp 122]) (ps:=[.va (eQ 0)]) (zs:=[0]) rfl tyS24 rfl ⟨⟨trivial,rfl⟩,trivial⟩ rfl,trivial⟩ (fun G77=>zU1)⟩,⟨rfl,.hvy (ins:=fun G77=>[(.tmp 121,.vc (pO ((G77 28).1) (0+x89.length) ((G77 28).2))),(.tmp 123,.vc (pS cQ [0]))]) [3] ⟨fun G77 A=>aDE (n:=(0+x89.length)) 0 rfl tyS24 rfl rfl (cX h92 rfl) h95,trivial⟩ (fun G77=>zU2)⟩,d1 7 (aM (.inr rfl)) zU1,⟨rfl,.hvy [7] ⟨fun G77 A=>aHv ((G77 31).1) ((G77 31).2) (aM (.inr rfl)),trivial⟩ (fun G77=>zU1)⟩,trivial⟩ (fun bs78 G77=>?_)
    refine aU (aH (fY (fZ (tC 0 [5] rfl (cX h95 (cX h92 rfl)) zU1 rfl ?_))))
    obtain rfl:=iD hF
    exact jL (.inl rfl) Tryz.results10 (.tmp rfl (.tmp rfl .nil)) rfl rfl
   refine fN (aH (aD (aI (qE (fA cQ) 24 rfl ?_))))
   refine go ?_ ?_
   refine aJ (aX (fun H E=>∃(x119:List (List Rat)),∃(b120:Option Nat),∃(c121:Nat),∃(n122:Nat),lJ K x37 x119=some r∧x119.length=n122∧H=[hO (fA cQ) b120 c121 24 n122 x119,hO cQ b38 c39 42 n40 x37]∧E=[(9,.vc (pO b38 n40 c39)),(19,.vc (pO b120 n122 c121))]) ?_ (fun Jj126=>?_))
   ·rintro _ _ ⟨x119,b120,c121,n122,hF,q123,rfl,rfl⟩
    unfold lJ at hF
    refine go ?_ ?_
    refine fY (fZ (tC 0 [4,19,162] rfl q123 ⟨rfl,rfl,rfl,trivial⟩ rfl ?_))
    refine tC 0 [5,9,163] rfl q41 ⟨rfl,rfl,rfl,trivial⟩ rfl ?_
    obtain rfl:=iD hF
    exact jL (.inl rfl) Tryz.results10 (.tmp rfl (.tmp rfl .nil)) rfl rfl
   obtain⟨x119',hL,hRl125⟩:=aP hF
   refine dQ (fun k a w=>∃(x112:List (List Rat)),∃(x118:Int),∃(b113:Option Nat),∃(c114:Nat),∃(n115:Nat),cN K v3 v5 x43 k x112 x118=some x119'∧x112.length=n115∧hs _ [hO (fA cQ) b113 c114 24 n115 x112,hO cQ b38 c39 42 n40 x37,hO (fA cQ) b44 c45 24 n46 x43] [(6,.vc (pI .i64 v3)),(7,.vc (pI .i64 v5)),(8,.vc (pO b44 n46 c45)),(9,.vc (pO b38 n40 c39)),(19,.vc (pO b113 n115 c114)),(20,.vc (pI .i64 x118))] a w) K (fun a w ⟨_,_,_,_,_,hF,_,_⟩=>by cases hF) (fun k a w ⟨x112,x118,b113,c114,n115,hF,q116,hh⟩=>dP ?_ hh) (fun a w hh=>⟨([]:List (List Rat)),0,none,0,0,hL,rfl,iF [0,1,2] hh⟩)
   rw [cN.eq_2] at hF
   refine go ?_ ?_
   refine aE hF rfl (fun h127 hF=>?_) (fun h127 hF=>?_)
   ·refine go ?_ ?_
    refine aJ (aD (aI (qE cQ 42 rfl ?_)))
    refine go ?_ ?_
    refine aJ (aX (fun H E=>∃(x144:List Rat),∃(b145:Option Nat),∃(c146:Nat),∃(n147:Nat),lK K v5 x112 x118 (cN K v3 v5 x43 k) x144=some x119'∧x144.length=n147∧H=[hO cQ b145 c146 42 n147 x144,hO (fA cQ) b113 c114 24 n115 x112,hO cQ b38 c39 42 n40 x37,hO (fA cQ) b44 c45 24 n46 x43]∧E=[(6,.vc (pI .i64 v3)),(7,.vc (pI .i64 v5)),(8,.vc (pO b44 n46 c45)),(9,.vc (pO b38 n40 c39)),(19,.vc (pO b113 n115 c114)),(20,.vc (pI .i64 x118)),(21,.vc (pO b145 n147 c146))]) ?_ (fun Jj151=>?_))
    ·rintro _ _ ⟨x144,b145,c146,n147,hF,q148,rfl,rfl⟩
     unfold lK at hF
     refine go ?_ ?_
     refine aE hF rfl (fun h152 hF=>?_) (fun h152 hF=>?_)
     ·obtain⟨v155,h156,hF⟩:=aP hF
      obtain⟨v157,h158,hF⟩:=bC hF dK
      obtain⟨v159,h160,hF⟩:=bC hF vC
      have hF:=tX h156 hF
      refine dr [0,0,0,0,12,28,0,124,255,511] 9 1 ?_ (fun bs154 G153=>?_)
      obtain⟨x163,h164,hF⟩:=aP hF
      refine kY (xM 0 rfl rfl h156 h164 tyA42.s) zU2 ?_
      refine aU (aH (aI (fI ?_)))
      refine fI ?_
      refine vX 0 [21,149,151,159] rfl (bG h164 q148) ⟨rfl,rfl,rfl,rfl,trivial⟩ rfl ?_
      refine aG (gG (C:=(fA cQ)) (xs:=[.tmp 159]) (ps:=[.vc (pS cQ x163)]) (zs:=[x163]) rfl tyS23 rfl ⟨⟨trivial,rfl⟩,trivial⟩ rfl) zU1 ?_
      obtain⟨x166,h167,hF⟩:=aP hF
      refine mN 0 rfl tyS23 rfl rfl q116 rfl rfl h167 (fun b168 c169 H170 e171=>?_)
      cases e171
      obtain⟨v173,h174,hF⟩:=aP hF
      refine go ?_ ?_
      exact aF (fun a w hh=>⟨x166,v173,b168,c169,(n115+[x163].length),hF,(cX h167 q116),iF [0,1,2] hh⟩)
     refine fN (aH (aI (fI ?_)))
     refine fI ?_
     refine vX 0 [21,159] rfl q148 zU2 rfl ?_
     refine aG (gG (C:=(fA cQ)) (xs:=[.tmp 159]) (ps:=[.vc (pS cQ x144)]) (zs:=[x144]) rfl tyS23 rfl ⟨⟨trivial,rfl⟩,trivial⟩ rfl) zU1 ?_
     obtain⟨x175,h176,hF⟩:=aP hF
     refine mN 0 rfl tyS23 rfl rfl q116 rfl rfl h176 (fun b177 c178 H179 e180=>?_)
     cases e180
     obtain⟨v182,h183,hF⟩:=aP hF
     refine go ?_ ?_
     exact aF (fun a w hh=>⟨x175,v182,b177,c178,(n115+[x144].length),hF,(cX h176 q116),iF [0,1,2] hh⟩)
    obtain⟨x144',hL,hRl150⟩:=aP hF
    refine dQ (fun k a w=>∃(x137:List Rat),∃(x143:Int),∃(b138:Option Nat),∃(c139:Nat),∃(n140:Nat),eR K v3 x43 x118 k x137 x143=some x144'∧x137.length=n140∧hs _ [hO cQ b138 c139 42 n140 x137,hO (fA cQ) b113 c114 24 n115 x112,hO cQ b38 c39 42 n40 x37,hO (fA cQ) b44 c45 24 n46 x43] [(6,.vc (pI .i64 v3)),(7,.vc (pI .i64 v5)),(8,.vc (pO b44 n46 c45)),(9,.vc (pO b38 n40 c39)),(19,.vc (pO b113 n115 c114)),(20,.vc (pI .i64 x118)),(21,.vc (pO b138 n140 c139)),(22,.vc (pI .i64 x143))] a w) K (fun a w ⟨_,_,_,_,_,hF,_,_⟩=>by cases hF) (fun k a w ⟨x137,x143,b138,c139,n140,hF,q141,hh⟩=>dP ?_ hh) (fun a w hh=>⟨([]:List Rat),0,none,0,0,hL,rfl,iF [0,1,2,3] hh⟩)
    rw [eR.eq_2] at hF
    refine go ?_ ?_
    refine aE hF rfl (fun h184 hF=>?_) (fun h184 hF=>?_)
    ·refine go ?_ ?_
     refine aJ ?_
     obtain⟨v187,h188,hF⟩:=aP hF
     obtain⟨v189,h190,hF⟩:=aP hF
     obtain⟨v191,h192,hF⟩:=bC hF yS
     refine iV [0,0,0,6,14,0,0,96,224,510,1022,2047,4095] 11 2 [.v (.vc (pO b138 n140 c139)),.v (.vc (pO b44 n46 c45)),.v (.vc (pI .i64 x118)),.v (.vc (pE b44 x118 (fA cQ).n 0)),.v (.vc (pS cQ v187)),.v (.vc (pO b44 n46 c45)),.v (.vc (pI .i64 x143)),.v (.vc (pE b44 x143 (fA cQ).n 0)),.v (.vc (pS cQ v189)),.v (.va (eQ v191)),.v (.vc (pS cQ [v191]))] aY ⟨d0 (aM (.inl rfl)) zU1,d0 (aM (.inl rfl)) zU1,d0 (aM (.inl rfl)) zU1,d0 (d7 (C:=(fA cQ)) 3 rfl tyS23 rfl q47 (aC h188).1 (aC h188).2.1) zU2,d0 (iC (k:=1) 3 rfl rfl h188 rfl (.one tyO24) rfl) zU1,d0 (aM (.inl rfl)) zU1,d0 (aM (.inl rfl)) zU1,d0 (d7 (C:=(fA cQ)) 3 rfl tyS23 rfl q47 (aC h190).1 (aC h190).2.1) zU2,d0 (iC (k:=1) 3 rfl rfl h190 rfl (.one tyO24) rfl) zU1,d0 (bJ rfl h192 rfl) zU2,d0 (gG (C:=cQ) (xs:=[.tmp 144]) (ps:=[.va (eQ v191)]) (zs:=[v191]) rfl tyS24 rfl ⟨⟨trivial,rfl⟩,trivial⟩ rfl) zU1,trivial⟩ (fun bs186 G185=>?_)
     obtain⟨x193,h194,hF⟩:=aP hF
     refine mN 0 rfl tyS24 rfl rfl q141 rfl rfl h194 (fun b195 c196 H197 e198=>?_)
     cases e198
     obtain⟨v200,h201,hF⟩:=aP hF
     refine go ?_ ?_
     exact aF (fun a w hh=>⟨x193,v200,b195,c196,(n140+[v191].length),hF,(cX h194 q141),iF [0,1,2,3] hh⟩)
    refine bH ?_
    obtain rfl:=iD hF
    exact rO Jj151 ⟨x137,b138,c139,n140,hRl150,q141,rfl,rfl⟩ [0,1,2,3]
   refine bH ?_
   obtain rfl:=iD hF
   exact rO Jj126 ⟨x112,b113,c114,n115,hRl125,q116,rfl,rfl⟩ [0,1]
  refine go ?_ ?_
  refine vM rfl ?_
  refine fN (aH (aD (aI (qE (fA cQ) 24 rfl ?_))))
  refine go ?_ ?_
  refine aJ (aX (fun H E=>∃(x218:List (List Rat)),∃(b219:Option Nat),∃(c220:Nat),∃(n221:Nat),lQ K x37 x218=some r∧x218.length=n221∧H=[hO (fA cQ) b219 c220 24 n221 x218,hO cQ b38 c39 42 n40 x37]∧E=[(9,.vc (pO b38 n40 c39)),(19,.vc (pO b219 n221 c220))]) ?_ (fun Jj225=>?_))
  ·rintro _ _ ⟨x218,b219,c220,n221,hF,q222,rfl,rfl⟩
   unfold lQ at hF
   refine go ?_ ?_
   refine fY (fZ (tC 0 [4,19,162] rfl q222 ⟨rfl,rfl,rfl,trivial⟩ rfl ?_))
   refine tC 0 [5,9,163] rfl q41 ⟨rfl,rfl,rfl,trivial⟩ rfl ?_
   obtain rfl:=iD hF
   exact jL (.inl rfl) Tryz.results10 (.tmp rfl (.tmp rfl .nil)) rfl rfl
  obtain⟨x218',hL,hRl224⟩:=aP hF
  refine dQ (fun k a w=>∃(x211:List (List Rat)),∃(x217:Int),∃(b212:Option Nat),∃(c213:Nat),∃(n214:Nat),cK K v3 v5 x43 k x211 x217=some x218'∧x211.length=n214∧hs _ [hO (fA cQ) b212 c213 24 n214 x211,hO cQ b38 c39 42 n40 x37,hO (fA cQ) b44 c45 24 n46 x43] [(6,.vc (pI .i64 v3)),(7,.vc (pI .i64 v5)),(8,.vc (pO b44 n46 c45)),(9,.vc (pO b38 n40 c39)),(19,.vc (pO b212 n214 c213)),(20,.vc (pI .i64 x217))] a w) K (fun a w ⟨_,_,_,_,_,hF,_,_⟩=>by cases hF) (fun k a w ⟨x211,x217,b212,c213,n214,hF,q215,hh⟩=>dP ?_ hh) (fun a w hh=>⟨([]:List (List Rat)),0,none,0,0,hL,rfl,iF [0,1,2] hh⟩)
  rw [cK.eq_2] at hF
  refine go ?_ ?_
  refine aE hF rfl (fun h226 hF=>?_) (fun h226 hF=>?_)
  ·refine go ?_ ?_
   refine aJ (aD (aI (qE cQ 42 rfl ?_)))
   refine go ?_ ?_
   refine aJ (aX (fun H E=>∃(x243:List Rat),∃(b244:Option Nat),∃(c245:Nat),∃(n246:Nat),lN K v5 x211 x217 (cK K v3 v5 x43 k) x243=some x218'∧x243.length=n246∧H=[hO cQ b244 c245 42 n246 x243,hO (fA cQ) b212 c213 24 n214 x211,hO cQ b38 c39 42 n40 x37,hO (fA cQ) b44 c45 24 n46 x43]∧E=[(6,.vc (pI .i64 v3)),(7,.vc (pI .i64 v5)),(8,.vc (pO b44 n46 c45)),(9,.vc (pO b38 n40 c39)),(19,.vc (pO b212 n214 c213)),(20,.vc (pI .i64 x217)),(21,.vc (pO b244 n246 c245))]) ?_ (fun Jj250=>?_))
   ·rintro _ _ ⟨x243,b244,c245,n246,hF,q247,rfl,rfl⟩
    unfold lN at hF
    refine go ?_ ?_
    refine aE hF rfl (fun h251 hF=>?_) (fun h251 hF=>?_)
    ·obtain⟨v254,h255,hF⟩:=aP hF
     obtain⟨v256,h257,hF⟩:=bC hF dK
     obtain⟨v258,h259,hF⟩:=bC hF vC
     have hF:=tX h255 hF
     refine dr [0,0,0,0,12,28,0,124,255,511] 9 1 ?_ (fun bs253 G252=>?_)
     obtain⟨x262,h263,hF⟩:=aP hF
     refine kY (xM 0 rfl rfl h255 h263 tyA42.s) zU2 ?_
     refine aU (aH (aI (fI ?_)))
     refine fI ?_
     refine vX 0 [21,149,151,159] rfl (bG h263 q247) ⟨rfl,rfl,rfl,rfl,trivial⟩ rfl ?_
     refine aG (gG (C:=(fA cQ)) (xs:=[.tmp 159]) (ps:=[.vc (pS cQ x262)]) (zs:=[x262]) rfl tyS23 rfl ⟨⟨trivial,rfl⟩,trivial⟩ rfl) zU1 ?_
     obtain⟨x265,h266,hF⟩:=aP hF
     refine mN 0 rfl tyS23 rfl rfl q215 rfl rfl h266 (fun b267 c268 H269 e270=>?_)
     cases e270
     obtain⟨v272,h273,hF⟩:=aP hF
     refine go ?_ ?_
     exact aF (fun a w hh=>⟨x265,v272,b267,c268,(n214+[x262].length),hF,(cX h266 q215),iF [0,1,2] hh⟩)
    refine fN (aH (aI (fI ?_)))
    refine fI ?_
    refine vX 0 [21,159] rfl q247 zU2 rfl ?_
    refine aG (gG (C:=(fA cQ)) (xs:=[.tmp 159]) (ps:=[.vc (pS cQ x243)]) (zs:=[x243]) rfl tyS23 rfl ⟨⟨trivial,rfl⟩,trivial⟩ rfl) zU1 ?_
    obtain⟨x274,h275,hF⟩:=aP hF
    refine mN 0 rfl tyS23 rfl rfl q215 rfl rfl h275 (fun b276 c277 H278 e279=>?_)
    cases e279
    obtain⟨v281,h282,hF⟩:=aP hF
    refine go ?_ ?_
    exact aF (fun a w hh=>⟨x274,v281,b276,c277,(n214+[x243].length),hF,(cX h275 q215),iF [0,1,2] hh⟩)
   obtain⟨x243',hL,hRl249⟩:=aP hF
   refine dQ (fun k a w=>∃(x236:List Rat),∃(x242:Int),∃(b237:Option Nat),∃(c238:Nat),∃(n239:Nat),eH K v3 x43 x217 k x236 x242=some x243'∧x236.length=n239∧hs _ [hO cQ b237 c238 42 n239 x236,hO (fA cQ) b212 c213 24 n214 x211,hO cQ b38 c39 42 n40 x37,hO (fA cQ) b44 c45 24 n46 x43] [(6,.vc (pI .i64 v3)),(7,.vc (pI .i64 v5)),(8,.vc (pO b44 n46 c45)),(9,.vc (pO b38 n40 c39)),(19,.vc (pO b212 n214 c213)),(20,.vc (pI .i64 x217)),(21,.vc (pO b237 n239 c238)),(22,.vc (pI .i64 x242))] a w) K (fun a w ⟨_,_,_,_,_,hF,_,_⟩=>by cases hF) (fun k a w ⟨x236,x242,b237,c238,n239,hF,q240,hh⟩=>dP ?_ hh) (fun a w hh=>⟨([]:List Rat),0,none,0,0,hL,rfl,iF [0,1,2,3] hh⟩)
   rw [eH.eq_2] at hF
   refine go ?_ ?_
   refine aE hF rfl (fun h283 hF=>?_) (fun h283 hF=>?_)
   ·refine go ?_ ?_
    refine aJ ?_
    obtain⟨v286,h287,hF⟩:=aP hF
    obtain⟨v288,h289,hF⟩:=aP hF
    obtain⟨v290,h291,hF⟩:=bC hF yS
    refine iV [0,0,0,6,14,0,0,96,224,510,1022,2047,4095] 11 2 [.v (.vc (pO b237 n239 c238)),.v (.vc (pO b44 n46 c45)),.v (.vc (pI .i64 x217)),.v (.vc (pE b44 x217 (fA cQ).n 0)),.v (.vc (pS cQ v286)),.v (.vc (pO b44 n46 c45)),.v (.vc (pI .i64 x242)),.v (.vc (pE b44 x242 (fA cQ).n 0)),.v (.vc (pS cQ v288)),.v (.va (eQ v290)),.v (.vc (pS cQ [v290]))] aY ⟨d0 (aM (.inl rfl)) zU1,d0 (aM (.inl rfl)) zU1,d0 (aM (.inl rfl)) zU1,d0 (d7 (C:=(fA cQ)) 3 rfl tyS23 rfl q47 (aC h287).1 (aC h287).2.1) zU2,d0 (iC (k:=1) 3 rfl rfl h287 rfl (.one tyO24) rfl) zU1,d0 (aM (.inl rfl)) zU1,d0 (aM (.inl rfl)) zU1,d0 (d7 (C:=(fA cQ)) 3 rfl tyS23 rfl q47 (aC h289).1 (aC h289).2.1) zU2,d0 (iC (k:=1) 3 rfl rfl h289 rfl (.one tyO24) rfl) zU1,d0 (bJ rfl h291 rfl) zU2,d0 (gG (C:=cQ) (xs:=[.tmp 144]) (ps:=[.va (eQ v290)]) (zs:=[v290]) rfl tyS24 rfl ⟨⟨trivial,rfl⟩,trivial⟩ rfl) zU1,trivial⟩ (fun bs285 G284=>?_)
    obtain⟨x292,h293,hF⟩:=aP hF
    refine mN 0 rfl tyS24 rfl rfl q240 rfl rfl h293 (fun b294 c295 H296 e297=>?_)
    cases e297
    obtain⟨v299,h300,hF⟩:=aP hF
    refine go ?_ ?_
    exact aF (fun a w hh=>⟨x292,v299,b294,c295,(n239+[v290].length),hF,(cX h293 q240),iF [0,1,2,3] hh⟩)
   refine bH ?_
   obtain rfl:=iD hF
   exact rO Jj250 ⟨x236,b237,c238,n239,hRl249,q240,rfl,rfl⟩ [0,1,2,3]
  refine bH ?_
  obtain rfl:=iD hF
  exact rO Jj225 ⟨x211,b212,c213,n214,hRl224,q215,rfl,rfl⟩ [0,1]
 obtain⟨⟨x37',x43'⟩,hL,hRl49⟩:=aP hF
 refine dQ (fun k a w=>∃(x24:List Rat),∃(x30:List (List Rat)),∃(x36:Int),∃(b25:Option Nat),∃(c26:Nat),∃(n27:Nat),∃(b31:Option Nat),∃(c32:Nat),∃(n33:Nat),dO K a0 v3 k x24 x30 x36=some (x37',x43')∧x24.length=n27∧x30.length=n33∧hs _ [hO cQ b25 c26 42 n27 x24,hO (fA cQ) b31 c32 24 n33 x30] [(0,.vc (pS cI a0)),(6,.vc (pI .i64 v3)),(7,.vc (pI .i64 v5)),(8,.vc (pO b31 n33 c32)),(9,.vc (pO b25 n27 c26)),(10,.vc (pI .i64 x36))] a w) K (fun a w ⟨_,_,_,_,_,_,_,_,_,hF,_,_,_⟩=>by cases hF) (fun k a w ⟨x24,x30,x36,b25,c26,n27,b31,c32,n33,hF,q28,q34,hh⟩=>dP ?_ hh) (fun a w hh=>⟨([]:List Rat),([]:List (List Rat)),0,none,0,0,none,0,0,hL,rfl,rfl,iF [0,1] hh⟩)
 rw [dO.eq_2] at hF
 refine go ?_ ?_
 refine aE hF rfl (fun h301 hF=>?_) (fun h301 hF=>?_)
 ·refine go ?_ ?_
  refine aJ (aD (aI (qE cQ 42 rfl ?_)))
  refine go ?_ ?_
  refine aJ (aX (fun H E=>∃(x318:List Rat),∃(b319:Option Nat),∃(c320:Nat),∃(n321:Nat),lL K a0 x24 x30 x36 (dO K a0 v3 k) x318=some (x37',x43')∧x318.length=n321∧H=[hO cQ b319 c320 42 n321 x318,hO cQ b25 c26 42 n27 x24,hO (fA cQ) b31 c32 24 n33 x30]∧E=[(0,.vc (pS cI a0)),(6,.vc (pI .i64 v3)),(7,.vc (pI .i64 v5)),(8,.vc (pO b31 n33 c32)),(9,.vc (pO b25 n27 c26)),(10,.vc (pI .i64 x36)),(11,.vc (pO b319 n321 c320))]) ?_ (fun Jj325=>?_))
  ·rintro _ _ ⟨x318,b319,c320,n321,hF,q322,rfl,rfl⟩
   unfold lL at hF
   refine aH (aD (aI (fI ?_)))
   refine fI ?_
   refine vX 0 [11,51] rfl q322 zU2 rfl ?_
   refine aG (gG (C:=(fA cQ)) (xs:=[.tmp 51]) (ps:=[.vc (pS cQ x318)]) (zs:=[x318]) rfl tyS23 rfl ⟨⟨trivial,rfl⟩,trivial⟩ rfl) zU1 ?_
   obtain⟨x326,h327,hF⟩:=aP hF
   refine mN 1 rfl tyS23 rfl rfl q34 rfl rfl h327 (fun b328 c329 H330 e331=>?_)
   cases e331
   obtain⟨v333,h334,hF⟩:=aP hF
   obtain⟨v335,h336,hF⟩:=bC hF lO
   obtain⟨v337,h338,v339,h340,hF⟩:=tY hF
   obtain⟨v341,h342,hF⟩:=bC hF lO
   obtain⟨v343,h344,hF⟩:=aP hF
   obtain⟨v345,h346,hF⟩:=bC hF dK
   refine go ?_ ?_
   refine aG (gG (C:=cQ) (xs:=[.tmp 65]) (ps:=[.va (eQ v345)]) (zs:=[v345]) rfl tyS24 rfl ⟨⟨trivial,rfl⟩,trivial⟩ rfl) zU1 ?_
   obtain⟨x347,h348,hF⟩:=aP hF
   refine mN 0 rfl tyS24 rfl rfl q28 rfl rfl h348 (fun b349 c350 H351 e352=>?_)
   cases e352
   obtain⟨v354,h355,hF⟩:=aP hF
   refine go ?_ ?_
   exact aF (fun a w hh=>⟨x347,x326,v354,b349,c350,(n27+[v345].length),b328,c329,(n33+[x318].length),hF,(cX h348 q28),(cX h327 q34),iF [0,1] hh⟩)
  obtain⟨x318',hL,hRl324⟩:=aP hF
  refine dQ (fun k a w=>∃(x311:List Rat),∃(x317:Int),∃(b312:Option Nat),∃(c313:Nat),∃(n314:Nat),eJ K a0 v3 x36 k x311 x317=some x318'∧x311.length=n314∧hs _ [hO cQ b312 c313 42 n314 x311,hO cQ b25 c26 42 n27 x24,hO (fA cQ) b31 c32 24 n33 x30] [(0,.vc (pS cI a0)),(6,.vc (pI .i64 v3)),(7,.vc (pI .i64 v5)),(8,.vc (pO b31 n33 c32)),(9,.vc (pO b25 n27 c26)),(10,.vc (pI .i64 x36)),(11,.vc (pO b312 n314 c313)),(12,.vc (pI .i64 x317))] a w) K (fun a w ⟨_,_,_,_,_,hF,_,_⟩=>by cases hF) (fun k a w ⟨x311,x317,b312,c313,n314,hF,q315,hh⟩=>dP ?_ hh) (fun a w hh=>⟨([]:List Rat),0,none,0,0,hL,rfl,iF [0,1,2] hh⟩)
  rw [eJ.eq_2] at hF
  refine go ?_ ?_
  refine aE hF rfl (fun h356 hF=>?_) (fun h356 hF=>?_)
  ·refine go ?_ ?_
   refine aJ ?_
   obtain⟨v357,h358,v359,h360,v361,h362,hF⟩:=bn3 hF
   obtain⟨v363,h364,hF⟩:=bC hF lO
   obtain⟨v365,h366,hF⟩:=bC hF aA6
   refine go ?_ ?_
   refine aG (gG (C:=cQ) (xs:=[.tmp 47]) (ps:=[.va (eQ v365)]) (zs:=[v365]) rfl tyS24 rfl ⟨⟨trivial,rfl⟩,trivial⟩ rfl) zU1 ?_
   obtain⟨x367,h368,hF⟩:=aP hF
   refine mN 0 rfl tyS24 rfl rfl q315 rfl rfl h368 (fun b369 c370 H371 e372=>?_)
   cases e372
   obtain⟨v374,h375,hF⟩:=aP hF
   refine go ?_ ?_
   exact aF (fun a w hh=>⟨x367,v374,b369,c370,(n314+[v365].length),hF,(cX h368 q315),iF [0,1,2] hh⟩)
  refine bH ?_
  obtain rfl:=iD hF
  exact rO Jj325 ⟨x311,b312,c313,n314,hRl324,q315,rfl,rfl⟩ [0,1,2]
 refine bH ?_
 obtain⟨rfl,rfl⟩:=sm2 hF
 exact rO Jj50 ⟨x24,x30,b25,c26,n27,b31,c32,n33,hRl49,q28,q34,rfl,rfl⟩ [0,1]
def qO (K:Nat):Option Bool:=
 some true
def jJ (K:Nat) (a0:List Rat):Nat→Int→Option (LR Bool Unit)
 |0,_=>none
 |k+1,x2=>bif(decide (x2<(a0.length:Int))) then((bK a0 x2).bind fun v6=>(aLD v6).bind fun v9=>bif(!v9) then(some (.ret false)) else((aQ (x2+1)).bind fun v12=>jJ K a0 k v12)) else(some (.go ()))
def kB (K:Nat) (a0:List Rat):Option Bool:=
 (jJ K a0 K 0).bind fun o=>match o with| .ret r=>some r| .go _=>qO K
theorem sO {K:Nat} {a0:List Rat} {r:Bool} (hF:kB K a0=some r):Ct Tryz.prog 56 [.vc (pS cQ a0)] (.vc (pB r)):=by
 unfold kB at hF
 refine aA Tryz.func56 rfl (by kernel_rfl) Tryz.ntmps56 rfl (fun w0 M0=>?_)
 refine go ?_ ?_
 refine aJ (aX (fun H E=>qO K=some r∧H=[]∧E=[]) ?_ (fun Jj4=>?_))
 ·rintro _ _ ⟨hF,rfl,rfl⟩
  unfold qO at hF
  exact bQ
 obtain⟨ol3,hL,hRl3⟩:=aP hF
 refine dQ (fun k a w=>∃(x2:Int),jJ K a0 k x2=some ol3∧hs _ [] [(5,.vc (pS cQ a0)),(6,.vc (pI .i64 (a0.length:Int))),(7,.vc (pI .i64 x2))] a w) K (fun a w ⟨_,hF,_⟩=>by cases hF) (fun k a w ⟨x2,hF,hh⟩=>dP ?_ hh) (fun a w hh=>⟨0,hL,iF [] hh⟩)
 rw [jJ.eq_2] at hF
 refine go ?_ ?_
 refine aE hF rfl (fun h5 hF=>?_) (fun h5 hF=>?_)
 ·refine go ?_ ?_
  refine aJ ?_
  obtain⟨v6,h7,hF⟩:=aP hF
  refine go ?_ ?_
  refine aK rfl tyZ42q (fun b8=>?_)
  obtain⟨v9,h10,hF⟩:=bC hF aHd
  refine go ?_ ?_
  refine aE hF rfl (fun h11 hF=>?_) (fun h11 hF=>?_)
  ·exact bQ
  obtain⟨v12,h13,hF⟩:=aP hF
  refine go ?_ ?_
  exact aF (fun a w hh=>⟨v12,hF,iF [] hh⟩)
 refine bH ?_
 obtain rfl:=iD hF
 exact rO Jj4 ⟨hRl3,rfl,rfl⟩ []
def pW (K:Nat):Option Bool:=
 some true
def iP (K:Nat) (a0:List (List Rat)) (a1:List Rat):Nat→Int→Option (LR Bool Unit)
 |0,_=>none
 |k+1,x7=>bif(decide (x7<(a0.length:Int))) then((bK a0 x7).bind fun v11=>bif((v11.length:Int) != (a1.length:Int)) then(some (.ret false)) else((kB K v11).bind fun v14=>bif(!v14) then(some (.ret false)) else((aQ (x7+1)).bind fun v17=>iP K a0 a1 k v17))) else(some (.go ()))
def iA (K:Nat) (a0:List (List Rat)) (a1:List Rat):Option Bool:=
 bif((a0.length:Int) != (a1.length:Int)) then(some false) else(bif(decide (32<(a0.length:Int))) then(some false) else((kB K a1).bind fun v3=>bif(!v3) then(some false) else((iP K a0 a1 K 0).bind fun o=>match o with| .ret r=>some r| .go _=>pW K)))
theorem oI {K:Nat} {a0:List (List Rat)} {a1:List Rat} {r:Bool} (hF:iA K a0 a1=some r):Ct Tryz.prog 43 [.vc (pS (fA cQ) a0),.vc (pS cQ a1)] (.vc (pB r)):=by
 unfold iA at hF
 refine aA Tryz.func43 rfl (by kernel_rfl) Tryz.ntmps43 rfl (fun w0 M0=>?_)
 refine go ?_ ?_
 refine dV hF (fun h1 hF=>?_) (fun h1 hF=>?_)
 ·refine go ?_ ?_
  refine jS rfl ?_
  exact bQ
 refine go ?_ ?_
 refine dV hF (fun h2 hF=>?_) (fun h2 hF=>?_)
 ·refine go ?_ ?_
  refine jS rfl ?_
  exact bQ
 obtain⟨v3,h4,hF⟩:=bC hF sO
 refine go ?_ ?_
 refine aE hF rfl (fun h5 hF=>?_) (fun h5 hF=>?_)
 ·exact bQ
 refine go ?_ ?_
 refine aJ (aX (fun H E=>pW K=some r∧H=[]∧E=[]) ?_ (fun Jj9=>?_))
 ·rintro _ _ ⟨hF,rfl,rfl⟩
  unfold pW at hF
  exact bQ
 obtain⟨ol8,hL,hRl8⟩:=aP hF
 refine dQ (fun k a w=>∃(x7:Int),iP K a0 a1 k x7=some ol8∧hs _ [] [(1,.vc (pS cQ a1)),(22,.vc (pS (fA cQ) a0)),(23,.vc (pI .i64 (a0.length:Int))),(24,.vc (pI .i64 x7))] a w) K (fun a w ⟨_,hF,_⟩=>by cases hF) (fun k a w ⟨x7,hF,hh⟩=>dP ?_ hh) (fun a w hh=>⟨0,hL,iF [] hh⟩)
 rw [iP.eq_2] at hF
 refine go ?_ ?_
 refine aE hF rfl (fun h10 hF=>?_) (fun h10 hF=>?_)
 ·refine go ?_ ?_
  refine aJ ?_
  obtain⟨v11,h12,hF⟩:=aP hF
  refine go ?_ ?_
  refine dV hF (fun h13 hF=>?_) (fun h13 hF=>?_)
  ·refine go ?_ ?_
   refine jS rfl ?_
   exact bQ
  obtain⟨v14,h15,hF⟩:=bC hF sO
  refine go ?_ ?_
  refine aE hF rfl (fun h16 hF=>?_) (fun h16 hF=>?_)
  ·exact bQ
  obtain⟨v17,h18,hF⟩:=aP hF
  refine go ?_ ?_
  exact aF (fun a w hh=>⟨v17,hF,iF [] hh⟩)
 refine bH ?_
 obtain rfl:=iD hF
 exact rO Jj9 ⟨hRl8,rfl,rfl⟩ []
def m8 (K:Nat):Option Bool:=
 some false
def fV (K:Nat) (a0:List Rat):Nat→Int→Option (LR Bool Unit)
 |0,_=>none
 |k+1,x2=>bif(decide (x2<(a0.length:Int))) then((bK a0 x2).bind fun v6=>(xP v6).bind fun v9=>bif(decide (v9<0)) then(some (.ret true)) else((aQ (x2+1)).bind fun v12=>fV K a0 k v12)) else(some (.go ()))
def gC (K:Nat) (a0:List Rat):Option Bool:=
 (fV K a0 K 0).bind fun o=>match o with| .ret r=>some r| .go _=>m8 K
theorem oU {K:Nat} {a0:List Rat} {r:Bool} (hF:gC K a0=some r):Ct Tryz.prog 45 [.vc (pS cQ a0)] (.vc (pB r)):=by
 unfold gC at hF
 refine aA Tryz.func45 rfl (by kernel_rfl) Tryz.ntmps45 rfl (fun w0 M0=>?_)
 refine go ?_ ?_
 refine aJ (aX (fun H E=>m8 K=some r∧H=[]∧E=[]) ?_ (fun Jj4=>?_))
 ·rintro _ _ ⟨hF,rfl,rfl⟩
  unfold m8 at hF
  exact bQ
 obtain⟨ol3,hL,hRl3⟩:=aP hF
 refine dQ (fun k a w=>∃(x2:Int),fV K a0 k x2=some ol3∧hs _ [] [(5,.vc (pS cQ a0)),(6,.vc (pI .i64 (a0.length:Int))),(7,.vc (pI .i64 x2))] a w) K (fun a w ⟨_,hF,_⟩=>by cases hF) (fun k a w ⟨x2,hF,hh⟩=>dP ?_ hh) (fun a w hh=>⟨0,hL,iF [] hh⟩)
 rw [fV.eq_2] at hF
 refine go ?_ ?_
 refine aE hF rfl (fun h5 hF=>?_) (fun h5 hF=>?_)
 ·refine go ?_ ?_
  refine aJ ?_
  obtain⟨v6,h7,hF⟩:=aP hF
  refine go ?_ ?_
  refine aK rfl tyZ42q (fun b8=>?_)
  obtain⟨v9,h10,hF⟩:=bC hF d8
  refine go ?_ ?_
  refine aE hF rfl (fun h11 hF=>?_) (fun h11 hF=>?_)
  ·exact bQ
  obtain⟨v12,h13,hF⟩:=aP hF
  refine go ?_ ?_
  exact aF (fun a w hh=>⟨v12,hF,iF [] hh⟩)
 refine bH ?_
 obtain rfl:=iD hF
 exact rO Jj4 ⟨hRl3,rfl,rfl⟩ []
def mB (K:Nat) (a1:List Rat) (x59:List Int) (x65:List Nat) (x71:List (List Rat)):Option (Int×(List Nat)×(List Int)×(List (List Rat))):=
 some ((a1.length:Int),x65,x59,x71)
def lM (K:Nat) (a1:List Rat) (x40:List Int) (x46:List Nat) (x52:List (List Rat)) (x58:Int) (recl77:(List Int)→(List Nat)→(List (List Rat))→Int→Option ((List Int)×(List Nat)×(List (List Rat)))) (x110:List Rat):Option ((List Int)×(List Nat)×(List (List Rat))):=
 (aQ (2*(a1.length:Int))).bind fun v118=>(qof (-1) 1).bind fun v120=>(bK x110 v118).bind fun v122=>(pN x110 v118 v120).bind fun x124=>(aQ (2*(a1.length:Int))).bind fun v127=>(aQ (v127+1)).bind fun v129=>(bK a1 x58).bind fun v131=>(bK x124 v129).bind fun v133=>(pN x124 v129 v131).bind fun x135=>(rM x46 [x52.length]).bind fun x139=>(rM x40 [x58]).bind fun x146=>(aQ (x58+1)).bind fun v153=>recl77 x146 x139 (x52++[x135]) v153
def eO (K:Nat) (a0:List (List Rat)) (a1:List Rat) (x58:Int):Nat→(List Rat)→Int→Option (List Rat)
 |0,_,_=>none
 |k+1,x103,x109=>bif(decide (x109<(a1.length:Int))) then((aQ ((a1.length:Int)+x109)).bind fun v156=>(bK a0 x58).bind fun v158=>(bK v158 x109).bind fun v160=>(aBs v160).bind fun v162=>(bK x103 v156).bind fun v164=>(pN x103 v156 v162).bind fun x166=>(aQ (x109+1)).bind fun v169=>eO K a0 a1 x58 k x166 v169) else(some x103)
def dM (K:Nat) (a0:List (List Rat)) (a1:List Rat):Nat→(List Int)→(List Nat)→(List (List Rat))→Int→Option ((List Int)×(List Nat)×(List (List Rat)))
 |0,_,_,_,_=>none
 |k+1,x40,x46,x52,x58=>bif(decide (x58<(a1.length:Int))) then((aQ (2*(a1.length:Int))).bind fun v80=>(aQ (v80+2)).bind fun v82=>(y5 v82 0).bind fun x84=>(qof 1 1).bind fun v89=>(bK x84 x58).bind fun v91=>(pN x84 x58 v89).bind fun x93=>(eO K a0 a1 x58 K x93 0).bind fun x110=>lM K a1 x40 x46 x52 x58 (dM K a0 a1 k) x110) else(some (x40,x46,x52))
def mL (K:Nat) (a0:List (List Rat)) (a1:List Rat):Option (Int×(List Nat)×(List Int)×(List (List Rat))):=
 (dM K a0 a1 K ([]:List Int) ([]:List Nat) ([]:List (List Rat)) 0).bind fun(x59,x65,x71)=>mB K a1 x59 x65 x71
theorem aAh {K:Nat} {a0:List (List Rat)} {a1:List Rat} {r:Int×(List Nat)×(List Int)×(List (List Rat))} (hF:mL K a0 a1=some r):CtO Tryz.prog 44 [] [.vc (pS (fA cQ) a0),.vc (pS cQ a1)] (fun Ho q=>∃b1171 b1175 c1176 n1177 b1180 c1181 n1182 g1185 N1186,r.2.1.length=n1177∧r.2.2.1.length=n1182∧r.2.2.2.length=N1186∧cL g1185 r.2.2.2∧(∀k∈r.2.1,k<N1186)∧Ho=([⟨some b1171,1,72,3,1,([pI .i64 r.1]++[pO b1175 n1177 c1176]++[pO b1180 n1182 c1181])⟩,hO (cH g1185) b1175 c1176 24 n1177 r.2.1,hO cI b1180 c1181 3 n1182 r.2.2.1]++eA cQ 42 g1185 r.2.2.2)∧q=.vc (pP (some b1171) 0)):=by
 unfold mL at hF
 refine aA Tryz.func44 rfl (by kernel_rfl) Tryz.ntmps44 rfl (fun w0 M0=>?_)
 refine aD (aI (aG (aM (p:=.any) (.inr rfl)) ⟨fun _=>trivial,trivial⟩ ?_))
 refine aU (aH (aD (aI (fI ?_))))
 refine aG (aHt rfl tyS24) zU1 ?_
 refine yK ?_
 refine aU (aH (aD (aI (fI ?_))))
 refine aG1 cQ 42 ?_
 refine zU (cH ([]:List p7)) 24 ?_
 refine zU cI 3 ?_
 refine aG (gH (is:=[0]) (xs:=[.tmp 12]) (ps:=[.vc (pI .i64 (a1.length:Int))]) rfl tyB72_o1_o2q rfl rfl ⟨trivial,trivial⟩ rfl) zU1 ?_
 refine cP rfl rfl trivial (fun b20=>?_)
 refine go ?_ ?_
 refine aJ (aX (fun H E=>∃(x59:List Int),∃(x65:List Nat),∃(x71:List (List Rat)),∃(b60:Option Nat),∃(c61:Nat),∃(n62:Nat),∃(b66:Option Nat),∃(c67:Nat),∃(n68:Nat),∃(g72:List p7),∃(N73:Nat),mB K a1 x59 x65 x71=some r∧x59.length=n62∧x65.length=n68∧x71.length=N73∧cL g72 x71∧(∀k∈x65,k<N73)∧H=([⟨some b20,1,72,3,1,([pI .i64 (a1.length:Int)]++[pO b66 n68 c67]++[pO b60 n62 c61])⟩,hO cI b60 c61 3 n62 x59,hO (cH g72) b66 c67 24 n68 x65]++eA cQ 42 g72 x71)∧E=[(6,.vc (pP (some b20) 0))]) ?_ (fun Jj78=>?_))
 ·rintro _ _ ⟨x59,x65,x71,b60,c61,n62,b66,c67,n68,g72,N73,hF,q63,q69,q74,q75,q76,rfl,rfl⟩
  unfold mB at hF
  refine go ?_ ?_
  refine fY (fZ ?_)
  obtain rfl:=iD hF
  exact iT (.inl rfl) Tryz.results44 (.tmp rfl .nil) rfl 3 [0,2,1] rfl rfl (by decide) ⟨b20,b66,c67,n68,b60,c61,n62,g72,N73,q69,q63,q74,q75,q76,rfl,rfl⟩
 obtain⟨⟨x59',x65',x71'⟩,hL,hRl77⟩:=aP hF
 refine dQ (fun k a w=>∃(x40:List Int),∃(x46:List Nat),∃(x52:List (List Rat)),∃(x58:Int),∃(b41:Option Nat),∃(c42:Nat),∃(n43:Nat),∃(b47:Option Nat),∃(c48:Nat),∃(n49:Nat),∃(g53:List p7),∃(N54:Nat),dM K a0 a1 k x40 x46 x52 x58=some (x59',x65',x71')∧x40.length=n43∧x46.length=n49∧x52.length=N54∧cL g53 x52∧(∀k∈x46,k<N54)∧hs _ ([⟨some b20,1,72,3,1,([pI .i64 (a1.length:Int)]++[pO b47 n49 c48]++[pO b41 n43 c42])⟩,hO cI b41 c42 3 n43 x40,hO (cH g53) b47 c48 24 n49 x46]++eA cQ 42 g53 x52) [(0,.vc (pS (fA cQ) a0)),(1,.vc (pS cQ a1)),(5,.vc (pI .i64 (a1.length:Int))),(6,.vc (pP (some b20) 0)),(15,.vc (pI .i64 (a1.length:Int))),(16,.vc (pI .i64 x58))] a w) K (fun a w ⟨_,_,_,_,_,_,_,_,_,_,_,_,hF,_,_,_,_,_,_⟩=>by cases hF) (fun k a w ⟨x40,x46,x52,x58,b41,c42,n43,b47,c48,n49,g53,N54,hF,q44,q50,q55,q56,q57,hh⟩=>dP ?_ hh) (fun a w hh=>⟨([]:List Int),([]:List Nat),([]:List (List Rat)),0,none,0,0,none,0,0,([]:List p7),0,hL,rfl,rfl,(rfl),aDQ,(by simp),aR 3 [0,1,2] rfl rfl (by decide) (by exact⟨rfl,rfl,rfl,rfl,rfl,rfl,trivial⟩) hh⟩)
 rw [dM.eq_2] at hF
 refine go ?_ ?_
 refine aE hF rfl (fun h79 hF=>?_) (fun h79 hF=>?_)
 ·refine go ?_ ?_
  refine aJ ?_
  obtain⟨v80,h81,v82,h83,x84,h85,hF⟩:=bn3 hF
  refine go ?_ ?_
  refine o7 (C:=cQ) rfl tyS24 rfl tyZ42q rfl h85 (fun b86=>?_)
  obtain⟨v89,h90,hF⟩:=bC hF rW
  obtain⟨v91,h92,x93,h94,hF⟩:=tY hF
  refine go ?_ ?_
  refine aJ (aX (fun H E=>∃(x110:List Rat),lM K a1 x40 x46 x52 x58 (dM K a0 a1 k) x110=some (x59',x65',x71')∧x110.length=x84.length∧H=([hO cQ b86 x84.length 42 x84.length x110,⟨some b20,1,72,3,1,([pI .i64 (a1.length:Int)]++[pO b47 n49 c48]++[pO b41 n43 c42])⟩,hO cI b41 c42 3 n43 x40,hO (cH g53) b47 c48 24 n49 x46]++eA cQ 42 g53 x52)∧E=[(0,.vc (pS (fA cQ) a0)),(1,.vc (pS cQ a1)),(5,.vc (pI .i64 (a1.length:Int))),(6,.vc (pP (some b20) 0)),(7,.vc (pI .i64 x58)),(8,.vc (pO b86 x84.length x84.length)),(15,.vc (pI .i64 (a1.length:Int))),(16,.vc (pI .i64 x58))]) ?_ (fun Jj117=>?_))
  ·rintro _ _ ⟨x110,hF,q114,rfl,rfl⟩
   unfold lM at hF
   have hF:=tX h81 hF
   obtain⟨v120,h121,hF⟩:=bC hF rW
   obtain⟨v122,h123,x124,h125,hF⟩:=tY hF
   have hF:=tX h81 hF
   obtain⟨v129,h130,v131,h132,v133,h134,x135,h136,hF⟩:=bn4 hF
   refine go ?_ ?_
   refine aG (aLJ (rs:=x52) rfl tyS23 q56.1 (show([hO cQ b86 x84.length 42 x84.length x135,⟨some b20,1,72,3,1,([pI .i64 (a1.length:Int)]++[pO b47 n49 c48]++[pO b41 n43 c42])⟩,hO cI b41 c42 3 n43 x40,hO (cH (g53++[(b86,x84.length,x84.length)])) b47 c48 24 n49 x46]++eA cQ 42 g53 x52)=([hO cQ b86 x84.length 42 x84.length x135,⟨some b20,1,72,3,1,([pI .i64 (a1.length:Int)]++[pO b47 n49 c48]++[pO b41 n43 c42])⟩,hO cI b41 c42 3 n43 x40,hO (cH g53) b47 c48 24 n49 x46]++eA cQ 42 g53 x52) from by rw [aG5 (N:=x52.length) (b86,x84.length,x84.length) q56.1 (aDJ q55 q57)])) zU1 ?_
   refine aE8 (g:=(b86,x84.length,x84.length)) 0 4 rfl rfl rfl q56 ?_
   refine aO4 8 rfl (aNy (N:=x52.length) (b86,x84.length,x84.length) q56.1) ?_
   obtain⟨x139,h140,hF⟩:=aP hF
   refine mN 2 rfl tyS23 rfl rfl q50 rfl rfl h140 (fun b141 c142 H143 e144=>?_)
   cases e144
   refine go ?_ ?_
   refine aG (gG (C:=cI) (xs:=[.tmp 74]) (ps:=[.vc (pI .i64 x58)]) (zs:=[x58]) rfl tyS22 rfl ⟨⟨trivial,rfl⟩,trivial⟩ rfl) zU1 ?_
   obtain⟨x146,h147,hF⟩:=aP hF
   refine mN 1 rfl tyS22 rfl rfl q44 rfl rfl h147 (fun b148 c149 H150 e151=>?_)
   cases e151
   obtain⟨v153,h154,hF⟩:=aP hF
   refine go ?_ ?_
   exact aF (fun a w hh=>⟨x146,x139,(x52++[x135]),v153,b148,c149,(n43+[x58].length),b141,c142,(n49+[x52.length].length),(g53++[(b86,x84.length,x84.length)]),(N54+1),hF,(cX h147 q44),(cX h140 q50),(aCI q55),(aAy q56 (bG h136 (bG h125 q114))),(aJg q57 q55 h140),aR 3 [0,1,2] rfl rfl (by decide) (by exact⟨rfl,rfl,rfl,rfl,rfl,rfl,trivial⟩) hh⟩)
  obtain⟨x110',hL,hRl116⟩:=aP hF
  refine dQ (fun k a w=>∃(x103:List Rat),∃(x109:Int),eO K a0 a1 x58 k x103 x109=some x110'∧x103.length=x84.length∧hs _ ([hO cQ b86 x84.length 42 x84.length x103,⟨some b20,1,72,3,1,([pI .i64 (a1.length:Int)]++[pO b47 n49 c48]++[pO b41 n43 c42])⟩,hO cI b41 c42 3 n43 x40,hO (cH g53) b47 c48 24 n49 x46]++eA cQ 42 g53 x52) [(0,.vc (pS (fA cQ) a0)),(1,.vc (pS cQ a1)),(5,.vc (pI .i64 (a1.length:Int))),(6,.vc (pP (some b20) 0)),(7,.vc (pI .i64 x58)),(8,.vc (pO b86 x84.length x84.length)),(15,.vc (pI .i64 (a1.length:Int))),(16,.vc (pI .i64 x58)),(27,.vc (pI .i64 (a1.length:Int))),(28,.vc (pI .i64 x109))] a w) K (fun a w ⟨_,_,hF,_,_⟩=>by cases hF) (fun k a w ⟨x103,x109,hF,q107,hh⟩=>dP ?_ hh) (fun a w hh=>⟨x93,0,hL,(bG h94 rfl),aR 4 [0,1,2,3] rfl rfl (by decide) (by exact⟨rfl,rfl,rfl,rfl,rfl,rfl,rfl,rfl,rfl,rfl,trivial⟩) hh⟩)
  rw [eO.eq_2] at hF
  refine go ?_ ?_
  refine aE hF rfl (fun h155 hF=>?_) (fun h155 hF=>?_)
  ·refine go ?_ ?_
   refine aJ ?_
   obtain⟨v156,h157,v158,h159,v160,h161,hF⟩:=bn3 hF
   obtain⟨v162,h163,hF⟩:=bC hF tZ
   obtain⟨v164,h165,x166,h167,v169,h170,hF⟩:=bn3 hF
   refine go ?_ ?_
   exact aF (fun a w hh=>⟨x166,v169,hF,(bG h167 q107),aR 4 [0,1,2,3] rfl rfl (by decide) (by exact⟨rfl,rfl,rfl,rfl,rfl,rfl,rfl,rfl,rfl,rfl,trivial⟩) hh⟩)
  refine bH ?_
  obtain rfl:=iD hF
  exact eG Jj117 ⟨x103,hRl116,q107,rfl,rfl⟩ 4 [0,1,2,3] rfl rfl ⟨rfl,rfl,rfl,rfl,rfl,rfl,rfl,rfl,trivial⟩
 refine bH ?_
 obtain⟨rfl,rfl,rfl⟩:=sm3 hF
 exact eG Jj78 ⟨x40,x46,x52,b41,c42,n43,b47,c48,n49,g53,N54,hRl77,q44,q50,q55,q56,q57,rfl,rfl⟩ 3 [0,1,2] rfl rfl zU1
def kU (K:Nat) (x69:List Rat) (x75:List Rat):Option aL:=
 some (⟨x75,x69,0⟩:aL)
def bF (K:Nat) (a0:Int) (a1:List Nat) (a2:List Int) (a3:List (List Rat)):Nat→(List Rat)→(List Rat)→Int→Option ((List Rat)×(List Rat))
 |0,_,_,_=>none
 |k+1,x56,x62,x68=>bif(decide (x68<(a2.length:Int))) then((bK a2 x68).bind fun v84=>(bK a1 x68).bind fun v88=>(aQ (2*a0)).bind fun v90=>(aQ (v90+1)).bind fun v92=>(bK (a3.getD v88 []) v92).bind fun v94=>bif(decide (v84<a0)) then((bK x56 v84).bind fun v97=>(pN x56 v84 v94).bind fun x99=>(aQ (x68+1)).bind fun v102=>bF K a0 a1 a2 a3 k x99 x62 v102) else((aQ (2*a0)).bind fun v104=>bif(decide (v84<v104)) then((aQ (v84-a0)).bind fun v109=>(bK x62 v109).bind fun v111=>(pN x62 v109 v94).bind fun x113=>(aQ (x68+1)).bind fun v116=>bF K a0 a1 a2 a3 k x56 x113 v116) else((aQ (x68+1)).bind fun v118=>bF K a0 a1 a2 a3 k x56 x62 v118))) else(some (x56,x62))
def eE (K:Nat) (a0:Int) (a1:List Nat) (a2:List Int) (a3:List (List Rat)):Option aL:=
 (y5 a0 0).bind fun x23=>(y5 a0 0).bind fun x27=>(bF K a0 a1 a2 a3 K x27 x23 0).bind fun(x69,x75)=>kU K x69 x75
theorem qU {K:Nat} {a0:Int} {a1:List Nat} {a2:List Int} {a3:List (List Rat)} {r:aL} (hF:eE K a0 a1 a2 a3=some r) {p0:Nat} {b4:Option Nat} {c5 n6:Nat} {b9:Option Nat} {c10 n11:Nat} {g14:List p7} {N15:Nat} (q7:a1.length=n6) (q12:a2.length=n11) (q16:a3.length=N15) (q17:cL g14 a3) (q18:∀k∈a1,k<N15):CtO Tryz.prog 46 ([⟨some p0,1,72,3,1,([pI .i64 a0]++[pO b4 n6 c5]++[pO b9 n11 c10])⟩,hO (cH g14) b4 c5 24 n6 a1,hO cI b9 c10 3 n11 a2]++eA cQ 42 g14 a3) [.vc (pP (some p0) 0)] (fun Ho q=>Ho=([⟨some p0,1,72,3,1,([pI .i64 a0]++[pO b4 n6 c5]++[pO b9 n11 c10])⟩,hO (cH g14) b4 c5 24 n6 a1,hO cI b9 c10 3 n11 a2]++eA cQ 42 g14 a3)∧q=.va (aL.enc r)):=by
 unfold eE at hF
 refine aA Tryz.func46 rfl (by kernel_rfl) Tryz.ntmps46 rfl (fun w0 M0=>?_)
 refine aD (aI (aK rfl tyZ30q (fun b20=>?_)))
 obtain⟨x23,h24,hF⟩:=aP hF
 have hF:=tX h24 hF
 refine go ?_ ?_
 refine rR (HsM [(0,fun G21=>([⟨some b20,1,30,3,1,([pS cQ ([]:List Rat)]++[pS cQ ([]:List Rat)]++[pI .i64 0])⟩,⟨some p0,1,72,3,1,([pI .i64 a0]++[pO b4 n6 c5]++[pO b9 n11 c10])⟩,hO (cH g14) b4 c5 24 n6 a1,hO cI b9 c10 3 n11 a2]++eA cQ 42 g14 a3)),(1,fun G21=>([hO cQ ((G21 4).1) x23.length 42 x23.length x23,⟨some b20,1,30,3,1,([pS cQ ([]:List Rat)]++[pS cQ ([]:List Rat)]++[pI .i64 0])⟩,⟨some p0,1,72,3,1,([pI .i64 a0]++[pO b4 n6 c5]++[pO b9 n11 c10])⟩,hO (cH g14) b4 c5 24 n6 a1,hO cI b9 c10 3 n11 a2]++eA cQ 42 g14 a3)),(2,fun G21=>([hO cQ ((G21 9).1) x23.length 42 x23.length x23,⟨some b20,1,30,3,1,([pS cQ ([]:List Rat)]++[pS cQ ([]:List Rat)]++[pI .i64 0])⟩,⟨some p0,1,72,3,1,([pI .i64 a0]++[pO b4 n6 c5]++[pO b9 n11 c10])⟩,hO (cH g14) b4 c5 24 n6 a1,hO cI b9 c10 3 n11 a2]++eA cQ 42 g14 a3)),(3,fun G21=>([hO cQ ((G21 9).1) x23.length 42 x23.length x23,hO cQ ((G21 4).1) x23.length 42 x23.length x23,⟨some b20,1,30,3,1,([pS cQ ([]:List Rat)]++[pS cQ ([]:List Rat)]++[pI .i64 0])⟩,⟨some p0,1,72,3,1,([pI .i64 a0]++[pO b4 n6 c5]++[pO b9 n11 c10])⟩,hO (cH g14) b4 c5 24 n6 a1,hO cI b9 c10 3 n11 a2]++eA cQ 42 g14 a3)),(7,fun G21=>([hO cQ (dB (G21 10).2) x23.length 42 x23.length x23,hO cQ ((G21 10).1) x23.length 42 x23.length x23,⟨some b20,1,30,3,1,([pS cQ ([]:List Rat)]++[pS cQ ([]:List Rat)]++[pI .i64 0])⟩,⟨some p0,1,72,3,1,([pI .i64 a0]++[pO b4 n6 c5]++[pO b9 n11 c10])⟩,hO (cH g14) b4 c5 24 n6 a1,hO cI b9 c10 3 n11 a2]++eA cQ 42 g14 a3))]) [4,9,10] [0,1,3,7,15,0,32,96,224,480,1023,0,4095] 12 1 [.v (.vc (pP (some p0) 0)),.v (.vc (pP (some p0) 0)),.v (.vc (pP (some p0) 0)),.v (.vc (pI .i64 a0)),.g (fun b _=>.vc (pO b x23.length x23.length)),.v (.vc (pP (some p0) 0)),.v (.vc (pP (some p0) 0)),.v (.vc (pP (some p0) 0)),.v (.vc (pI .i64 a0)),.g (fun b _=>.vc (pO b x23.length x23.length)),.g (fun b c=>.va ([pO b x23.length x23.length]++[pO (dB c) x23.length x23.length]++[pI .i64 0])),.a 30 ([pS cQ ([]:List Rat)]++[pS cQ ([]:List Rat)]++[pI .i64 0])] aY ⟨⟨rfl,.run (L:=[0,2]) ⟨fun G21 A=>aM (.inl rfl),fun G21 A=>aM (.inl rfl),trivial⟩ (fun G21=>zU1)⟩,⟨rfl,.run (L:=[0,2]) ⟨fun G21 A=>qX rfl,fun G21 A=>qX rfl,trivial⟩ (fun G21=>zU1)⟩,⟨rfl,.run (L:=[0,2]) ⟨fun G21 A=>f7 (off:=0) (k:=0) rfl tyF72_0,fun G21 A=>f7 (off:=0) (k:=0) rfl tyF72_0,trivial⟩ (fun G21=>zU1)⟩,⟨rfl,.run (L:=[0,2]) ⟨fun G21 A=>fF 1 1 rfl rfl rfl rfl (.one tyO3),fun G21 A=>fF 2 1 rfl rfl rfl rfl (.one tyO3),trivial⟩ (fun G21=>zU1)⟩,⟨rfl,.hvy [0,2] ⟨fun G21 A=>aCP (C:=cQ) rfl tyS24 rfl tyZ42q h24,fun G21 A=>aPM (R:=eA cQ 42 g14 a3) [1,0,2,3,4,5] (aCP (C:=cQ) rfl tyS24 rfl tyZ42q h24) (fun b_ c_=>⟨[hO cQ (b_) x23.length 42 x23.length x23,hO cQ ((G21 9).1) x23.length 42 x23.length x23,⟨some b20,1,30,3,1,([pS cQ ([]:List Rat)]++[pS cQ ([]:List Rat)]++[pI .i64 0])⟩,⟨some p0,1,72,3,1,([pI .i64 a0]++[pO b4 n6 c5]++[pO b9 n11 c10])⟩,hO (cH g14) b4 c5 24 n6 a1,hO cI b9 c10 3 n11 a2],_,rfl,rfl,rfl⟩),trivial⟩ (fun G21=>zU1)⟩,⟨rfl,.run (L:=[0,1]) ⟨fun G21 A=>aM (.inl rfl),fun G21 A=>aM (.inl rfl),trivial⟩ (fun G21=>zU1)⟩,⟨rfl,.run (L:=[0,1]) ⟨fun G21 A=>qX rfl,fun G21 A=>qX rfl,trivial⟩ (fun G21=>zU1)⟩,⟨rfl,.run (L:=[0,1]) ⟨fun G21 A=>f7 (off:=0) (k:=0) rfl tyF72_0,fun G21 A=>f7 (off:=0) (k:=0) rfl tyF72_0,trivial⟩ (fun G21=>zU1)⟩,⟨rfl,.run (L:=[0,1]) ⟨fun G21 A=>fF 1 1 rfl rfl rfl rfl (.one tyO3),fun G21 A=>fF 2 1 rfl rfl rfl rfl (.one tyO3),trivial⟩ (fun G21=>zU1)⟩,⟨rfl,.hvy [0,1] ⟨fun G21 A=>aCP (C:=cQ) rfl tyS24 rfl tyZ42q h24,fun G21 A=>aCP (C:=cQ) rfl tyS24 rfl tyZ42q h24,trivial⟩ (fun G21=>zU1)⟩,⟨rfl,.hvy [3] ⟨fun G21 A=>aQd (Post:=fun b_ x_=>([hO cQ x_ x23.length 42 x23.length x23,hO cQ b_ x23.length 42 x23.length x23,⟨some b20,1,30,3,1,([pS cQ ([]:List Rat)]++[pS cQ ([]:List Rat)]++[pI .i64 0])⟩,⟨some p0,1,72,3,1,([pI .i64 a0]++[pO b4 n6 c5]++[pO b9 n11 c10])⟩,hO (cH g14) b4 c5 24 n6 a1,hO cI b9 c10 3 n11 a2]++eA cQ 42 g14 a3)++A) (out:=fun b_ x_=>.va ([pO b_ x23.length x23.length]++[pO x_ x23.length x23.length]++[pI .i64 0])) ((G21 4).1) ((G21 9).1) (gH (is:=[0,1]) (xs:=[.tmp 11,.tmp 16]) (ps:=[.vc (pO ((G21 4).1) x23.length x23.length),.vc (pO ((G21 9).1) x23.length x23.length)]) rfl tyB30q rfl rfl ⟨trivial,trivial,trivial⟩ rfl),trivial⟩ (fun G21=>zU2)⟩,⟨rfl,.alc tyZ30q⟩,trivial⟩ (fun bs22 G21=>?_)
 refine go ?_ ?_
 refine aJ (aX (fun H E=>∃(x69:List Rat),∃(x75:List Rat),kU K x69 x75=some r∧x69.length=x23.length∧x75.length=x23.length∧H=([⟨some (bs22 11),1,30,3,1,([pO ((G21 10).1) x23.length x23.length]++[pO (dB (G21 10).2) x23.length x23.length]++[pI .i64 0])⟩,hO cQ (dB (G21 10).2) x23.length 42 x23.length x69,hO cQ ((G21 10).1) x23.length 42 x23.length x75,⟨some b20,1,30,3,1,([pS cQ ([]:List Rat)]++[pS cQ ([]:List Rat)]++[pI .i64 0])⟩,⟨some p0,1,72,3,1,([pI .i64 a0]++[pO b4 n6 c5]++[pO b9 n11 c10])⟩,hO (cH g14) b4 c5 24 n6 a1,hO cI b9 c10 3 n11 a2]++eA cQ 42 g14 a3)∧E=[(2,.vc (pP (some b20) 0)),(3,.vc (pP (some (bs22 11)) 0))]) ?_ (fun Jj82=>?_))
 ·rintro _ _ ⟨x69,x75,hF,q73,q79,rfl,rfl⟩
  unfold kU at hF
  refine aH (aD (aI (aDS 2 0 0 rfl q79 rfl rfl rfl rfl rfl ?_)))
  refine aDS 1 0 1 rfl q73 rfl rfl rfl rfl rfl ?_
  refine go ?_ ?_
  refine fY (fZ ?_)
  obtain rfl:=iD hF
  exact iT (.inl rfl) Tryz.results46 (vY 1 3 rfl rfl rfl rfl (.agg tyA30) .nil) rfl 5 [2,3,4] rfl rfl (by decide) ⟨rfl,rfl⟩
 obtain⟨⟨x69',x75'⟩,hL,hRl81⟩:=aP hF
 refine dQ (fun k a w=>∃(x56:List Rat),∃(x62:List Rat),∃(x68:Int),bF K a0 a1 a2 a3 k x56 x62 x68=some (x69',x75')∧x56.length=x23.length∧x62.length=x23.length∧hs _ ([⟨some (bs22 11),1,30,3,1,([pO ((G21 10).1) x23.length x23.length]++[pO (dB (G21 10).2) x23.length x23.length]++[pI .i64 0])⟩,hO cQ (dB (G21 10).2) x23.length 42 x23.length x56,hO cQ ((G21 10).1) x23.length 42 x23.length x62,⟨some b20,1,30,3,1,([pS cQ ([]:List Rat)]++[pS cQ ([]:List Rat)]++[pI .i64 0])⟩,⟨some p0,1,72,3,1,([pI .i64 a0]++[pO b4 n6 c5]++[pO b9 n11 c10])⟩,hO (cH g14) b4 c5 24 n6 a1,hO cI b9 c10 3 n11 a2]++eA cQ 42 g14 a3) [(0,.vc (pP (some p0) 0)),(2,.vc (pP (some b20) 0)),(3,.vc (pP (some (bs22 11)) 0)),(21,.vc (pO b9 n11 c10)),(22,.vc (pI .i64 (a2.length:Int))),(23,.vc (pI .i64 x68))] a w) K (fun a w ⟨_,_,_,hF,_,_,_⟩=>by cases hF) (fun k a w ⟨x56,x62,x68,hF,q60,q66,hh⟩=>dP ?_ hh) (fun a w hh=>⟨x23,x23,0,hL,rfl,rfl,aR 7 [0,1,2,3,4,5,6] rfl rfl (by decide) (by exact⟨rfl,rfl,rfl,rfl,rfl,rfl,trivial⟩) hh⟩)
 rw [bF.eq_2] at hF
 refine go ?_ ?_
 refine aE hF rfl (fun h83 hF=>?_) (fun h83 hF=>?_)
 ·refine go ?_ ?_
  refine aJ ?_
  obtain⟨v84,h85,v88,h89,v90,h91,v92,h93,hF⟩:=bn4 hF
  obtain⟨v94,h95,hF⟩:=aP hF
  refine go ?_ ?_
  refine iV [0,1,3,7,0,31,63,0,128,384,896,1920,3968,8191,16383,0,65535] 16 1 [.v (.vc (pP (some p0) 0)),.v (.vc (pP (some p0) 0)),.v (.vc (pP (some p0) 1)),.v (.vc (pO b4 n6 c5)),.v (.vc (pI .i64 x68)),.v (.vc (pE b4 x68 (cH g14).n 0)),.v (.vc (pO (fL g14 v88).1 (fL g14 v88).2.1 (fL g14 v88).2.2)),.v (.vc (pP (some p0) 0)),.v (.vc (pP (some p0) 0)),.v (.vc (pP (some p0) 0)),.v (.vc (pI .i64 a0)),.v (.vc (pI .i64 v90)),.v (.vc (pI .i64 v92)),.v (.vc (pE (fL g14 v88).1 v92 cQ.n 0)),.v (.va (eQ v94)),.a 42 (eQ 0)] aY ⟨d0 (aM (.inl rfl)) zU1,d0 (qX rfl) zU1,d0 (f7 (off:=0) (k:=1) rfl tyF72_1) zU1,d0 (fF 4 1 rfl rfl rfl rfl (.one tyO23)) zU1,d0 (aM (.inl rfl)) zU1,d0 (d7 (C:=(cH g14)) 5 rfl tyS23 rfl q7 (aC h89).1 (aC h89).2.1) zU2,d0 (iC (C:=(cH g14)) (k:=1) 5 rfl rfl h89 rfl (.one tyO24) rfl) zU1,d0 (aM (.inl rfl)) zU1,d0 (qX rfl) zU1,d0 (f7 (off:=0) (k:=0) rfl tyF72_0) zU1,d0 (fF 4 1 rfl rfl rfl rfl (.one tyO3)) zU1,d0 (aE1 rfl h91) ⟨p6 _ _,rfl,trivial⟩,d0 (xQ rfl h93) ⟨rfl,p6 _ _,trivial⟩,d0 (d7 (7+v88) rfl tyS24 (gL 7 rfl q17 q16 (q18 _ (aN h89))) (cY q17 q16 (q18 _ (aN h89))) (aC h95).1 (aC h95).2.1) zU2,d0 (iC (k:=4) (7+v88) rfl (gL 7 rfl q17 q16 (q18 _ (aN h89))) h95 rfl (.agg tyA42) rfl) zU1,⟨rfl,.alc tyZ42q⟩,trivial⟩ (fun bs87 G86=>?_)
  refine go ?_ ?_
  refine aJ (go ?_ ?_)
  refine aE hF rfl (fun h96 hF=>?_) (fun h96 hF=>?_)
  ·obtain⟨v97,h98,x99,h100,v102,h103,hF⟩:=bn3 hF
   refine go ?_ ?_
   exact aF (fun a w hh=>⟨x99,x62,v102,hF,(bG h100 q60),q66,aR 8 [1,2,3,4,5,6,7] rfl rfl (by decide) (by exact⟨rfl,rfl,rfl,rfl,rfl,rfl,trivial⟩) hh⟩)
  have hF:=tX h91 hF
  refine go ?_ ?_
  refine aE hF rfl (fun h106 hF=>?_) (fun h106 hF=>?_)
  ·obtain⟨v109,h110,hF⟩:=aP hF
   obtain⟨v111,h112,hF⟩:=aP hF
   refine dr [0,1,0,0,8,24,56,124,0,511,1023] 10 1 ?_ (fun bs108 G107=>?_)
   obtain⟨x113,h114,v116,h117,hF⟩:=tY hF
   refine go ?_ ?_
   exact aF (fun a w hh=>⟨x56,x113,v116,hF,q60,(bG h114 q66),aR 8 [1,2,3,4,5,6,7] rfl rfl (by decide) (by exact⟨rfl,rfl,rfl,rfl,rfl,rfl,trivial⟩) hh⟩)
  obtain⟨v118,h119,hF⟩:=aP hF
  refine go ?_ ?_
  exact aF (fun a w hh=>⟨x56,x62,v118,hF,q60,q66,aR 8 [1,2,3,4,5,6,7] rfl rfl (by decide) (by exact⟨rfl,rfl,rfl,rfl,rfl,rfl,trivial⟩) hh⟩)
 refine bH ?_
 obtain⟨rfl,rfl⟩:=sm2 hF
 exact eG Jj82 ⟨x56,x62,hRl81,q60,q66,rfl,rfl⟩ 7 [0,1,2,3,4,5,6] rfl rfl zU2
def iR (K:Nat):Option Bool:=
 some false
def dI (K:Nat) (a0:Int) (a1:Rat) (a2:Int) (a3:Rat) (a5:List Nat) (a7:List (List Rat)) (x23:Int) (recl24:Int→Option (LR Bool Unit)) (x28:Int):Option (LR Bool Unit):=
 (bK a5 a0).bind fun v32=>(bK (a7.getD v32 []) x28).bind fun v34=>(aD0 v34 a1).bind fun v36=>(bK a5 a2).bind fun v38=>(bK (a7.getD v38 []) x28).bind fun v40=>(aD0 v40 a3).bind fun v42=>(aLg v36 v42).bind fun v44=>bif(v44 != 0) then(some (.ret (decide (v44<0)))) else((aQ (x23+1)).bind fun v47=>recl24 v47)
def aS (K:Nat) (a0:Int) (a1:Rat) (a2:Int) (a3:Rat) (a4:Int) (a5:List Nat) (a7:List (List Rat)):Nat→Int→Option (LR Bool Unit)
 |0,_=>none
 |k+1,x23=>bif(decide (x23<a4)) then(bif(decide (x23<0)) then((aQ (2*a4)).bind fun v50=>(aQ (v50+1)).bind fun v52=>dI K a0 a1 a2 a3 a5 a7 x23 (aS K a0 a1 a2 a3 a4 a5 a7 k) v52) else(dI K a0 a1 a2 a3 a5 a7 x23 (aS K a0 a1 a2 a3 a4 a5 a7 k) x23)) else(some (.go ()))
def dL (K:Nat) (a0:Int) (a1:Rat) (a2:Int) (a3:Rat) (a4:Int) (a5:List Nat) (a6:List Int) (a7:List (List Rat)):Option Bool:=
 (aS K a0 a1 a2 a3 a4 a5 a7 K (-1)).bind fun o=>match o with| .ret r=>some r| .go _=>iR K
theorem sE {K:Nat} {a0:Int} {a1:Rat} {a2:Int} {a3:Rat} {a4:Int} {a5:List Nat} {a6:List Int} {a7:List (List Rat)} {r:Bool} (hF:dL K a0 a1 a2 a3 a4 a5 a6 a7=some r) {p0:Nat} {b4:Option Nat} {c5 n6:Nat} {b9:Option Nat} {c10 n11:Nat} {g14:List p7} {N15:Nat} (q7:a5.length=n6) (q12:a6.length=n11) (q16:a7.length=N15) (q17:cL g14 a7) (q18:∀k∈a5,k<N15):CtO Tryz.prog 48 ([⟨some p0,1,72,3,1,([pI .i64 a4]++[pO b4 n6 c5]++[pO b9 n11 c10])⟩,hO (cH g14) b4 c5 24 n6 a5,hO cI b9 c10 3 n11 a6]++eA cQ 42 g14 a7) [.vc (pP (some p0) 0),.vc (pI .i64 a0),.va (eQ a1),.vc (pI .i64 a2),.va (eQ a3)] (fun Ho q=>Ho=([⟨some p0,1,72,3,1,([pI .i64 a4]++[pO b4 n6 c5]++[pO b9 n11 c10])⟩,hO (cH g14) b4 c5 24 n6 a5,hO cI b9 c10 3 n11 a6]++eA cQ 42 g14 a7)∧q=.vc (pB r)):=by
 unfold dL at hF
 refine aA Tryz.func48 rfl (by kernel_rfl) Tryz.ntmps48 rfl (fun w0 M0=>?_)
 refine aD (aI (cP rfl rfl trivial (fun b20=>?_)))
 refine cP rfl rfl trivial (fun b21=>?_)
 refine go ?_ ?_
 refine aJ (aX (fun H E=>iR K=some r∧H=([⟨some p0,1,72,3,1,([pI .i64 a4]++[pO b4 n6 c5]++[pO b9 n11 c10])⟩,hO (cH g14) b4 c5 24 n6 a5,hO cI b9 c10 3 n11 a6]++eA cQ 42 g14 a7)∧E=[]) ?_ (fun Jj25=>?_))
 ·rintro _ _ ⟨hF,rfl,rfl⟩
  unfold iR at hF
  refine go ?_ ?_
  refine fY (fZ ?_)
  obtain rfl:=iD hF
  exact iT (.inl rfl) Tryz.results48 (.tmp rfl .nil) rfl 3 [0,1,2] rfl rfl (by decide) ⟨rfl,rfl⟩
 obtain⟨ol24,hL,hRl24⟩:=aP hF
 refine dQ (fun k a w=>∃(x23:Int),aS K a0 a1 a2 a3 a4 a5 a7 k x23=some ol24∧hs _ ([⟨some b21,1,42,4,1,(eQ a3)⟩,⟨some b20,1,42,4,1,(eQ a1)⟩,⟨some p0,1,72,3,1,([pI .i64 a4]++[pO b4 n6 c5]++[pO b9 n11 c10])⟩,hO (cH g14) b4 c5 24 n6 a5,hO cI b9 c10 3 n11 a6]++eA cQ 42 g14 a7) [(0,.vc (pP (some p0) 0)),(1,.vc (pI .i64 a0)),(3,.vc (pI .i64 a2)),(7,.vc (pP (some b20) 0)),(9,.vc (pP (some b21) 0)),(11,.vc (pI .i64 x23))] a w) K (fun a w ⟨_,hF,_⟩=>by cases hF) (fun k a w ⟨x23,hF,hh⟩=>dP ?_ hh) (fun a w hh=>⟨(-1),hL,aR 5 [0,1,2,3,4] rfl rfl (by decide) (by exact⟨rfl,rfl,rfl,rfl,rfl,rfl,trivial⟩) hh⟩)
 rw [aS.eq_2] at hF
 refine go ?_ ?_
 refine aE hF rfl (fun h26 hF=>?_) (fun h26 hF=>?_)
 ·refine go ?_ ?_
  refine aJ (aD (aI (fI ?_)))
  refine yK ?_
  refine aU (aH (aD (yP (fun H E=>∃(x28:Int),dI K a0 a1 a2 a3 a5 a7 x23 (aS K a0 a1 a2 a3 a4 a5 a7 k) x28=some ol24∧H=([⟨some b21,1,42,4,1,(eQ a3)⟩,⟨some b20,1,42,4,1,(eQ a1)⟩,⟨some p0,1,72,3,1,([pI .i64 a4]++[pO b4 n6 c5]++[pO b9 n11 c10])⟩,hO (cH g14) b4 c5 24 n6 a5,hO cI b9 c10 3 n11 a6]++eA cQ 42 g14 a7)∧E=[(0,.vc (pP (some p0) 0)),(1,.vc (pI .i64 a0)),(3,.vc (pI .i64 a2)),(7,.vc (pP (some b20) 0)),(9,.vc (pP (some b21) 0)),(11,.vc (pI .i64 x23)),(12,.vc (pI .i64 x28))]) ?_ (fun Jj29=>?_))))
  ·rintro _ _ ⟨x28,hF,rfl,rfl⟩
   unfold dI at hF
   refine aD ?_
   obtain⟨v32,h33,hF⟩:=aP hF
   obtain⟨v34,h35,hF⟩:=aP hF
   obtain⟨v36,h37,hF⟩:=bC hF w7
   obtain⟨v38,h39,hF⟩:=aP hF
   obtain⟨v40,h41,hF⟩:=aP hF
   obtain⟨v42,h43,hF⟩:=bC hF w7
   obtain⟨v44,h45,hF⟩:=bC hF aBy
   refine iV (0::1::3::7::0::31::63::0::255::511::0::2047::0::4096::12288::28672::0::126976::258048::0::1044480::2093056::0::8388607::16777215::33554431::[]) 26 0 (.v (.vc (pP (some p0) 0))::.v (.vc (pP (some p0) 0))::.v (.vc (pP (some p0) 1))::.v (.vc (pO b4 n6 c5))::.v (.vc (pI .i64 a0))::.v (.vc (pE b4 a0 (cH g14).n 0))::.v (.vc (pO (fL g14 v32).1 (fL g14 v32).2.1 (fL g14 v32).2.2))::.v (.vc (pI .i64 x28))::.v (.vc (pE (fL g14 v32).1 x28 cQ.n 0))::.v (.va (eQ v34))::.v (.va (eQ a1))::.v (.va (eQ v36))::.v (.vc (pP (some p0) 0))::.v (.vc (pP (some p0) 0))::.v (.vc (pP (some p0) 1))::.v (.vc (pO b4 n6 c5))::.v (.vc (pI .i64 a2))::.v (.vc (pE b4 a2 (cH g14).n 0))::.v (.vc (pO (fL g14 v38).1 (fL g14 v38).2.1 (fL g14 v38).2.2))::.v (.vc (pI .i64 x28))::.v (.vc (pE (fL g14 v38).1 x28 cQ.n 0))::.v (.va (eQ v40))::.v (.va (eQ a3))::.v (.va (eQ v42))::.v (.vc (pI .i64 v44))::.v (.vc (pI .i64 v44))::[]) aY ⟨d0 (aM (.inl rfl)) zU1,d0 (qX rfl) zU1,d0 (f7 (off:=0) (k:=1) rfl tyF72_1) zU1,d0 (fF 2 1 rfl rfl rfl rfl (.one tyO23)) zU1,d0 (aM (.inl rfl)) zU1,d0 (d7 (C:=(cH g14)) 3 rfl tyS23 rfl q7 (aC h33).1 (aC h33).2.1) zU2,d0 (iC (C:=(cH g14)) (k:=1) 3 rfl rfl h33 rfl (.one tyO24) rfl) zU1,d0 (aM (.inl rfl)) zU1,d0 (d7 (5+v32) rfl tyS24 (gL 5 rfl q17 q16 (q18 _ (aN h33))) (cY q17 q16 (q18 _ (aN h33))) (aC h35).1 (aC h35).2.1) zU2,d0 (iC (k:=4) (5+v32) rfl (gL 5 rfl q17 q16 (q18 _ (aN h33))) h35 rfl (.agg tyA42) rfl) zU1,d0 (fF 1 4 rfl rfl rfl rfl (.agg tyA42)) zU1,d0 (bJ rfl h37 rfl) zU2,d0 (aM (.inl rfl)) zU1,d0 (qX rfl) zU1,d0 (f7 (off:=0) (k:=1) rfl tyF72_1) zU1,d0 (fF 2 1 rfl rfl rfl rfl (.one tyO23)) zU1,d0 (aM (.inl rfl)) zU1,d0 (d7 (C:=(cH g14)) 3 rfl tyS23 rfl q7 (aC h39).1 (aC h39).2.1) zU2,d0 (iC (C:=(cH g14)) (k:=1) 3 rfl rfl h39 rfl (.one tyO24) rfl) zU1,d0 (aM (.inl rfl)) zU1,d0 (d7 (5+v38) rfl tyS24 (gL 5 rfl q17 q16 (q18 _ (aN h39))) (cY q17 q16 (q18 _ (aN h39))) (aC h41).1 (aC h41).2.1) zU2,d0 (iC (k:=4) (5+v38) rfl (gL 5 rfl q17 q16 (q18 _ (aN h39))) h41 rfl (.agg tyA42) rfl) zU1,d0 (fF 0 4 rfl rfl rfl rfl (.agg tyA42)) zU1,d0 (bJ rfl h43 rfl) zU2,d0 (bJ rfl h45 rfl) zU2,d0 (aM (.inr rfl)) zU1,trivial⟩ (fun bs31 G30=>?_)
   refine go ?_ ?_
   refine aE hF rfl (fun h46 hF=>?_) (fun h46 hF=>?_)
   ·refine go ?_ ?_
    refine fY (fZ ?_)
    obtain rfl:=iD hF
    obtain rfl:=iD hRl24
    exact iT (.inl rfl) Tryz.results48 (.tmp rfl .nil) rfl 5 [2,3,4] rfl rfl (by decide) ⟨rfl,rfl⟩
   obtain⟨v47,h48,hF⟩:=aP hF
   refine go ?_ ?_
   exact aF (fun a w hh=>⟨v47,hF,aR 5 [0,1,2,3,4] rfl rfl (by decide) (by exact⟨rfl,rfl,rfl,rfl,rfl,rfl,trivial⟩) hh⟩)
  refine go ?_ ?_
  refine aE hF rfl (fun h49 hF=>?_) (fun h49 hF=>?_)
  ·refine aI (fI ?_)
   refine aG (qX rfl) zU1 ?_
   refine aG (f7 (off:=0) (k:=0) rfl tyF72_0) zU1 ?_
   refine aG (fF 2 1 rfl rfl rfl rfl (.one tyO3)) zU1 ?_
   obtain⟨v50,h51,hF⟩:=aP hF
   refine aG (aE1 rfl h51) ⟨p6 _ _,rfl,trivial⟩ ?_
   obtain⟨v52,h53,hF⟩:=aP hF
   refine aG (xQ rfl h53) ⟨rfl,p6 _ _,trivial⟩ ?_
   refine yK ?_
   refine aU ?_
   exact eG Jj29 ⟨v52,hF,rfl,rfl⟩ 5 [0,1,2,3,4] rfl rfl ⟨rfl,rfl,rfl,rfl,rfl,rfl,rfl,trivial⟩
  refine fN ?_
  exact eG Jj29 ⟨x23,hF,rfl,rfl⟩ 5 [0,1,2,3,4] rfl rfl ⟨rfl,rfl,rfl,rfl,rfl,rfl,rfl,trivial⟩
 refine bH ?_
 obtain rfl:=iD hF
 exact eG Jj25 ⟨hRl24,rfl,rfl⟩ 5 [2,3,4] rfl rfl trivial
def iH (K:Nat) (a0:Int) (a1:Int) (a4:List Int) (x57:List Nat) (x71:List (List Rat)):Option (Int×(List Nat)×(List Int)×(List (List Rat))):=
 (bK a4 a0).bind fun v77=>(bK a4 a0).bind fun v79=>(pN a4 a0 a1).bind fun x81=>some (v77,x57,x81,x71)
def gZ (K:Nat) (x70:Int) (recl75:(List (List Rat))→Int→Option (List (List Rat))) (x108:List (List Rat)):Option (List (List Rat)):=
 (aQ (x70+1)).bind fun v114=>recl75 x108 v114
def b0 (K:Nat) (a5:List (List Rat)) (x66:List (List Rat)) (v85:Nat) (v87:Rat):Nat→(List (List Rat))→Int→Option (List (List Rat))
 |0,_,_=>none
 |k+1,x103,x107=>bif(decide (x107<((x66.getD v85 []).length:Int))) then((bK (x103.getD v85 []) x107).bind fun v119=>(bK (x103.getD a5.length []) x107).bind fun v121=>(aC1 v87 v121).bind fun v123=>(aFv v119 v123).bind fun v125=>(bK (x103.getD v85 []) x107).bind fun v127=>(pN (x103.getD v85 []) x107 v125).bind fun x129=>(aQ (x107+1)).bind fun v132=>b0 K a5 x66 v85 v87 k (x103.set v85 x129) v132) else(some x103)
def bA (K:Nat) (a0:Int) (a1:Int) (a5:List (List Rat)) (x57:List Nat):Nat→(List (List Rat))→Int→Option (List (List Rat))
 |0,_,_=>none
 |k+1,x66,x70=>bif(decide (x70<(x57.length:Int))) then((bK x57 x70).bind fun v85=>(bK (x66.getD v85 []) a1).bind fun v87=>bif(x70==a0) then((aQ (x70+1)).bind fun v91=>bA K a0 a1 a5 x57 k x66 v91) else((xP v87).bind fun v93=>bif(v93==0) then((aQ (x70+1)).bind fun v96=>bA K a0 a1 a5 x57 k x66 v96) else((b0 K a5 x66 v85 v87 K x66 0).bind fun x108=>gZ K x70 (bA K a0 a1 a5 x57 k) x108))) else(some x66)
def iI (K:Nat) (a0:Int) (a1:Int) (a3:List Nat) (a4:List Int) (a5:List (List Rat)) (x47:List Rat):Option (Int×(List Nat)×(List Int)×(List (List Rat))):=
 (bK a3 a0).bind fun v55=>(pN a3 a0 a5.length).bind fun x57=>(bA K a0 a1 a5 x57 K (a5++[x47]) 0).bind fun x71=>iH K a0 a1 a4 x57 x71
def cE (K:Nat) (a5:List (List Rat)) (x22:List Rat) (v27:Nat) (v30:Rat):Nat→(List Rat)→Int→Option (List Rat)
 |0,_,_=>none
 |k+1,x40,x46=>bif(decide (x46<((cpL x22 (a5.getD v27 [])).length:Int))) then((bK x40 x46).bind fun v137=>(aD0 v137 v30).bind fun v139=>(bK x40 x46).bind fun v141=>(pN x40 x46 v139).bind fun x143=>(aQ (x46+1)).bind fun v146=>cE K a5 x22 v27 v30 k x143 v146) else(some x40)
def gT (K:Nat) (a0:Int) (a1:Int) (a2:Int) (a3:List Nat) (a4:List Int) (a5:List (List Rat)):Option (Int×(List Nat)×(List Int)×(List (List Rat))):=
 (bK a3 a0).bind fun v20=>(y5 ((a5.getD v20 []).length:Int) 0).bind fun x22=>(bK a3 a0).bind fun v27=>(bK (cpL x22 (a5.getD v27 [])) a1).bind fun v30=>(cE K a5 x22 v27 v30 K (cpL x22 (a5.getD v27 [])) 0).bind fun x47=>iI K a0 a1 a3 a4 a5 x47
theorem wP {K:Nat} {a0:Int} {a1:Int} {a2:Int} {a3:List Nat} {a4:List Int} {a5:List (List Rat)} {r:Int×(List Nat)×(List Int)×(List (List Rat))} (hF:gT K a0 a1 a2 a3 a4 a5=some r) {p0:Nat} {b4:Option Nat} {c5 n6:Nat} {b9:Option Nat} {c10 n11:Nat} {g14:List p7} {N15:Nat} (q7:a3.length=n6) (q12:a4.length=n11) (q16:a5.length=N15) (q17:cL g14 a5) (q18:∀k∈a3,k<N15):CtO Tryz.prog 49 ([⟨some p0,1,72,3,1,([pI .i64 a2]++[pO b4 n6 c5]++[pO b9 n11 c10])⟩,hO (cH g14) b4 c5 24 n6 a3,hO cI b9 c10 3 n11 a4]++eA cQ 42 g14 a5) [.vc (pP (some p0) 0),.vc (pI .i64 a0),.vc (pI .i64 a1)] (fun Ho q=>∃b1148 c1149 n1150 g1155 N1156,r.2.1.length=n1150∧r.2.2.1.length=n11∧r.2.2.2.length=N1156∧cL g1155 r.2.2.2∧(∀k∈r.2.1,k<N1156)∧Ho=([⟨some p0,1,72,3,1,([pI .i64 a2]++[pO b1148 n1150 c1149]++[pO b9 n11 c10])⟩,hO (cH g1155) b1148 c1149 24 n1150 r.2.1,hO cI b9 c10 3 n11 r.2.2.1]++eA cQ 42 g1155 r.2.2.2)∧q=.vc (pI .i64 r.1)):=by
 unfold gT at hF
 refine aA Tryz.func49 rfl (by kernel_rfl) Tryz.ntmps49 rfl (fun w0 M0=>?_)
 obtain⟨v20,h21,hF⟩:=aP hF
 refine go ?_ ?_
 refine aG (aBx (C:=cQ) (xs:=(a5.getD v20 [])) (T:=42) rfl tyS24 (cY q17 q16 (q18 _ (aN h21)))) zU1 ?_
 obtain⟨x22,h23,hF⟩:=aP hF
 refine o7 (C:=cQ) rfl tyS24 rfl tyZ42q rfl h23 (fun b24=>?_)
 have hF:=tX h21 hF
 refine go ?_ ?_
 refine aG (aRy 0 (4+v20) rfl tyS24 rfl rfl (rN 4 rfl q17 q16 (q18 _ (aN h21))) (cY q17 q16 (q18 _ (aN h21))) rfl) zU2 ?_
 obtain⟨v30,h31,hF⟩:=aP hF
 refine go ?_ ?_
 refine aG (d7 (C:=cQ) 0 rfl tyS24 rfl (aDb rfl) (aC h31).1 (aC h31).2.1) zU2 ?_
 refine aG (iC (k:=4) 0 rfl rfl h31 rfl (.agg tyA42) rfl) zU1 ?_
 refine aK rfl tyZ42q (fun b32=>?_)
 refine go ?_ ?_
 refine aG (aBx (C:=cQ) (xs:=(cpL x22 (a5.getD v20 []))) (T:=42) rfl tyS24 (aDb rfl)) zU1 ?_
 refine go ?_ ?_
 refine aJ (aX (fun H E=>∃(x47:List Rat),iI K a0 a1 a3 a4 a5 x47=some r∧x47.length=x22.length∧H=([hO cQ b24 x22.length 42 x22.length x47,⟨some p0,1,72,3,1,([pI .i64 a2]++[pO b4 n6 c5]++[pO b9 n11 c10])⟩,hO (cH g14) b4 c5 24 n6 a3,hO cI b9 c10 3 n11 a4]++eA cQ 42 g14 a5)∧E=[(0,.vc (pP (some p0) 0)),(1,.vc (pI .i64 a0)),(2,.vc (pI .i64 a1)),(7,.vc (pO b24 x22.length x22.length))]) ?_ (fun Jj54=>?_))
 ·rintro _ _ ⟨x47,hF,q51,rfl,rfl⟩
  unfold iI at hF
  refine aH (aD (aI (fI ?_)))
  refine aG (qX rfl) zU1 ?_
  refine aG (f7 (off:=0) (k:=1) rfl tyF72_1) zU1 ?_
  refine aG (fF 1 1 rfl rfl rfl rfl (.one tyO23)) zU1 ?_
  refine fI ?_
  refine fI ?_
  have hF:=tX h21 hF
  refine aG (d7 (C:=(cH g14)) 2 rfl tyS23 rfl q7 (aC h21).1 (aC h21).2.1) zU2 ?_
  obtain⟨x57,h58,hF⟩:=aP hF
  refine aQY (show([hO cQ b24 x22.length 42 x22.length x47,⟨some p0,1,72,3,1,([pI .i64 a2]++[pO b4 n6 c5]++[pO b9 n11 c10])⟩,hO (cH (g14++[(b24,x22.length,x22.length)])) b4 c5 24 n6 a3,hO cI b9 c10 3 n11 a4]++eA cQ 42 g14 a5)=([hO cQ b24 x22.length 42 x22.length x47,⟨some p0,1,72,3,1,([pI .i64 a2]++[pO b4 n6 c5]++[pO b9 n11 c10])⟩,hO (cH g14) b4 c5 24 n6 a3,hO cI b9 c10 3 n11 a4]++eA cQ 42 g14 a5) from by rw [aG5 (N:=a5.length) (b24,x22.length,x22.length) q17.1 (aDJ q16 q18)]) ?_
  refine kY (xM (C:=cH (g14++[(b24,x22.length,x22.length)])) (z':=a5.length) 2 rfl rfl h21 h58 tyO24.s (hq:=aNw (b24,x22.length,x22.length) q17.1)) zU2 ?_
  refine aE8 (g:=(b24,x22.length,x22.length)) 0 4 rfl rfl rfl q17 ?_
  refine aO4 7 rfl (aNy (N:=a5.length) (b24,x22.length,x22.length) q17.1) ?_
  refine go ?_ ?_
  refine aJ (aX (fun H E=>∃(x71:List (List Rat)),iH K a0 a1 a4 x57 x71=some r∧x71.length=(N15+1)∧cL (g14++[(b24,x22.length,x22.length)]) x71∧H=([⟨some p0,1,72,3,1,([pI .i64 a2]++[pO b4 n6 c5]++[pO b9 n11 c10])⟩,hO (cH (g14++[(b24,x22.length,x22.length)])) b4 c5 24 n6 x57,hO cI b9 c10 3 n11 a4]++eA cQ 42 (g14++[(b24,x22.length,x22.length)]) x71)∧E=[(0,.vc (pP (some p0) 0)),(1,.vc (pI .i64 a0)),(2,.vc (pI .i64 a1))]) ?_ (fun Jj76=>?_))
  ·rintro _ _ ⟨x71,hF,q72,q73,rfl,rfl⟩
   unfold iH at hF
   obtain⟨v77,h78,hF⟩:=aP hF
   have hF:=tX h78 hF
   obtain⟨x81,h82,hF⟩:=aP hF
   refine go ?_ ?_
   refine fY (fZ ?_)
   obtain rfl:=iD hF
   exact iT (.inl rfl) Tryz.results49 (.tmp rfl .nil) rfl 3 [0,1,2] rfl rfl (by decide) ⟨b4,c5,n6,(g14++[(b24,x22.length,x22.length)]),(N15+1),(bG h58 q7),(bG h82 q12),q72,q73,(uL q18 h58 q16),rfl,rfl⟩
  obtain⟨x71',hL,hRl75⟩:=aP hF
  refine dQ (fun k a w=>∃(x66:List (List Rat)),∃(x70:Int),bA K a0 a1 a5 x57 k x66 x70=some x71'∧x66.length=(N15+1)∧cL (g14++[(b24,x22.length,x22.length)]) x66∧hs _ ([⟨some p0,1,72,3,1,([pI .i64 a2]++[pO b4 n6 c5]++[pO b9 n11 c10])⟩,hO (cH (g14++[(b24,x22.length,x22.length)])) b4 c5 24 n6 x57,hO cI b9 c10 3 n11 a4]++eA cQ 42 (g14++[(b24,x22.length,x22.length)]) x66) [(0,.vc (pP (some p0) 0)),(1,.vc (pI .i64 a0)),(2,.vc (pI .i64 a1)),(7,.vc (pO (fL (g14++[(b24,x22.length,x22.length)]) a5.length).1 (fL (g14++[(b24,x22.length,x22.length)]) a5.length).2.1 (fL (g14++[(b24,x22.length,x22.length)]) a5.length).2.2)),(62,.vc (pO b4 n6 c5)),(63,.vc (pI .i64 (x57.length:Int))),(64,.vc (pI .i64 x70))] a w) K (fun a w ⟨_,_,hF,_,_,_⟩=>by cases hF) (fun k a w ⟨x66,x70,hF,q67,q68,hh⟩=>dP ?_ hh) (fun a w hh=>⟨(a5++[x47]),0,hL,(aCI q16),(aAy q17 q51),aR 3 [0,1,2] rfl rfl (by decide) (by exact⟨rfl,rfl,rfl,rfl,rfl,rfl,rfl,trivial⟩) hh⟩)
  rw [bA.eq_2] at hF
  refine go ?_ ?_
  refine aE hF rfl (fun h84 hF=>?_) (fun h84 hF=>?_)
  ·refine go ?_ ?_
   refine aJ ?_
   obtain⟨v85,h86,v87,h88,hF⟩:=tY hF
   refine go ?_ ?_
   refine aG (d7 (3+v85) rfl tyS24 (rN 3 rfl q68 q67 ((uL q18 h58 q16) _ (aN h86))) (cY q68 q67 ((uL q18 h58 q16) _ (aN h86))) (aC h88).1 (aC h88).2.1) zU2 ?_
   refine aG (iC (k:=4) (3+v85) rfl (rN 3 rfl q68 q67 ((uL q18 h58 q16) _ (aN h86))) h88 rfl (.agg tyA42) rfl) zU1 ?_
   refine aK rfl tyZ42q (fun b89=>?_)
   refine go ?_ ?_
   refine dV hF (fun h90 hF=>?_) (fun h90 hF=>?_)
   ·refine go ?_ ?_
    refine jS rfl ?_
    refine bH ?_
    obtain⟨v91,h92,hF⟩:=aP hF
    refine go ?_ ?_
    exact aF (fun a w hh=>⟨x66,v91,hF,q67,q68,aR 4 [1,2,3] rfl rfl (by decide) (by exact⟨rfl,rfl,rfl,rfl,rfl,rfl,rfl,trivial⟩) hh⟩)
   obtain⟨v93,h94,hF⟩:=bC hF d8
   refine go ?_ ?_
   refine aE hF rfl (fun h95 hF=>?_) (fun h95 hF=>?_)
   ·refine bH ?_
    obtain⟨v96,h97,hF⟩:=aP hF
    refine go ?_ ?_
    exact aF (fun a w hh=>⟨x66,v96,hF,q67,q68,aR 4 [1,2,3] rfl rfl (by decide) (by exact⟨rfl,rfl,rfl,rfl,rfl,rfl,rfl,trivial⟩) hh⟩)
   refine go ?_ ?_
   refine aG (aBx (C:=cQ) (xs:=(x66.getD v85 [])) (T:=42) rfl tyS24 (cY q68 q67 ((uL q18 h58 q16) _ (aN h86)))) zU1 ?_
   refine go ?_ ?_
   refine aJ (aX (fun H E=>∃(x108:List (List Rat)),gZ K x70 (bA K a0 a1 a5 x57 k) x108=some x71'∧x108.length=(N15+1)∧cL (g14++[(b24,x22.length,x22.length)]) x108∧H=([⟨some p0,1,72,3,1,([pI .i64 a2]++[pO b4 n6 c5]++[pO b9 n11 c10])⟩,hO (cH (g14++[(b24,x22.length,x22.length)])) b4 c5 24 n6 x57,hO cI b9 c10 3 n11 a4]++eA cQ 42 (g14++[(b24,x22.length,x22.length)]) x108)∧E=[(0,.vc (pP (some p0) 0)),(1,.vc (pI .i64 a0)),(2,.vc (pI .i64 a1)),(7,.vc (pO (fL (g14++[(b24,x22.length,x22.length)]) a5.length).1 (fL (g14++[(b24,x22.length,x22.length)]) a5.length).2.1 (fL (g14++[(b24,x22.length,x22.length)]) a5.length).2.2)),(62,.vc (pO b4 n6 c5)),(63,.vc (pI .i64 (x57.length:Int))),(64,.vc (pI .i64 x70)),(77,.va (eQ v87)),(78,.vc (pI .i64 v93)),(79,.vc (pB (v93==0)))]) ?_ (fun Jj113=>?_))
   ·rintro _ _ ⟨x108,hF,q109,q110,rfl,rfl⟩
    unfold gZ at hF
    obtain⟨v114,h115,hF⟩:=aP hF
    refine go ?_ ?_
    exact aF (fun a w hh=>⟨x108,v114,hF,q109,q110,aR 3 [0,1,2] rfl rfl (by decide) (by exact⟨rfl,rfl,rfl,rfl,rfl,rfl,rfl,trivial⟩) hh⟩)
   obtain⟨x108',hL,hRl112⟩:=aP hF
   refine dQ (fun k a w=>∃(x103:List (List Rat)),∃(x107:Int),b0 K a5 x66 v85 v87 k x103 x107=some x108'∧x103.length=(N15+1)∧cL (g14++[(b24,x22.length,x22.length)]) x103∧hs _ ([⟨some b89,1,42,4,1,(eQ v87)⟩,⟨some p0,1,72,3,1,([pI .i64 a2]++[pO b4 n6 c5]++[pO b9 n11 c10])⟩,hO (cH (g14++[(b24,x22.length,x22.length)])) b4 c5 24 n6 x57,hO cI b9 c10 3 n11 a4]++eA cQ 42 (g14++[(b24,x22.length,x22.length)]) x103) [(0,.vc (pP (some p0) 0)),(1,.vc (pI .i64 a0)),(2,.vc (pI .i64 a1)),(7,.vc (pO (fL (g14++[(b24,x22.length,x22.length)]) a5.length).1 (fL (g14++[(b24,x22.length,x22.length)]) a5.length).2.1 (fL (g14++[(b24,x22.length,x22.length)]) a5.length).2.2)),(11,.vc (pO (fL (g14++[(b24,x22.length,x22.length)]) v85).1 (fL (g14++[(b24,x22.length,x22.length)]) v85).2.1 (fL (g14++[(b24,x22.length,x22.length)]) v85).2.2)),(12,.vc (pP (some b89) 0)),(62,.vc (pO b4 n6 c5)),(63,.vc (pI .i64 (x57.length:Int))),(64,.vc (pI .i64 x70)),(77,.va (eQ v87)),(78,.vc (pI .i64 v93)),(79,.vc (pB (v93==0))),(82,.vc (pI .i64 ((x66.getD v85 []).length:Int))),(83,.vc (pI .i64 x107))] a w) K (fun a w ⟨_,_,hF,_,_,_⟩=>by cases hF) (fun k a w ⟨x103,x107,hF,q104,q105,hh⟩=>dP ?_ hh) (fun a w hh=>⟨x66,0,hL,q67,q68,aR 4 [0,1,2,3] rfl rfl (by decide) (by exact⟨rfl,rfl,rfl,rfl,rfl,rfl,rfl,rfl,rfl,rfl,rfl,rfl,rfl,rfl,trivial⟩) hh⟩)
   rw [b0.eq_2] at hF
   refine go ?_ ?_
   refine aE hF rfl (fun h116 hF=>?_) (fun h116 hF=>?_)
   ·refine go ?_ ?_
    refine aJ ?_
    obtain⟨v119,h120,v121,h122,hF⟩:=tY hF
    obtain⟨v123,h124,hF⟩:=bC hF vG
    obtain⟨v125,h126,hF⟩:=bC hF xA
    have hF:=tX h120 hF
    refine go ?_ ?_
    refine iV [0,0,0,0,12,28,0,0,0,384,896,1984,4092,8191,16383] 14 1 [.v (.vc (pO (fL (g14++[(b24,x22.length,x22.length)]) v85).1 (fL (g14++[(b24,x22.length,x22.length)]) v85).2.1 (fL (g14++[(b24,x22.length,x22.length)]) v85).2.2)),.v (.vc (pI .i64 x107)),.v (.vc (pO (fL (g14++[(b24,x22.length,x22.length)]) v85).1 (fL (g14++[(b24,x22.length,x22.length)]) v85).2.1 (fL (g14++[(b24,x22.length,x22.length)]) v85).2.2)),.v (.vc (pI .i64 x107)),.v (.vc (pE (fL (g14++[(b24,x22.length,x22.length)]) v85).1 x107 cQ.n 0)),.v (.va (eQ v119)),.v (.va (eQ v87)),.v (.vc (pO (fL (g14++[(b24,x22.length,x22.length)]) a5.length).1 (fL (g14++[(b24,x22.length,x22.length)]) a5.length).2.1 (fL (g14++[(b24,x22.length,x22.length)]) a5.length).2.2)),.v (.vc (pI .i64 x107)),.v (.vc (pE (fL (g14++[(b24,x22.length,x22.length)]) a5.length).1 x107 cQ.n 0)),.v (.va (eQ v121)),.v (.va (eQ v123)),.v (.va (eQ v125)),.v (.vc (pE (fL (g14++[(b24,x22.length,x22.length)]) v85).1 x107 cQ.n 0))] aY ⟨d0 (aM (.inl rfl)) zU1,d0 (aM (.inl rfl)) zU1,d0 (aM (.inl rfl)) zU1,d0 (aM (.inl rfl)) zU1,d0 (d7 (4+v85) rfl tyS24 (gL 4 rfl q105 q104 ((uL q18 h58 q16) _ (aN h86))) (cY q105 q104 ((uL q18 h58 q16) _ (aN h86))) (aC h120).1 (aC h120).2.1) zU2,d0 (iC (k:=4) (4+v85) rfl (gL 4 rfl q105 q104 ((uL q18 h58 q16) _ (aN h86))) h120 rfl (.agg tyA42) rfl) zU1,d0 (fF 0 4 rfl rfl rfl rfl (.agg tyA42)) zU1,d0 (aM (.inl rfl)) zU1,d0 (aM (.inl rfl)) zU1,d0 (d7 (4+a5.length) rfl tyS24 (gL 4 rfl q105 q104 (aGV q16)) (cY q105 q104 (aGV q16)) (aC h122).1 (aC h122).2.1) zU2,d0 (iC (k:=4) (4+a5.length) rfl (gL 4 rfl q105 q104 (aGV q16)) h122 rfl (.agg tyA42) rfl) zU1,d0 (bJ rfl h124 rfl) zU2,d0 (bJ rfl h126 rfl) zU2,d0 (d7 (4+v85) rfl tyS24 (gL 4 rfl q105 q104 ((uL q18 h58 q16) _ (aN h86))) (cY q105 q104 ((uL q18 h58 q16) _ (aN h86))) (aC h120).1 (aC h120).2.1) zU2,trivial⟩ (fun bs118 G117=>?_)
    obtain⟨x129,h130,hF⟩:=aP hF
    refine kY (xM (H':=([⟨some b89,1,42,4,1,(eQ v87)⟩,⟨some p0,1,72,3,1,([pI .i64 a2]++[pO b4 n6 c5]++[pO b9 n11 c10])⟩,hO (cH (g14++[(b24,x22.length,x22.length)])) b4 c5 24 n6 x57,hO cI b9 c10 3 n11 a4]++eA cQ 42 (g14++[(b24,x22.length,x22.length)]) (x103.set v85 x129))) (4+v85) rfl (rN 4 rfl q105 q104 ((uL q18 h58 q16) _ (aN h86))) h120 h130 tyA42.s (hH:=stN 4 rfl q105 q104 ((uL q18 h58 q16) _ (aN h86)))) zU2 ?_
    obtain⟨v132,h133,hF⟩:=aP hF
    refine go ?_ ?_
    exact aF (fun a w hh=>⟨(x103.set v85 x129),v132,hF,(aDf q104),(aEu q105 q104 ((uL q18 h58 q16) _ (aN h86)) (bG h130 rfl)),aR 4 [0,1,2,3] rfl rfl (by decide) (by exact⟨rfl,rfl,rfl,rfl,rfl,rfl,rfl,rfl,rfl,rfl,rfl,rfl,rfl,rfl,trivial⟩) hh⟩)
   refine bH ?_
   obtain rfl:=iD hF
   exact eG Jj113 ⟨x103,hRl112,q104,q105,rfl,rfl⟩ 4 [1,2,3] rfl rfl ⟨rfl,rfl,rfl,rfl,rfl,rfl,rfl,rfl,rfl,rfl,trivial⟩
  refine bH ?_
  obtain rfl:=iD hF
  exact eG Jj76 ⟨x66,hRl75,q67,q68,rfl,rfl⟩ 3 [0,1,2] rfl rfl ⟨rfl,rfl,rfl,trivial⟩
 obtain⟨x47',hL,hRl53⟩:=aP hF
 refine dQ (fun k a w=>∃(x40:List Rat),∃(x46:Int),cE K a5 x22 v20 v30 k x40 x46=some x47'∧x40.length=x22.length∧hs _ ([⟨some b32,1,42,4,1,(eQ v30)⟩,hO cQ b24 x22.length 42 x22.length x40,⟨some p0,1,72,3,1,([pI .i64 a2]++[pO b4 n6 c5]++[pO b9 n11 c10])⟩,hO (cH g14) b4 c5 24 n6 a3,hO cI b9 c10 3 n11 a4]++eA cQ 42 g14 a5) [(0,.vc (pP (some p0) 0)),(1,.vc (pI .i64 a0)),(2,.vc (pI .i64 a1)),(7,.vc (pO b24 x22.length x22.length)),(8,.vc (pP (some b32) 0)),(38,.vc (pI .i64 ((cpL x22 (a5.getD v20 [])).length:Int))),(39,.vc (pI .i64 x46))] a w) K (fun a w ⟨_,_,hF,_,_⟩=>by cases hF) (fun k a w ⟨x40,x46,hF,q44,hh⟩=>dP ?_ hh) (fun a w hh=>⟨(cpL x22 (a5.getD v20 [])),0,hL,(aDb rfl),aR 5 [0,1,2,3,4] rfl rfl (by decide) (by exact⟨rfl,rfl,rfl,rfl,rfl,rfl,rfl,trivial⟩) hh⟩)
 rw [cE.eq_2] at hF
 refine go ?_ ?_
 refine aE hF rfl (fun h134 hF=>?_) (fun h134 hF=>?_)
 ·refine go ?_ ?_
  refine aJ ?_
  obtain⟨v137,h138,hF⟩:=aP hF
  obtain⟨v139,h140,hF⟩:=bC hF w7
  have hF:=tX h138 hF
  refine go ?_ ?_
  refine dr [0,0,0,0,12,28,0,124,255,511] 9 1 ?_ (fun bs136 G135=>?_)
  obtain⟨x143,h144,v146,h147,hF⟩:=tY hF
  refine go ?_ ?_
  exact aF (fun a w hh=>⟨x143,v146,hF,(bG h144 q44),aR 5 [0,1,2,3,4] rfl rfl (by decide) (by exact⟨rfl,rfl,rfl,rfl,rfl,rfl,rfl,trivial⟩) hh⟩)
 refine bH ?_
 obtain rfl:=iD hF
 exact eG Jj54 ⟨x40,hRl53,q44,rfl,rfl⟩ 5 [1,2,3,4] rfl rfl ⟨rfl,rfl,rfl,rfl,trivial⟩
def tA (K:Nat):Option (aL×Int):=
 none
def nS (K:Nat) (x86:Int) (v90:Int×(List Nat)×(List Int)×(List (List Rat))) (x116:Int) (recl87:(List Nat)→(List Int)→(List (List Rat))→Int→Int→Int→Option (LR (aL×Int) Unit)) (x122:Int):Option (LR (aL×Int) Unit):=
 bif(decide (x122<0)) then(some (.ret ((⟨([]:List Rat),([]:List Rat),0⟩:aL),15))) else((aQ (x86+1)).bind fun v126=>recl87 v90.2.1 v90.2.2.1 v90.2.2.2 x122 x116 v126)
def cR (K:Nat) (v6:Int×(List Nat)×(List Int)×(List (List Rat))) (v90:Int×(List Nat)×(List Int)×(List (List Rat))) (x116:Int):Nat→Int→Int→Option Int
 |0,_,_=>none
 |k+1,x120,x121=>bif(decide (x121<(v90.2.1.length:Int))) then((bK v90.2.1 x121).bind fun v129=>(bK (v90.2.2.2.getD v129 []) x116).bind fun v133=>(xP v133).bind fun v135=>bif(decide (0<v135)) then(bif(decide (x120<0)) then((aQ (x121+1)).bind fun v139=>cR K v6 v90 x116 k x121 v139) else((bK (v90.2.2.2.getD v129 []) x116).bind fun v141=>(bK v90.2.1 x120).bind fun v143=>(bK (v90.2.2.2.getD v143 []) x116).bind fun v145=>(dL K x121 v141 x120 v145 v6.1 v90.2.1 v90.2.2.1 v90.2.2.2).bind fun v147=>bif v147 then((aQ (x121+1)).bind fun v150=>cR K v6 v90 x116 k x121 v150) else((aQ (x121+1)).bind fun v152=>cR K v6 v90 x116 k x120 v152))) else((aQ (x121+1)).bind fun v154=>cR K v6 v90 x116 k x120 v154)) else(some x120)
def iW (K:Nat) (v6:Int×(List Nat)×(List Int)×(List (List Rat))) (x86:Int) (v90:Int×(List Nat)×(List Int)×(List (List Rat))) (recl87:(List Nat)→(List Int)→(List (List Rat))→Int→Int→Int→Option (LR (aL×Int) Unit)) (x116:Int):Option (LR (aL×Int) Unit):=
 (cR K v6 v90 x116 K (-1) 0).bind fun x122=>nS K x86 v90 x116 recl87 x122
def cM (K:Nat) (a2:Int) (v6:Int×(List Nat)×(List Int)×(List (List Rat))):Nat→(List Nat)→(List Int)→(List (List Rat))→Int→Int→Int→Option (LR (aL×Int) Unit)
 |0,_,_,_,_,_,_=>none
 |k+1,x66,x72,x78,x84,x85,x86=>bif(x86==a2) then(some (.ret ((⟨([]:List Rat),([]:List Rat),0⟩:aL),16))) else((gT K x84 x85 v6.1 x66 x72 x78).bind fun v90=>(aQ (2*v6.1)).bind fun v105=>bif(v90.1==v105) then((eE K v6.1 v90.2.1 v90.2.2.1 v90.2.2.2).bind fun v108=>(aQ (x86+1)).bind fun v111=>some (.ret ((⟨v108.z,v108.w,v111⟩:aL),0))) else((aQ (v90.1+v6.1)).bind fun v113=>bif(decide (v6.1≤v90.1)) then((aQ (v90.1-v6.1)).bind fun v157=>iW K v6 x86 v90 (cM K a2 v6 k) v157) else(iW K v6 x86 v90 (cM K a2 v6 k) v113)))
def oV (K:Nat) (a2:Int) (v6:Int×(List Nat)×(List Int)×(List (List Rat))) (x40:Int):Option (aL×Int):=
 (aQ (2*v6.1)).bind fun v43=>(cM K a2 v6 K v6.2.1 v6.2.2.1 v6.2.2.2 x40 v43 0).bind fun o=>match o with| .ret r=>some r| .go _=>tA K
def fP (K:Nat) (v6:Int×(List Nat)×(List Int)×(List (List Rat))) (v33:Rat):Nat→Int→Int→Option Int
 |0,_,_=>none
 |k+1,x38,x39=>bif(decide (x39<v6.1)) then((dL K x39 v33 x38 v33 v6.1 v6.2.1 v6.2.2.1 v6.2.2.2).bind fun v160=>bif v160 then((aQ (x39+1)).bind fun v163=>fP K v6 v33 k x39 v163) else((aQ (x39+1)).bind fun v165=>fP K v6 v33 k x38 v165)) else(some x38)
def eN (K:Nat) (a0:List (List Rat)) (a1:List Rat) (a2:Int):Option (aL×Int):=
 (iA K a0 a1).bind fun v2=>bif(!v2) then(some ((⟨([]:List Rat),([]:List Rat),0⟩:aL),1)) else(bif(decide (a2<0)) then(some ((⟨([]:List Rat),([]:List Rat),0⟩:aL),1)) else((mL K a0 a1).bind fun v6=>(gC K a1).bind fun v28=>bif(!v28) then((eE K v6.1 v6.2.1 v6.2.2.1 v6.2.2.2).bind fun v31=>some (v31,0)) else((qof 1 1).bind fun v33=>(fP K v6 v33 K 0 0).bind fun x40=>oV K a2 v6 x40)))
theorem l8 {K:Nat} {a0:List (List Rat)} {a1:List Rat} {a2:Int} {r:aL×Int} (hF:eN K a0 a1 a2=some r):Ct Tryz.prog 13 [.vc (pS (fA cQ) a0),.vc (pS cQ a1),.vc (pI .i64 a2)] (.t2 (.va (aL.enc r.1)) (.vc (pI .i64 r.2))):=by
 unfold eN at hF
 refine aA Tryz.func13 rfl (by kernel_rfl) Tryz.ntmps13 rfl (fun w0 M0=>?_)
 refine aD (aI (aK rfl tyZ30q (fun b1=>?_)))
 obtain⟨v2,h3,hF⟩:=bC hF oI
 refine go ?_ ?_
 refine dV hF (fun h4 hF=>?_) (fun h4 hF=>?_)
 ·refine go ?_ ?_
  refine jS rfl ?_
  refine aD (aI (aG (gH (is:=[]) (xs:=[]) (ps:=[]) rfl tyB30q rfl rfl trivial rfl) trivial ?_))
  exact bQ
 refine go ?_ ?_
 refine aE hF rfl (fun h5 hF=>?_) (fun h5 hF=>?_)
 ·refine aD (aI (aG (gH (is:=[]) (xs:=[]) (ps:=[]) rfl tyB30q rfl rfl trivial rfl) trivial ?_))
  exact bQ
 obtain⟨v6,h7,hF⟩:=aP hF
 refine go ?_ ?_
 refine aD5 [] [0] rfl (aAh h7) zU2 rfl rfl (by decide) ?_
 rintro _ _ ⟨b8,b12,c13,n14,b17,c18,n19,g22,N23,q15,q20,q24,q25,q26,rfl,rfl⟩
 refine lE (iQ [⟨some b8,1,72,3,1,([pI .i64 v6.1]++[pO b12 n14 c13]++[pO b17 n19 c18])⟩,hO (cH g22) b12 c13 24 n14 v6.2.1,hO cI b17 c18 3 n19 v6.2.2.1] (eA cQ 42 g22 v6.2.2.2) [⟨some b1,1,30,3,1,([pS cQ ([]:List Rat)]++[pS cQ ([]:List Rat)]++[pI .i64 0])⟩]) ?_
 obtain⟨v28,h29,hF⟩:=bC hF oU
 refine go ?_ ?_
 refine aE hF rfl (fun h30 hF=>?_) (fun h30 hF=>?_)
 ·obtain⟨v31,h32,hF⟩:=aP hF
  refine go ?_ ?_
  refine m7 4 [0,1,2] [3] rfl (qU h32 q15 q20 q24 q25 q26) zU1 rfl rfl rfl (by decide) ?_
  rintro _ _ ⟨rfl,rfl⟩
  refine lE (iQ [⟨some b8,1,72,3,1,([pI .i64 v6.1]++[pO b12 n14 c13]++[pO b17 n19 c18])⟩,hO (cH g22) b12 c13 24 n14 v6.2.1,hO cI b17 c18 3 n19 v6.2.2.1] (eA cQ 42 g22 v6.2.2.2) [⟨some b1,1,30,3,1,([pS cQ ([]:List Rat)]++[pS cQ ([]:List Rat)]++[pI .i64 0])⟩]) ?_
  exact bQ
 obtain⟨v33,h34,hF⟩:=bC hF rW
 refine go ?_ ?_
 refine aK rfl tyZ42q (fun b35=>?_)
 refine go ?_ ?_
 refine aJ (aX (fun H E=>∃(x40:Int),oV K a2 v6 x40=some r∧H=([⟨some b8,1,72,3,1,([pI .i64 v6.1]++[pO b12 n14 c13]++[pO b17 n19 c18])⟩,hO (cH g22) b12 c13 24 n14 v6.2.1,hO cI b17 c18 3 n19 v6.2.2.1,⟨some b1,1,30,3,1,([pS cQ ([]:List Rat)]++[pS cQ ([]:List Rat)]++[pI .i64 0])⟩]++eA cQ 42 g22 v6.2.2.2)∧E=[(2,.vc (pI .i64 a2)),(6,.vc (pP (some b1) 0)),(8,.vc (pP (some b8) 0)),(10,.vc (pI .i64 x40))]) ?_ (fun Jj42=>?_))
 ·rintro _ _ ⟨x40,hF,rfl,rfl⟩
  unfold oV at hF
  obtain⟨v43,h44,hF⟩:=aP hF
  refine go ?_ ?_
  refine aJ (aX (fun H E=>tA K=some r∧H=[]∧E=[]) ?_ (fun Jj88=>?_))
  ·rintro _ _ ⟨hF,rfl,rfl⟩
   unfold tA at hF
   cases hF
  obtain⟨ol87,hL,hRl87⟩:=aP hF
  refine dQ (fun k a w=>∃(x66:List Nat),∃(x72:List Int),∃(x78:List (List Rat)),∃(x84:Int),∃(x85:Int),∃(x86:Int),∃(b67:Option Nat),∃(c68:Nat),∃(n69:Nat),∃(g79:List p7),∃(N80:Nat),cM K a2 v6 k x66 x72 x78 x84 x85 x86=some ol87∧x66.length=n69∧x72.length=n19∧x78.length=N80∧cL g79 x78∧(∀k∈x66,k<N80)∧hs _ ([⟨some b8,1,72,3,1,([pI .i64 v6.1]++[pO b67 n69 c68]++[pO b17 n19 c18])⟩,hO (cH g79) b67 c68 24 n69 x66,hO cI b17 c18 3 n19 x72,⟨some b1,1,30,3,1,([pS cQ ([]:List Rat)]++[pS cQ ([]:List Rat)]++[pI .i64 0])⟩]++eA cQ 42 g79 x78) [(2,.vc (pI .i64 a2)),(6,.vc (pP (some b1) 0)),(8,.vc (pP (some b8) 0)),(10,.vc (pI .i64 x84)),(12,.vc (pI .i64 x85)),(13,.vc (pI .i64 x86))] a w) K (fun a w ⟨_,_,_,_,_,_,_,_,_,_,_,hF,_,_,_,_,_,_⟩=>by cases hF) (fun k a w ⟨x66,x72,x78,x84,x85,x86,b67,c68,n69,g79,N80,hF,q70,q76,q81,q82,q83,hh⟩=>dP ?_ hh) (fun a w hh=>⟨v6.2.1,v6.2.2.1,v6.2.2.2,x40,v43,0,b12,c13,n14,g22,N23,hL,q15,q20,q24,q25,q26,aR 4 [0,1,2,3] rfl rfl (by decide) (by exact⟨rfl,rfl,rfl,rfl,rfl,rfl,trivial⟩) hh⟩)
  rw [cM.eq_2] at hF
  refine aD (aJ (go ?_ ?_))
  refine aE hF rfl (fun h89 hF=>?_) (fun h89 hF=>?_)
  ·refine aD (aI (aG (gH (is:=[]) (xs:=[]) (ps:=[]) rfl tyB30q rfl rfl trivial rfl) trivial ?_))
   exact bQ
  obtain⟨v90,h91,hF⟩:=aP hF
  refine go ?_ ?_
  refine m7 4 [0,1,2] [3] rfl (wP h91 q70 q76 q81 q82 q83) ⟨rfl,rfl,rfl,trivial⟩ rfl rfl rfl (by decide) ?_
  rintro _ _ ⟨b92,c93,n94,g99,N100,q95,q97,q101,q102,q103,rfl,rfl⟩
  refine lE (iQ [⟨some b8,1,72,3,1,([pI .i64 v6.1]++[pO b92 n94 c93]++[pO b17 n19 c18])⟩,hO (cH g99) b92 c93 24 n94 v90.2.1,hO cI b17 c18 3 n19 v90.2.2.1] (eA cQ 42 g99 v90.2.2.2) [⟨some b1,1,30,3,1,([pS cQ ([]:List Rat)]++[pS cQ ([]:List Rat)]++[pI .i64 0])⟩]) ?_
  have hF:=tX h44 hF
  refine go ?_ ?_
  refine aE hF rfl (fun h107 hF=>?_) (fun h107 hF=>?_)
  ·obtain⟨v108,h109,hF⟩:=aP hF
   refine go ?_ ?_
   refine m7 4 [0,1,2] [3] rfl (qU h109 q95 q97 q101 q102 q103) zU1 rfl rfl rfl (by decide) ?_
   rintro _ _ ⟨rfl,rfl⟩
   refine lE (iQ [⟨some b8,1,72,3,1,([pI .i64 v6.1]++[pO b92 n94 c93]++[pO b17 n19 c18])⟩,hO (cH g99) b92 c93 24 n94 v90.2.1,hO cI b17 c18 3 n19 v90.2.2.1] (eA cQ 42 g99 v90.2.2.2) [⟨some b1,1,30,3,1,([pS cQ ([]:List Rat)]++[pS cQ ([]:List Rat)]++[pI .i64 0])⟩]) ?_
   refine aK rfl tyZ30q (fun b110=>?_)
   obtain⟨v111,h112,hF⟩:=aP hF
   exact bQ
  refine fN (aH (aD (aI (fI ?_))))
  refine fI ?_
  refine aG (qX rfl) zU1 ?_
  refine aG (f7 (off:=0) (k:=0) rfl tyF72_0) zU1 ?_
  refine aG (fF 0 1 rfl rfl rfl rfl (.one tyO3)) zU1 ?_
  obtain⟨v113,h114,hF⟩:=aP hF
  refine aG (xQ rfl h114) zU2 ?_
  refine yK ?_
  refine aU (aH (aD (yP (fun H E=>∃(x116:Int),iW K v6 x86 v90 (cM K a2 v6 k) x116=some ol87∧H=([⟨some b8,1,72,3,1,([pI .i64 v6.1]++[pO b92 n94 c93]++[pO b17 n19 c18])⟩,hO (cH g99) b92 c93 24 n94 v90.2.1,hO cI b17 c18 3 n19 v90.2.2.1,⟨some b1,1,30,3,1,([pS cQ ([]:List Rat)]++[pS cQ ([]:List Rat)]++[pI .i64 0])⟩]++eA cQ 42 g99 v90.2.2.2)∧E=[(2,.vc (pI .i64 a2)),(6,.vc (pP (some b1) 0)),(8,.vc (pP (some b8) 0)),(12,.vc (pI .i64 x116)),(13,.vc (pI .i64 x86))]) ?_ (fun Jj117=>?_))))
  ·rintro _ _ ⟨x116,hF,rfl,rfl⟩
   unfold iW at hF
   refine go ?_ ?_
   refine aJ (aX (fun H E=>∃(x122:Int),nS K x86 v90 x116 (cM K a2 v6 k) x122=some ol87∧H=([⟨some b8,1,72,3,1,([pI .i64 v6.1]++[pO b92 n94 c93]++[pO b17 n19 c18])⟩,hO (cH g99) b92 c93 24 n94 v90.2.1,hO cI b17 c18 3 n19 v90.2.2.1,⟨some b1,1,30,3,1,([pS cQ ([]:List Rat)]++[pS cQ ([]:List Rat)]++[pI .i64 0])⟩]++eA cQ 42 g99 v90.2.2.2)∧E=[(2,.vc (pI .i64 a2)),(6,.vc (pP (some b1) 0)),(8,.vc (pP (some b8) 0)),(10,.vc (pI .i64 x122)),(12,.vc (pI .i64 x116)),(13,.vc (pI .i64 x86))]) ?_ (fun Jj124=>?_))
   ·rintro _ _ ⟨x122,hF,rfl,rfl⟩
    unfold nS at hF
    refine go ?_ ?_
    refine aE hF rfl (fun h125 hF=>?_) (fun h125 hF=>?_)
    ·refine aD (aI (aG (gH (is:=[]) (xs:=[]) (ps:=[]) rfl tyB30q rfl rfl trivial rfl) trivial ?_))
     exact bQ
    obtain⟨v126,h127,hF⟩:=aP hF
    refine go ?_ ?_
    exact aF (fun a w hh=>⟨v90.2.1,v90.2.2.1,v90.2.2.2,x122,x116,v126,b92,c93,n94,g99,N100,hF,q95,q97,q101,q102,q103,aR 4 [0,1,2,3] rfl rfl (by decide) (by exact⟨rfl,rfl,rfl,rfl,rfl,rfl,trivial⟩) hh⟩)
   obtain⟨x122',hL,hRl123⟩:=aP hF
   refine dQ (fun k a w=>∃(x120:Int),∃(x121:Int),cR K v6 v90 x116 k x120 x121=some x122'∧hs _ ([⟨some b8,1,72,3,1,([pI .i64 v6.1]++[pO b92 n94 c93]++[pO b17 n19 c18])⟩,hO (cH g99) b92 c93 24 n94 v90.2.1,hO cI b17 c18 3 n19 v90.2.2.1,⟨some b1,1,30,3,1,([pS cQ ([]:List Rat)]++[pS cQ ([]:List Rat)]++[pI .i64 0])⟩]++eA cQ 42 g99 v90.2.2.2) [(2,.vc (pI .i64 a2)),(6,.vc (pP (some b1) 0)),(8,.vc (pP (some b8) 0)),(10,.vc (pI .i64 x120)),(12,.vc (pI .i64 x116)),(13,.vc (pI .i64 x86)),(100,.vc (pO b92 n94 c93)),(101,.vc (pI .i64 (v90.2.1.length:Int))),(102,.vc (pI .i64 x121))] a w) K (fun a w ⟨_,_,hF,_⟩=>by cases hF) (fun k a w ⟨x120,x121,hF,hh⟩=>dP ?_ hh) (fun a w hh=>⟨(-1),0,hL,aR 4 [0,1,2,3] rfl rfl (by decide) (by exact⟨rfl,rfl,rfl,rfl,rfl,rfl,rfl,rfl,rfl,trivial⟩) hh⟩)
   rw [cR.eq_2] at hF
   refine go ?_ ?_
   refine aE hF rfl (fun h128 hF=>?_) (fun h128 hF=>?_)
   ·refine go ?_ ?_
    refine aJ ?_
    obtain⟨v129,h130,v133,h134,hF⟩:=tY hF
    obtain⟨v135,h136,hF⟩:=bC hF d8
    refine go ?_ ?_
    rcases Bool.eq_false_or_eq_true (decide (0<v135)) with h137|h137
    ·have hF:=rY h137 hF
     rcases Bool.eq_false_or_eq_true (decide (x120<0)) with h138|h138
     ·have hF:=rY h138 hF
      refine iV (0::0::3::7::15::31::63::127::255::511::1023::1023::1023::1023::13311::29695::1023::1023::132095::394239::918527::1023::4064255::8258559::1023::33424383::66978815::134217727::268435455::536870911::[]) 27 3 (.v (.vc (pO (fL g99 v129).1 (fL g99 v129).2.1 (fL g99 v129).2.2))::.v (.vc (pI .i64 x116))::.v (.vc (pE (fL g99 v129).1 x116 cQ.n 0))::.v (.va (eQ v133))::.v (.vc (pI .i64 v135))::.v (.vc (pB (decide (0<v135))))::.v (.vc (pB true))::.v (.vc (pI .i64 x120))::.v (.vc (pB (decide (x120<0))))::.v (.vc (pB true))::.v .un::.v .un::.v .un::.v .un::.v .un::.v .un::.v .un::.v .un::.v .un::.v .un::.v .un::.v .un::.v .un::.v .un::.v .un::.v .un::.v .un::[]) aY ⟨d0 (aM (.inl rfl)) zU1,d0 (aM (.inl rfl)) zU1,d0 (d7 (4+v129) rfl tyS24 (gL 4 rfl q102 q101 (q103 _ (aN h130))) (cY q102 q101 (q103 _ (aN h130))) (aC h134).1 (aC h134).2.1) zU2,d0 (iC (k:=4) (4+v129) rfl (gL 4 rfl q102 q101 (q103 _ (aN h130))) h134 rfl (.agg tyA42) rfl) zU1,d0 (bJ rfl h136 rfl) zU1,d0 (aK9 rfl) ⟨rfl,p6 _ _,trivial⟩,d0 (mE (aM (.inl rfl)) h137) zU1,g0 (aM (.inl rfl)) zU1,g0 (aHf rfl) ⟨rfl,p6 _ _,trivial⟩,g0 (mE (aM (.inl rfl)) h138) zU1,⟨rfl,.skipN⟩,⟨rfl,.skipN⟩,⟨rfl,.skipN⟩,⟨rfl,.skipN⟩,⟨rfl,.skipN⟩,⟨rfl,.skipN⟩,⟨rfl,.skipN⟩,⟨rfl,.skipN⟩,⟨rfl,.skipN⟩,⟨rfl,.skipN⟩,⟨rfl,.skipN⟩,⟨rfl,.skipN⟩,⟨rfl,.skipN⟩,⟨rfl,.skipN⟩,⟨rfl,.skipN⟩,⟨rfl,.skipN⟩,⟨rfl,.skipN⟩,trivial⟩ (fun bs132 G131=>?_)
      refine go ?_ ?_
      refine jS rfl ?_
      obtain⟨v139,h140,hF⟩:=aP hF
      refine go ?_ ?_
      exact aF (fun a w hh=>⟨x121,v139,hF,aR 4 [0,1,2,3] rfl rfl (by decide) (by exact⟨rfl,rfl,rfl,rfl,rfl,rfl,rfl,rfl,rfl,trivial⟩) hh⟩)
     have hF:=p8 h138 hF
     have hF:=tX h134 hF
     obtain⟨v143,h144,hF⟩:=aP hF
     obtain⟨v145,h146,hF⟩:=aP hF
     refine iV (0::0::3::7::15::31::63::127::255::511::1023::1023::1023::1023::13311::29695::1023::1023::132095::394239::918527::1023::4064255::8258559::1023::33424383::66978815::134217727::268435455::536870911::[]) 27 3 (.v (.vc (pO (fL g99 v129).1 (fL g99 v129).2.1 (fL g99 v129).2.2))::.v (.vc (pI .i64 x116))::.v (.vc (pE (fL g99 v129).1 x116 cQ.n 0))::.v (.va (eQ v133))::.v (.vc (pI .i64 v135))::.v (.vc (pB (decide (0<v135))))::.v (.vc (pB true))::.v (.vc (pI .i64 x120))::.v (.vc (pB (decide (x120<0))))::.v (.vc (pB false))::.v (.vc (pP (some b8) 0))::.v (.vc (pI .i64 x121))::.v (.vc (pO (fL g99 v129).1 (fL g99 v129).2.1 (fL g99 v129).2.2))::.v (.vc (pI .i64 x116))::.v (.vc (pE (fL g99 v129).1 x116 cQ.n 0))::.v (.va (eQ v133))::.v (.vc (pI .i64 x120))::.v (.vc (pP (some b8) 0))::.v (.vc (pP (some b8) 0))::.v (.vc (pP (some b8) 1))::.v (.vc (pO b92 n94 c93))::.v (.vc (pI .i64 x120))::.v (.vc (pE b92 x120 (cH g99).n 0))::.v (.vc (pO (fL g99 v143).1 (fL g99 v143).2.1 (fL g99 v143).2.2))::.v (.vc (pI .i64 x116))::.v (.vc (pE (fL g99 v143).1 x116 cQ.n 0))::.v (.va (eQ v145))::[]) aY ⟨d0 (aM (.inl rfl)) zU1,d0 (aM (.inl rfl)) zU1,d0 (d7 (4+v129) rfl tyS24 (gL 4 rfl q102 q101 (q103 _ (aN h130))) (cY q102 q101 (q103 _ (aN h130))) (aC h134).1 (aC h134).2.1) zU2,d0 (iC (k:=4) (4+v129) rfl (gL 4 rfl q102 q101 (q103 _ (aN h130))) h134 rfl (.agg tyA42) rfl) zU1,d0 (bJ rfl h136 rfl) zU1,d0 (aK9 rfl) ⟨rfl,p6 _ _,trivial⟩,d0 (mE (aM (.inl rfl)) h137) zU1,g0 (aM (.inl rfl)) zU1,g0 (aHf rfl) ⟨rfl,p6 _ _,trivial⟩,g0 (mE (aM (.inl rfl)) h138) zU1,g0 (aM (.inl rfl)) zU1,g0 (aM (.inl rfl)) zU1,g0 (aM (.inl rfl)) zU1,g0 (aM (.inl rfl)) zU1,g0 (d7 (4+v129) rfl tyS24 (gL 4 rfl q102 q101 (q103 _ (aN h130))) (cY q102 q101 (q103 _ (aN h130))) (aC h134).1 (aC h134).2.1) zU2,g0 (iC (k:=4) (4+v129) rfl (gL 4 rfl q102 q101 (q103 _ (aN h130))) h134 rfl (.agg tyA42) rfl) zU1,g0 (aM (.inl rfl)) zU1,g0 (aM (.inl rfl)) zU1,g0 (qX rfl) zU1,g0 (f7 (off:=0) (k:=1) rfl tyF72_1) zU1,g0 (fF 0 1 rfl rfl rfl rfl (.one tyO23)) zU1,g0 (aM (.inl rfl)) zU1,g0 (d7 (C:=(cH g99)) 1 rfl tyS23 rfl q95 (aC h144).1 (aC h144).2.1) zU2,g0 (iC (C:=(cH g99)) (k:=1) 1 rfl rfl h144 rfl (.one tyO24) rfl) zU1,g0 (aM (.inl rfl)) zU1,g0 (d7 (4+v143) rfl tyS24 (gL 4 rfl q102 q101 (q103 _ (aN h144))) (cY q102 q101 (q103 _ (aN h144))) (aC h146).1 (aC h146).2.1) zU2,g0 (iC (k:=4) (4+v143) rfl (gL 4 rfl q102 q101 (q103 _ (aN h144))) h146 rfl (.agg tyA42) rfl) zU1,trivial⟩ (fun bs132 G131=>?_)
     obtain⟨v147,h148,hF⟩:=aP hF
     refine uX (aKY 4 [0,1,2] [3] [0,1,2,3] rfl (sE h148 q95 q97 q101 q102 q103) rfl rfl rfl rfl (by decide) (by decide) rfl) ⟨rfl,rfl,rfl,rfl,rfl,trivial⟩ ?_
     refine go ?_ ?_
     refine aE hF rfl (fun h149 hF=>?_) (fun h149 hF=>?_)
     ·obtain⟨v150,h151,hF⟩:=aP hF
      refine go ?_ ?_
      exact aF (fun a w hh=>⟨x121,v150,hF,aR 4 [0,1,2,3] rfl rfl (by decide) (by exact⟨rfl,rfl,rfl,rfl,rfl,rfl,rfl,rfl,rfl,trivial⟩) hh⟩)
     obtain⟨v152,h153,hF⟩:=aP hF
     refine go ?_ ?_
     exact aF (fun a w hh=>⟨x120,v152,hF,aR 4 [0,1,2,3] rfl rfl (by decide) (by exact⟨rfl,rfl,rfl,rfl,rfl,rfl,rfl,rfl,rfl,trivial⟩) hh⟩)
    have hF:=p8 h137 hF
    refine iV (0::0::3::7::15::31::63::127::255::511::1023::1023::1023::1023::13311::29695::1023::1023::132095::394239::918527::1023::4064255::8258559::1023::33424383::66978815::134217727::268435455::536870911::[]) 27 3 (.v (.vc (pO (fL g99 v129).1 (fL g99 v129).2.1 (fL g99 v129).2.2))::.v (.vc (pI .i64 x116))::.v (.vc (pE (fL g99 v129).1 x116 cQ.n 0))::.v (.va (eQ v133))::.v (.vc (pI .i64 v135))::.v (.vc (pB (decide (0<v135))))::.v (.vc (pB false))::.v .un::.v .un::.v .un::.v .un::.v .un::.v .un::.v .un::.v .un::.v .un::.v .un::.v .un::.v .un::.v .un::.v .un::.v .un::.v .un::.v .un::.v .un::.v .un::.v .un::[]) aY ⟨d0 (aM (.inl rfl)) zU1,d0 (aM (.inl rfl)) zU1,d0 (d7 (4+v129) rfl tyS24 (gL 4 rfl q102 q101 (q103 _ (aN h130))) (cY q102 q101 (q103 _ (aN h130))) (aC h134).1 (aC h134).2.1) zU2,d0 (iC (k:=4) (4+v129) rfl (gL 4 rfl q102 q101 (q103 _ (aN h130))) h134 rfl (.agg tyA42) rfl) zU1,d0 (bJ rfl h136 rfl) zU1,d0 (aK9 rfl) ⟨rfl,p6 _ _,trivial⟩,d0 (mE (aM (.inl rfl)) h137) zU1,⟨rfl,.skipN⟩,⟨rfl,.skipN⟩,⟨rfl,.skipN⟩,⟨rfl,.skipU⟩,⟨rfl,.skipU⟩,⟨rfl,.skipU⟩,⟨rfl,.skipU⟩,⟨rfl,.skipU⟩,⟨rfl,.skipU⟩,⟨rfl,.skipU⟩,⟨rfl,.skipU⟩,⟨rfl,.skipU⟩,⟨rfl,.skipU⟩,⟨rfl,.skipU⟩,⟨rfl,.skipU⟩,⟨rfl,.skipU⟩,⟨rfl,.skipU⟩,⟨rfl,.skipU⟩,⟨rfl,.skipU⟩,⟨rfl,.skipU⟩,trivial⟩ (fun bs132 G131=>?_)
    refine go ?_ ?_
    refine vM rfl ?_
    obtain⟨v154,h155,hF⟩:=aP hF
    refine go ?_ ?_
    exact aF (fun a w hh=>⟨x120,v154,hF,aR 4 [0,1,2,3] rfl rfl (by decide) (by exact⟨rfl,rfl,rfl,rfl,rfl,rfl,rfl,rfl,rfl,trivial⟩) hh⟩)
   refine bH ?_
   obtain rfl:=iD hF
   exact eG Jj124 ⟨x120,hRl123,rfl,rfl⟩ 4 [0,1,2,3] rfl rfl ⟨rfl,rfl,rfl,rfl,rfl,rfl,trivial⟩
  refine go ?_ ?_
  refine aE hF rfl (fun h156 hF=>?_) (fun h156 hF=>?_)
  ·refine aI (fI ?_)
   refine fI ?_
   refine aG (qX rfl) zU1 ?_
   refine aG (f7 (off:=0) (k:=0) rfl tyF72_0) zU1 ?_
   refine aG (fF 0 1 rfl rfl rfl rfl (.one tyO3)) zU1 ?_
   obtain⟨v157,h158,hF⟩:=aP hF
   refine aG (aMd rfl h158) zU2 ?_
   refine yK ?_
   refine aU ?_
   exact eG Jj117 ⟨v157,hF,rfl,rfl⟩ 4 [0,1,2,3] rfl rfl ⟨rfl,rfl,rfl,rfl,rfl,trivial⟩
  refine fN ?_
  exact eG Jj117 ⟨v113,hF,rfl,rfl⟩ 4 [0,1,2,3] rfl rfl ⟨rfl,rfl,rfl,rfl,rfl,trivial⟩
 obtain⟨x40',hL,hRl41⟩:=aP hF
 refine dQ (fun k a w=>∃(x38:Int),∃(x39:Int),fP K v6 v33 k x38 x39=some x40'∧hs _ ([⟨some b35,1,42,4,1,(eQ v33)⟩,⟨some b8,1,72,3,1,([pI .i64 v6.1]++[pO b12 n14 c13]++[pO b17 n19 c18])⟩,hO (cH g22) b12 c13 24 n14 v6.2.1,hO cI b17 c18 3 n19 v6.2.2.1,⟨some b1,1,30,3,1,([pS cQ ([]:List Rat)]++[pS cQ ([]:List Rat)]++[pI .i64 0])⟩]++eA cQ 42 g22 v6.2.2.2) [(2,.vc (pI .i64 a2)),(6,.vc (pP (some b1) 0)),(8,.vc (pP (some b8) 0)),(9,.vc (pP (some b35) 0)),(10,.vc (pI .i64 x38)),(39,.vc (pI .i64 v6.1)),(40,.vc (pI .i64 x39))] a w) K (fun a w ⟨_,_,hF,_⟩=>by cases hF) (fun k a w ⟨x38,x39,hF,hh⟩=>dP ?_ hh) (fun a w hh=>⟨0,0,hL,aR 5 [0,1,2,3,4] rfl rfl (by decide) (by exact⟨rfl,rfl,rfl,rfl,rfl,rfl,rfl,trivial⟩) hh⟩)
 rw [fP.eq_2] at hF
 refine go ?_ ?_
 refine aE hF rfl (fun h159 hF=>?_) (fun h159 hF=>?_)
 ·refine go ?_ ?_
  refine aJ ?_
  obtain⟨v160,h161,hF⟩:=aP hF
  refine go ?_ ?_
  refine m7 5 [1,2,3] [0,4] rfl (sE h161 q15 q20 q24 q25 q26) ⟨rfl,rfl,rfl,rfl,rfl,trivial⟩ rfl rfl rfl (by decide) ?_
  rintro _ _ ⟨rfl,rfl⟩
  refine lE (iQ [⟨some b8,1,72,3,1,([pI .i64 v6.1]++[pO b12 n14 c13]++[pO b17 n19 c18])⟩,hO (cH g22) b12 c13 24 n14 v6.2.1,hO cI b17 c18 3 n19 v6.2.2.1] (eA cQ 42 g22 v6.2.2.2) [⟨some b35,1,42,4,1,(eQ v33)⟩,⟨some b1,1,30,3,1,([pS cQ ([]:List Rat)]++[pS cQ ([]:List Rat)]++[pI .i64 0])⟩]) ?_
  refine aU (aH (aE hF rfl (fun h162 hF=>?_) (fun h162 hF=>?_)))
  ·obtain⟨v163,h164,hF⟩:=aP hF
   refine go ?_ ?_
   exact aF (fun a w hh=>⟨x39,v163,hF,aR 5 [3,0,1,2,4] rfl rfl (by decide) (by exact⟨rfl,rfl,rfl,rfl,rfl,rfl,rfl,trivial⟩) hh⟩)
  obtain⟨v165,h166,hF⟩:=aP hF
  refine go ?_ ?_
  exact aF (fun a w hh=>⟨x38,v165,hF,aR 5 [3,0,1,2,4] rfl rfl (by decide) (by exact⟨rfl,rfl,rfl,rfl,rfl,rfl,rfl,trivial⟩) hh⟩)
 refine bH ?_
 obtain rfl:=iD hF
 exact eG Jj42 ⟨x38,hRl41,rfl,rfl⟩ 5 [1,2,3,4] rfl rfl ⟨rfl,rfl,rfl,rfl,trivial⟩
def pU (K:Nat):Option Bool:=
 some true
def iO (K:Nat) (a0:List Rat) (a1:List Rat):Nat→Int→Option (LR Bool Unit)
 |0,_=>none
 |k+1,x3=>bif(decide (x3<(a0.length:Int))) then((bK a0 x3).bind fun v9=>(bK a1 x3).bind fun v11=>(aFA v9 v11).bind fun v13=>bif(!v13) then(some (.ret false)) else((aQ (x3+1)).bind fun v16=>iO K a0 a1 k v16)) else(some (.go ()))
def fW (K:Nat) (a0:List Rat) (a1:List Rat):Option Bool:=
 bif((a0.length:Int) != (a1.length:Int)) then(some false) else((iO K a0 a1 K 0).bind fun o=>match o with| .ret r=>some r| .go _=>pU K)
theorem l6 {K:Nat} {a0:List Rat} {a1:List Rat} {r:Bool} (hF:fW K a0 a1=some r):Ct Tryz.prog 15 [.vc (pS cQ a0),.vc (pS cQ a1)] (.vc (pB r)):=by
 unfold fW at hF
 refine aA Tryz.func15 rfl (by kernel_rfl) Tryz.ntmps15 rfl (fun w0 M0=>?_)
 refine go ?_ ?_
 refine aE hF rfl (fun h1 hF=>?_) (fun h1 hF=>?_)
 ·exact bQ
 refine go ?_ ?_
 refine aJ (aX (fun H E=>pU K=some r∧H=[]∧E=[]) ?_ (fun Jj5=>?_))
 ·rintro _ _ ⟨hF,rfl,rfl⟩
  unfold pU at hF
  exact bQ
 obtain⟨ol4,hL,hRl4⟩:=aP hF
 refine dQ (fun k a w=>∃(x3:Int),iO K a0 a1 k x3=some ol4∧hs _ [] [(0,.vc (pS cQ a0)),(1,.vc (pS cQ a1)),(5,.vc (pI .i64 x3))] a w) K (fun a w ⟨_,hF,_⟩=>by cases hF) (fun k a w ⟨x3,hF,hh⟩=>dP ?_ hh) (fun a w hh=>⟨0,hL,iF [] hh⟩)
 rw [iO.eq_2] at hF
 refine go ?_ ?_
 refine aE hF rfl (fun h6 hF=>?_) (fun h6 hF=>?_)
 ·refine go ?_ ?_
  refine aJ (aD ?_)
  obtain⟨v9,h10,hF⟩:=aP hF
  obtain⟨v11,h12,hF⟩:=aP hF
  obtain⟨v13,h14,hF⟩:=bC hF aBY
  refine dr [0,0,3,7,0,0,48,112,255,511] 10 0 ?_ (fun bs8 G7=>?_)
  refine aU (aH (aE hF rfl (fun h15 hF=>?_) (fun h15 hF=>?_)))
  ·exact bQ
  obtain⟨v16,h17,hF⟩:=aP hF
  refine go ?_ ?_
  exact aF (fun a w hh=>⟨v16,hF,iF [] hh⟩)
 refine bH ?_
 obtain rfl:=iD hF
 exact rO Jj5 ⟨hRl4,rfl,rfl⟩ []
def yH (K:Nat) (x7:Rat):Option Rat:=
 some x7
def sU (K:Nat) (a0:List Rat):Nat→Rat→Int→Option Rat
 |0,_,_=>none
 |k+1,x5,x6=>bif(decide (x6<(a0.length:Int))) then((bK a0 x6).bind fun v11=>(aFu x5 v11).bind fun v14=>(aQ (x6+1)).bind fun v16=>sU K a0 k v14 v16) else(some x5)
def aBJ (K:Nat) (a0:List Rat):Option Rat:=
 (sU K a0 K 0 0).bind fun x7=>yH K x7
theorem aJd {K:Nat} {a0:List Rat} {r:Rat} (hF:aBJ K a0=some r):Ct Tryz.prog 126 [.vc (pS cQ a0)] (.va (eQ r)):=by
 unfold aBJ at hF
 refine aA Tryz.func126 rfl (by kernel_rfl) Tryz.ntmps126 rfl (fun w0 M0=>?_)
 refine aD (aI (aK rfl tyZ42q (fun b1=>?_)))
 refine go ?_ ?_
 refine aK rfl tyZ42q (fun b2=>?_)
 refine go ?_ ?_
 refine aJ (aX (fun H E=>∃(x7:Rat),yH K x7=some r∧H=[⟨some b2,1,42,4,1,(eQ x7)⟩,⟨some b1,1,42,4,1,(eQ 0)⟩]∧E=[(2,.vc (pP (some b1) 0)),(3,.vc (pP (some b2) 0))]) ?_ (fun Jj9=>?_))
 ·rintro _ _ ⟨x7,hF,rfl,rfl⟩
  unfold yH at hF
  exact bQ
 obtain⟨x7',hL,hRl8⟩:=aP hF
 refine dQ (fun k a w=>∃(x5:Rat),∃(x6:Int),sU K a0 k x5 x6=some x7'∧hs _ [⟨some b2,1,42,4,1,(eQ x5)⟩,⟨some b1,1,42,4,1,(eQ 0)⟩] [(2,.vc (pP (some b1) 0)),(3,.vc (pP (some b2) 0)),(6,.vc (pS cQ a0)),(7,.vc (pI .i64 (a0.length:Int))),(8,.vc (pI .i64 x6))] a w) K (fun a w ⟨_,_,hF,_⟩=>by cases hF) (fun k a w ⟨x5,x6,hF,hh⟩=>dP ?_ hh) (fun a w hh=>⟨0,0,hL,iF [0,1] hh⟩)
 rw [sU.eq_2] at hF
 refine go ?_ ?_
 refine aE hF rfl (fun h10 hF=>?_) (fun h10 hF=>?_)
 ·refine go ?_ ?_
  refine aJ ?_
  obtain⟨v11,h12,hF⟩:=aP hF
  refine go ?_ ?_
  refine aK rfl tyZ42q (fun b13=>?_)
  obtain⟨v14,h15,hF⟩:=bC hF aCc
  obtain⟨v16,h17,hF⟩:=aP hF
  refine go ?_ ?_
  exact aF (fun a w hh=>⟨v14,v16,hF,iF [1,2] hh⟩)
 refine bH ?_
 obtain rfl:=iD hF
 exact rO Jj9 ⟨x5,hRl8,rfl,rfl⟩ [0,1]
def xE (K:Nat) (x18:List Rat):Option Rat:=
 (aBJ K x18).bind fun v26=>some v26
def rG (K:Nat) (a0:List Rat) (a1:List Rat):Nat→(List Rat)→Int→Option (List Rat)
 |0,_,_=>none
 |k+1,x11,x17=>bif(decide (x17<(min (a0.length:Int) (a1.length:Int)))) then((bK a0 x17).bind fun v31=>(bK a1 x17).bind fun v33=>(aC1 v31 v33).bind fun v35=>(rM x11 [v35]).bind fun x37=>(aQ (x17+1)).bind fun v44=>rG K a0 a1 k x37 v44) else(some x11)
def wX (K:Nat) (a0:List Rat) (a1:List Rat):Option Rat:=
 (rG K a0 a1 K ([]:List Rat) 0).bind fun x18=>xE K x18
theorem aCi {K:Nat} {a0:List Rat} {a1:List Rat} {r:Rat} (hF:wX K a0 a1=some r):Ct Tryz.prog 73 [.vc (pS cQ a0),.vc (pS cQ a1)] (.va (eQ r)):=by
 unfold wX at hF
 refine aA Tryz.func73 rfl (by kernel_rfl) Tryz.ntmps73 rfl (fun w0 M0=>?_)
 refine aD (aI (aK rfl tyZ42q (fun b1=>?_)))
 refine aU (aH (aD (aI (qE cQ 42 rfl ?_))))
 refine go ?_ ?_
 refine aJ (aX (fun H E=>∃(x18:List Rat),∃(b19:Option Nat),∃(c20:Nat),∃(n21:Nat),xE K x18=some r∧x18.length=n21∧H=[hO cQ b19 c20 42 n21 x18,⟨some b1,1,42,4,1,(eQ 0)⟩]∧E=[(4,.vc (pP (some b1) 0)),(5,.vc (pO b19 n21 c20))]) ?_ (fun Jj25=>?_))
 ·rintro _ _ ⟨x18,b19,c20,n21,hF,q22,rfl,rfl⟩
  unfold xE at hF
  refine aH (aD (aI (fI ?_)))
  refine vX 0 [5,28] rfl q22 zU2 rfl ?_
  obtain⟨v26,h27,hF⟩:=bC hF aJd
  exact bQ
 obtain⟨x18',hL,hRl24⟩:=aP hF
 refine dQ (fun k a w=>∃(x11:List Rat),∃(x17:Int),∃(b12:Option Nat),∃(c13:Nat),∃(n14:Nat),rG K a0 a1 k x11 x17=some x18'∧x11.length=n14∧hs _ [hO cQ b12 c13 42 n14 x11,⟨some b1,1,42,4,1,(eQ 0)⟩] [(0,.vc (pS cQ a0)),(1,.vc (pS cQ a1)),(4,.vc (pP (some b1) 0)),(5,.vc (pO b12 n14 c13)),(11,.vc (pI .i64 (min (a0.length:Int) (a1.length:Int)))),(12,.vc (pI .i64 x17))] a w) K (fun a w ⟨_,_,_,_,_,hF,_,_⟩=>by cases hF) (fun k a w ⟨x11,x17,b12,c13,n14,hF,q15,hh⟩=>dP ?_ hh) (fun a w hh=>⟨([]:List Rat),0,none,0,0,hL,rfl,iF [0,1] hh⟩)
 rw [rG.eq_2] at hF
 refine go ?_ ?_
 refine aE hF rfl (fun h28 hF=>?_) (fun h28 hF=>?_)
 ·refine go ?_ ?_
  refine aJ ?_
  obtain⟨v31,h32,v33,h34,hF⟩:=tY hF
  obtain⟨v35,h36,hF⟩:=bC hF vG
  refine go ?_ ?_
  refine iV [0,0,0,6,14,0,0,96,224,510,1022,2047,4095] 11 2 [.v (.vc (pO b12 n14 c13)),.v (.vc (pS cQ a0)),.v (.vc (pI .i64 x17)),.v (.vc (pM (cQ.e v31))),.v (.va (eQ v31)),.v (.vc (pS cQ a1)),.v (.vc (pI .i64 x17)),.v (.vc (pM (cQ.e v33))),.v (.va (eQ v33)),.v (.va (eQ v35)),.v (.vc (pS cQ [v35]))] aY ⟨d0 (aM (.inl rfl)) zU1,d0 (aM (.inl rfl)) zU1,d0 (aM (.inl rfl)) zU1,d0 (aDu rfl tyS24 h32) zU2,d0 (aBh 4 rfl rfl (.agg tyA42)) zU1,d0 (aM (.inl rfl)) zU1,d0 (aM (.inl rfl)) zU1,d0 (aDu rfl tyS24 h34) zU2,d0 (aBh 4 rfl rfl (.agg tyA42)) zU1,d0 (bJ rfl h36 rfl) zU2,d0 (gG (C:=cQ) (xs:=[.tmp 24]) (ps:=[.va (eQ v35)]) (zs:=[v35]) rfl tyS24 rfl ⟨⟨trivial,rfl⟩,trivial⟩ rfl) zU1,trivial⟩ (fun bs30 G29=>?_)
  obtain⟨x37,h38,hF⟩:=aP hF
  refine mN 0 rfl tyS24 rfl rfl q15 rfl rfl h38 (fun b39 c40 H41 e42=>?_)
  cases e42
  obtain⟨v44,h45,hF⟩:=aP hF
  refine go ?_ ?_
  exact aF (fun a w hh=>⟨x37,v44,b39,c40,(n14+[v35].length),hF,(cX h38 q15),iF [0,1] hh⟩)
 refine bH ?_
 obtain rfl:=iD hF
 exact rO Jj25 ⟨x11,b12,c13,n14,hRl24,q15,rfl,rfl⟩ [0,1]
def nN (K:Nat) (x20:List Rat):Option (List Rat):=
 some x20
def gO (K:Nat) (a0:List (List Rat)) (a1:List Rat) (a2:List Rat):Nat→(List Rat)→Int→Option (List Rat)
 |0,_,_=>none
 |k+1,x13,x19=>bif(decide (x19<(a0.length:Int))) then((bK a0 x19).bind fun v29=>(wX K v29 a2).bind fun v33=>(bK a1 x19).bind fun v35=>(aFu v33 v35).bind fun v37=>(bK x13 x19).bind fun v39=>(pN x13 x19 v37).bind fun x41=>(aQ (x19+1)).bind fun v44=>gO K a0 a1 a2 k x41 v44) else(some x13)
def rS (K:Nat) (a0:List (List Rat)) (a1:List Rat) (a2:List Rat):Option (List Rat):=
 (y5 (a1.length:Int) 0).bind fun x1=>(gO K a0 a1 a2 K x1 0).bind fun x20=>nN K x20
theorem aBz {K:Nat} {a0:List (List Rat)} {a1:List Rat} {a2:List Rat} {r:List Rat} (hF:rS K a0 a1 a2=some r):Ct Tryz.prog 57 [.vc (pS (fA cQ) a0),.vc (pS cQ a1),.vc (pS cQ a2)] (.vc (pS cQ r)):=by
 unfold rS at hF
 refine aA Tryz.func57 rfl (by kernel_rfl) Tryz.ntmps57 rfl (fun w0 M0=>?_)
 refine aD (aI (aG (aM (.inr rfl)) ⟨eI cQ,trivial⟩ ?_))
 obtain⟨x1,h2,hF⟩:=aP hF
 refine go ?_ ?_
 refine o7 (C:=cQ) rfl tyS24 rfl tyZ42q rfl h2 (fun b3=>?_)
 refine go ?_ ?_
 refine aJ (aX (fun H E=>∃(x20:List Rat),nN K x20=some r∧x20.length=x1.length∧H=[hO cQ b3 x1.length 42 x1.length x20]∧E=[(7,.vc (pO b3 x1.length x1.length))]) ?_ (fun Jj27=>?_))
 ·rintro _ _ ⟨x20,hF,q24,rfl,rfl⟩
  unfold nN at hF
  refine go ?_ ?_
  refine fY (fZ (tC 0 [6,7,32] rfl q24 ⟨rfl,rfl,rfl,trivial⟩ rfl ?_))
  obtain rfl:=iD hF
  exact jL (.inl rfl) Tryz.results57 (.tmp rfl .nil) rfl rfl
 obtain⟨x20',hL,hRl26⟩:=aP hF
 refine dQ (fun k a w=>∃(x13:List Rat),∃(x19:Int),gO K a0 a1 a2 k x13 x19=some x20'∧x13.length=x1.length∧hs _ [hO cQ b3 x1.length 42 x1.length x13] [(1,.vc (pS cQ a1)),(2,.vc (pS cQ a2)),(7,.vc (pO b3 x1.length x1.length)),(13,.vc (pS (fA cQ) a0)),(14,.vc (pI .i64 (a0.length:Int))),(15,.vc (pI .i64 x19))] a w) K (fun a w ⟨_,_,hF,_,_⟩=>by cases hF) (fun k a w ⟨x13,x19,hF,q17,hh⟩=>dP ?_ hh) (fun a w hh=>⟨x1,0,hL,rfl,iF [0] hh⟩)
 rw [gO.eq_2] at hF
 refine go ?_ ?_
 refine aE hF rfl (fun h28 hF=>?_) (fun h28 hF=>?_)
 ·refine go ?_ ?_
  refine aJ ?_
  obtain⟨v29,h30,hF⟩:=aP hF
  obtain⟨v33,h34,hF⟩:=bC hF aCi
  obtain⟨v35,h36,hF⟩:=aP hF
  obtain⟨v37,h38,hF⟩:=bC hF aCc
  obtain⟨v39,h40,hF⟩:=aP hF
  refine go ?_ ?_
  refine dr [0,0,0,0,12,0,0,96,224,508,1023,2047] 11 1 ?_ (fun bs32 G31=>?_)
  obtain⟨x41,h42,v44,h45,hF⟩:=tY hF
  refine go ?_ ?_
  exact aF (fun a w hh=>⟨x41,v44,hF,(bG h42 q17),iF [0] hh⟩)
 refine bH ?_
 obtain rfl:=iD hF
 exact rO Jj27 ⟨x13,hRl26,q17,rfl,rfl⟩ [0]
def oS (K:Nat) (v11:List Rat):Option Bool:=
 (gC K v11).bind fun v17=>some (!v17)
def fH (K:Nat) (a2:List Rat) (v11:List Rat):Nat→Int→Option (LR Bool Unit)
 |0,_=>none
 |k+1,x14=>bif(decide (x14<(a2.length:Int))) then((bK a2 x14).bind fun v20=>(xP v20).bind fun v22=>bif(decide (0<v22)) then((bK v11 x14).bind fun v25=>(xP v25).bind fun v27=>bif(v27 != 0) then(some (.ret false)) else((aQ (x14+1)).bind fun v30=>fH K a2 v11 k v30)) else((aQ (x14+1)).bind fun v32=>fH K a2 v11 k v32)) else(some (.go ()))
def mT (K:Nat) (a0:List (List Rat)) (a1:List Rat) (a2:List Rat):Option Bool:=
 (iA K a0 a1).bind fun v1=>bif(!v1) then(some false) else(bif((a2.length:Int) != (a1.length:Int)) then(some false) else((kB K a2).bind fun v5=>bif(!v5) then(some false) else((gC K a2).bind fun v8=>bif v8 then(some false) else((rS K a0 a1 a2).bind fun v11=>(fH K a2 v11 K 0).bind fun o=>match o with| .ret r=>some r| .go _=>oS K v11))))
theorem yA {K:Nat} {a0:List (List Rat)} {a1:List Rat} {a2:List Rat} {r:Bool} (hF:mT K a0 a1 a2=some r):Ct Tryz.prog 16 [.vc (pS (fA cQ) a0),.vc (pS cQ a1),.vc (pS cQ a2)] (.vc (pB r)):=by
 unfold mT at hF
 refine aA Tryz.func16 rfl (by kernel_rfl) Tryz.ntmps16 rfl (fun w0 M0=>?_)
 obtain⟨v1,h2,hF⟩:=bC hF oI
 refine go ?_ ?_
 refine dV hF (fun h3 hF=>?_) (fun h3 hF=>?_)
 ·refine go ?_ ?_
  refine jS rfl ?_
  exact bQ
 refine go ?_ ?_
 refine dV hF (fun h4 hF=>?_) (fun h4 hF=>?_)
 ·refine go ?_ ?_
  refine jS rfl ?_
  exact bQ
 obtain⟨v5,h6,hF⟩:=bC hF sO
 refine go ?_ ?_
 refine dV hF (fun h7 hF=>?_) (fun h7 hF=>?_)
 ·refine go ?_ ?_
  refine jS rfl ?_
  exact bQ
 obtain⟨v8,h9,hF⟩:=bC hF oU
 refine go ?_ ?_
 refine aE hF rfl (fun h10 hF=>?_) (fun h10 hF=>?_)
 ·exact bQ
 obtain⟨v11,h12,hF⟩:=bC hF aBz
 refine go ?_ ?_
 refine aJ (aX (fun H E=>oS K v11=some r∧H=[]∧E=[(7,.vc (pS cQ v11))]) ?_ (fun Jj16=>?_))
 ·rintro _ _ ⟨hF,rfl,rfl⟩
  unfold oS at hF
  obtain⟨v17,h18,hF⟩:=bC hF oU
  exact bQ
 obtain⟨ol15,hL,hRl15⟩:=aP hF
 refine dQ (fun k a w=>∃(x14:Int),fH K a2 v11 k x14=some ol15∧hs _ [] [(2,.vc (pS cQ a2)),(7,.vc (pS cQ v11)),(34,.vc (pI .i64 (a2.length:Int))),(35,.vc (pI .i64 x14))] a w) K (fun a w ⟨_,hF,_⟩=>by cases hF) (fun k a w ⟨x14,hF,hh⟩=>dP ?_ hh) (fun a w hh=>⟨0,hL,iF [] hh⟩)
 rw [fH.eq_2] at hF
 refine go ?_ ?_
 refine aE hF rfl (fun h19 hF=>?_) (fun h19 hF=>?_)
 ·refine go ?_ ?_
  refine aJ ?_
  obtain⟨v20,h21,hF⟩:=aP hF
  obtain⟨v22,h23,hF⟩:=bC hF d8
  refine go ?_ ?_
  refine dV hF (fun h24 hF=>?_) (fun h24 hF=>?_)
  ·obtain⟨v25,h26,hF⟩:=aP hF
   obtain⟨v27,h28,hF⟩:=bC hF d8
   refine go ?_ ?_
   refine aE hF rfl (fun h29 hF=>?_) (fun h29 hF=>?_)
   ·exact bQ
   obtain⟨v30,h31,hF⟩:=aP hF
   refine go ?_ ?_
   exact aF (fun a w hh=>⟨v30,hF,iF [] hh⟩)
  refine go ?_ ?_
  refine vM rfl ?_
  obtain⟨v32,h33,hF⟩:=aP hF
  refine go ?_ ?_
  exact aF (fun a w hh=>⟨v32,hF,iF [] hh⟩)
 refine bH ?_
 obtain rfl:=iD hF
 exact rO Jj16 ⟨hRl15,rfl,rfl⟩ []
def uB (K:Nat) (x17:List Rat):Option (List Rat):=
 some x17
def rB (K:Nat) (a0:List Int):Nat→(List Rat)→Int→Option (List Rat)
 |0,_,_=>none
 |k+1,x10,x16=>bif(decide (x16<(a0.length:Int))) then((bK a0 x16).bind fun v26=>(qof v26 1).bind fun v28=>(rM x10 [v28]).bind fun x30=>(aQ (x16+1)).bind fun v37=>rB K a0 k x30 v37) else(some x10)
def dJ (K:Nat) (a0:List Int):Option (List Rat):=
 (rB K a0 K ([]:List Rat) 0).bind fun x17=>uB K x17
theorem eF {K:Nat} {a0:List Int} {r:List Rat} (hF:dJ K a0=some r):Ct Tryz.prog 21 [.vc (pS cI a0)] (.vc (pS cQ r)):=by
 unfold dJ at hF
 refine aA Tryz.func21 rfl (by kernel_rfl) Tryz.ntmps21 rfl (fun w0 M0=>?_)
 refine aD (aI (aG (aM (.inr rfl)) ⟨eI cQ,trivial⟩ ?_))
 refine aU (aH (aD (aI (qE cQ 42 rfl ?_))))
 refine go ?_ ?_
 refine aJ (aX (fun H E=>∃(x17:List Rat),∃(b18:Option Nat),∃(c19:Nat),∃(n20:Nat),uB K x17=some r∧x17.length=n20∧H=[hO cQ b18 c19 42 n20 x17]∧E=[(3,.vc (pO b18 n20 c19))]) ?_ (fun Jj24=>?_))
 ·rintro _ _ ⟨x17,b18,c19,n20,hF,q21,rfl,rfl⟩
  unfold uB at hF
  refine go ?_ ?_
  refine fY (fZ (tC 0 [2,3,19] rfl q21 ⟨rfl,rfl,rfl,trivial⟩ rfl ?_))
  obtain rfl:=iD hF
  exact jL (.inl rfl) Tryz.results21 (.tmp rfl .nil) rfl rfl
 obtain⟨x17',hL,hRl23⟩:=aP hF
 refine dQ (fun k a w=>∃(x10:List Rat),∃(x16:Int),∃(b11:Option Nat),∃(c12:Nat),∃(n13:Nat),rB K a0 k x10 x16=some x17'∧x10.length=n13∧hs _ [hO cQ b11 c12 42 n13 x10] [(0,.vc (pS cI a0)),(3,.vc (pO b11 n13 c12)),(4,.vc (pI .i64 x16))] a w) K (fun a w ⟨_,_,_,_,_,hF,_,_⟩=>by cases hF) (fun k a w ⟨x10,x16,b11,c12,n13,hF,q14,hh⟩=>dP ?_ hh) (fun a w hh=>⟨([]:List Rat),0,none,0,0,hL,rfl,iF [0] hh⟩)
 rw [rB.eq_2] at hF
 refine go ?_ ?_
 refine aE hF rfl (fun h25 hF=>?_) (fun h25 hF=>?_)
 ·refine go ?_ ?_
  refine aJ ?_
  obtain⟨v26,h27,hF⟩:=aP hF
  obtain⟨v28,h29,hF⟩:=bC hF dK
  refine go ?_ ?_
  refine aG (gG (C:=cQ) (xs:=[.tmp 16]) (ps:=[.va (eQ v28)]) (zs:=[v28]) rfl tyS24 rfl ⟨⟨trivial,rfl⟩,trivial⟩ rfl) zU1 ?_
  obtain⟨x30,h31,hF⟩:=aP hF
  refine mN 0 rfl tyS24 rfl rfl q14 rfl rfl h31 (fun b32 c33 H34 e35=>?_)
  cases e35
  obtain⟨v37,h38,hF⟩:=aP hF
  refine go ?_ ?_
  exact aF (fun a w hh=>⟨x30,v37,b32,c33,(n13+[v28].length),hF,(cX h31 q14),iF [0] hh⟩)
 refine bH ?_
 obtain rfl:=iD hF
 exact rO Jj24 ⟨x10,b11,c12,n13,hRl23,q14,rfl,rfl⟩ [0]
def pG (K:Nat):Option Int:=
 some (-1)
def l3 (K:Nat) (a0:List aO) (a1:(aO→Option Bool)):Nat→Int→Option (LR Int Unit)
 |0,_=>none
 |k+1,x2=>bif(decide (x2<(a0.length:Int))) then((bK a0 x2).bind fun v6=>(a1 v6).bind fun v8=>bif v8 then(some (.ret x2)) else((aQ (x2+1)).bind fun v11=>l3 K a0 a1 k v11)) else(some (.go ()))
def rZ (K:Nat) (a0:List aO) (a1:(aO→Option Bool)):Option Int:=
 (l3 K a0 a1 K 0).bind fun o=>match o with| .ret r=>some r| .go _=>pG K
theorem zW {K:Nat} {a0:List aO} {a1:(aO→Option Bool)} {r:Int} (hF:rZ K a0 a1=some r):Ct Tryz.prog 168 [.vc (pS aO.cod a0),.vc (pFn Tryz.prog (fun x:aO=>[.va (aO.enc x)]) (fun r:Bool=>.vc (pB r)) a1)] (.vc (pI .i64 r)):=by
 unfold rZ at hF
 refine aA Tryz.func168 rfl (by kernel_rfl) Tryz.ntmps168 rfl (fun w0 M0=>?_)
 refine go ?_ ?_
 refine aJ (aX (fun H E=>pG K=some r∧H=[]∧E=[]) ?_ (fun Jj4=>?_))
 ·rintro _ _ ⟨hF,rfl,rfl⟩
  unfold pG at hF
  exact bQ
 obtain⟨ol3,hL,hRl3⟩:=aP hF
 refine dQ (fun k a w=>∃(x2:Int),l3 K a0 a1 k x2=some ol3∧hs _ [] [(0,.vc (pS aO.cod a0)),(1,.vc (pFn Tryz.prog (fun x:aO=>[.va (aO.enc x)]) (fun r:Bool=>.vc (pB r)) a1)),(7,.vc (pI .i64 (a0.length:Int))),(8,.vc (pI .i64 x2))] a w) K (fun a w ⟨_,hF,_⟩=>by cases hF) (fun k a w ⟨x2,hF,hh⟩=>dP ?_ hh) (fun a w hh=>⟨0,hL,iF [] hh⟩)
 rw [l3.eq_2] at hF
 refine go ?_ ?_
 refine aE hF rfl (fun h5 hF=>?_) (fun h5 hF=>?_)
 ·refine go ?_ ?_
  refine aJ ?_
  obtain⟨v6,h7,v8,h9,hF⟩:=tY hF
  refine go ?_ ?_
  refine aG (aCF (pre:=fun x:aO=>[.va (aO.enc x)]) (post:=fun r:Bool=>.vc (pB r)) (x:=v6) (r:=v8) rfl h9 rfl) zU2 ?_
  refine aU (aH (aE hF rfl (fun h10 hF=>?_) (fun h10 hF=>?_)))
  ·exact bQ
  obtain⟨v11,h12,hF⟩:=aP hF
  refine go ?_ ?_
  exact aF (fun a w hh=>⟨v11,hF,iF [] hh⟩)
 refine bH ?_
 obtain rfl:=iD hF
 exact rO Jj4 ⟨hRl3,rfl,rfl⟩ []
def pA (K:Nat) (a0:List aO) (a1:(aO→Option Bool)):Option Bool:=
 (rZ K a0 a1).bind fun v1=>some (decide (0≤v1))
theorem yN {K:Nat} {a0:List aO} {a1:(aO→Option Bool)} {r:Bool} (hF:pA K a0 a1=some r):Ct Tryz.prog 145 [.vc (pS aO.cod a0),.vc (pFn Tryz.prog (fun x:aO=>[.va (aO.enc x)]) (fun r:Bool=>.vc (pB r)) a1)] (.vc (pB r)):=by
 unfold pA at hF
 refine aA Tryz.func145 rfl (by kernel_rfl) Tryz.ntmps145 rfl (fun w0 M0=>?_)
 obtain⟨v1,h2,hF⟩:=bC hF zW
 exact bQ
def tS (c0:aV) (a0:aO):Option Bool:=
 some ((a0.a.length:Int) != c0.vars)
theorem aCw {c0:aV} {a0:aO} {r:Bool} (hF:tS c0 a0=some r):Ct Tryz.prog 146 [.va (aO.enc a0),.vc (pM (aV.cod.e c0))] (.vc (pB r)):=by
 unfold tS at hF
 refine aA Tryz.func146 rfl (by kernel_rfl) Tryz.ntmps146 rfl (fun w0 M0=>?_)
 refine aD (aI (cP rfl rfl trivial (fun b1=>?_)))
 exact bQ
def xU (K:Nat) (a0:aV):Option Int:=
 bif(decide (32<a0.vars)) then(some 4) else(bif(decide (64<(a0.lines.length:Int))) then(some 4) else(bif(decide (a0.vars<0)) then(some 1) else(bif((a0.goal.length:Int) != a0.vars) then(some 1) else((pA K a0.lines (tS a0)).bind fun v6=>bif v6 then(some 1) else(some 0)))))
theorem aDm {K:Nat} {a0:aV} {r:Int} (hF:xU K a0=some r):Ct Tryz.prog 110 [.va (aV.enc a0)] (.vc (pI .i64 r)):=by
 unfold xU at hF
 refine aA Tryz.func110 rfl (by kernel_rfl) Tryz.ntmps110 rfl (fun w0 M0=>?_)
 refine aD (aI (cP rfl rfl trivial (fun b1=>?_)))
 refine go ?_ ?_
 refine aJ (go ?_ ?_)
 refine dV hF (fun h2 hF=>?_) (fun h2 hF=>?_)
 ·refine go ?_ ?_
  refine jS rfl ?_
  exact bQ
 refine go ?_ ?_
 refine aE hF rfl (fun h3 hF=>?_) (fun h3 hF=>?_)
 ·exact bQ
 refine go ?_ ?_
 refine dV hF (fun h4 hF=>?_) (fun h4 hF=>?_)
 ·refine go ?_ ?_
  refine jS rfl ?_
  exact bQ
 refine go ?_ ?_
 refine dV hF (fun h5 hF=>?_) (fun h5 hF=>?_)
 ·refine go ?_ ?_
  refine jS rfl ?_
  exact bQ
 refine uX (f7 (off:=0) (k:=1) rfl tyF90_1) zU1 ?_
 refine uX (fF 0 1 rfl rfl rfl rfl (.one tyO88)) zU1 ?_
 refine aEQ 0 [(1,0),(4,0),(8,1),(14,0),(18,2),(21,0),(26,1)] rfl ⟨rfl,rfl,rfl,rfl,rfl,rfl,rfl,trivial⟩ rfl ?_
 refine uX (aIq (φ:=(tS a0)) (pre:=fun x:aO=>[.va (aO.enc x)]) (post:=fun r:Bool=>.vc (pB r)) (xs:=[.tmp 1]) (cs:=[pM (aV.cod.e a0)]) rfl rfl (fun x r h=>aCw h)) zU1 ?_
 obtain⟨v6,h7,hF⟩:=bC hF yN
 refine go ?_ ?_
 refine aE hF rfl (fun h8 hF=>?_) (fun h8 hF=>?_)
 ·exact bQ
 exact bQ
def oZ (c0:Bool) (c1:List Rat) (a0:Int) (a1:Rat):Option (List Rat):=
 bif c0 then((aBs a1).bind fun v9=>(bK c1 a0).bind fun v11=>(pN c1 a0 v9).bind fun x13=>some x13) else((bK c1 a0).bind fun v16=>(pN c1 a0 a1).bind fun x18=>some x18)
theorem s9 {c0:Bool} {c1:List Rat} {a0:Int} {a1:Rat} {r:List Rat} (hF:oZ c0 c1 a0 a1=some r) {p1:Nat} {b3:Option Nat} {c4 n2:Nat} (q5:c1.length=n2):CtO Tryz.prog 147 [⟨some p1,1,24,1,1,[pO b3 n2 c4]⟩,hO cQ b3 c4 42 n2 c1] [.vc (pI .i64 a0),.va (eQ a1),.vc (pM (cB.e c0)),.vc (pP (some p1) 0)] (fun Ho q=>∃b23 c24 n22,r.length=n22∧Ho=[⟨some p1,1,24,1,1,[pO b23 n22 c24]⟩,hO cQ b23 c24 42 n22 r]∧q=.any):=by
 unfold oZ at hF
 refine aA Tryz.func147 rfl (by kernel_rfl) Tryz.ntmps147 rfl (fun w0 M0=>?_)
 refine aD (aI (cP rfl rfl trivial (fun b7=>?_)))
 refine go ?_ ?_
 refine aE hF rfl (fun h8 hF=>?_) (fun h8 hF=>?_)
 ·obtain⟨v9,h10,hF⟩:=bC hF tZ
  obtain⟨v11,h12,x13,h14,hF⟩:=tY hF
  obtain rfl:=iD hF
  refine go ?_ ?_
  exact aCn (.inr rfl) Tryz.results147 .nil rfl [1,2] rfl (by decide) ⟨b3,c4,n2,(bG h14 q5),rfl,rfl⟩
 obtain⟨v16,h17,x18,h19,hF⟩:=tY hF
 obtain rfl:=iD hF
 refine go ?_ ?_
 exact aCn (.inr rfl) Tryz.results147 .nil rfl [1,2] rfl (by decide) ⟨b3,c4,n2,(bG h19 q5),rfl,rfl⟩
def tU (c0:Int) (a0:Int):Option Rat:=
 bif(decide (c0≤a0)) then((qof 1 1).bind fun v3=>some v3) else(some 0)
theorem aCt {c0:Int} {a0:Int} {r:Rat} (hF:tU c0 a0=some r):Ct Tryz.prog 113 [.vc (pI .i64 a0),.vc (pM (cI.e c0))] (.va (eQ r)):=by
 unfold tU at hF
 refine aA Tryz.func113 rfl (by kernel_rfl) Tryz.ntmps113 rfl (fun w0 M0=>?_)
 refine aD (aI (aK rfl tyZ42q (fun b1=>?_)))
 refine go ?_ ?_
 refine aE hF rfl (fun h2 hF=>?_) (fun h2 hF=>?_)
 ·obtain⟨v3,h4,hF⟩:=bC hF rW
  exact bQ
 refine go ?_ ?_
 refine aG (gH (is:=[]) (xs:=[]) (ps:=[]) rfl tyB42q rfl rfl trivial rfl) trivial ?_
 exact bQ
def g8 (a0:List Rat):Option (List Rat):=
 (rM ([]:List Rat) a0).bind fun x9=>some x9
theorem uE {a0:List Rat} {r:List Rat} (hF:g8 a0=some r):CtO Tryz.prog 77 [] [.vc (pS cQ a0)] (fun Ho q=>∃b18 c19 n17,r.length=n17∧Ho=[hO cQ b18 c19 42 n17 r]∧q=.vc (pO b18 n17 c19)):=by
 unfold g8 at hF
 refine aA Tryz.func77 rfl (by kernel_rfl) Tryz.ntmps77 rfl (fun w0 M0=>?_)
 refine aD (aI (qE cQ 42 rfl ?_))
 refine aU (aH (aD (aD (aI (fI ?_)))))
 refine aN5 rfl Tryz.underlying24 rfl (fun h3=>?_) ?_
 ·skip
  subst h3
  have hF:some ([]:List Rat)=some r:=by simpa [rM] using hF
  refine aU (aH (jS rfl ?_))
  refine aD (aI (qE cQ 42 rfl ?_))
  refine aU (aH (fY (fZ ?_)))
  obtain rfl:=iD hF
  exact aCn (.inl rfl) Tryz.results77 (.tmp rfl .nil) rfl [0] rfl (by decide) ⟨none,0,0,rfl,rfl,rfl⟩
 refine aU (aH (vM rfl ?_))
 refine go ?_ ?_
 refine aMg (aJY (C:=cQ) (xs:=[]) (ps:=[]) (zs:=([]:List Rat)) rfl tyS24 rfl trivial rfl) trivial (fun b6 _=>?_)
 refine fI ?_
 obtain⟨x9,h10,hF⟩:=aP hF
 refine mN 0 rfl tyS24 rfl rfl rfl rfl rfl h10 (fun b11 c12 H13 e14=>?_)
 cases e14
 refine go ?_ ?_
 refine fY (fZ ?_)
 obtain rfl:=iD hF
 exact aCn (.inl rfl) Tryz.results77 (.tmp rfl .nil) rfl [0] rfl (by decide) ⟨b11,c12,(0+a0.length),(cX h10 rfl),rfl,rfl⟩
theorem xW {a0:List Rat} {r:List Rat} (hF:g8 a0=some r):Ct Tryz.prog 77 [.vc (pS cQ a0)] (.vc (pS cQ r)):=aNa (uE hF)
def qD (K:Nat):Option Int:=
 some (-1)
def mD (K:Nat) (a0:List Rat) (a1:(Rat→Option Bool)):Nat→Int→Option (LR Int Unit)
 |0,_=>none
 |k+1,x2=>bif(decide (x2<(a0.length:Int))) then((bK a0 x2).bind fun v6=>(a1 v6).bind fun v8=>bif v8 then(some (.ret x2)) else((aQ (x2+1)).bind fun v11=>mD K a0 a1 k v11)) else(some (.go ()))
def s7 (K:Nat) (a0:List Rat) (a1:(Rat→Option Bool)):Option Int:=
 (mD K a0 a1 K 0).bind fun o=>match o with| .ret r=>some r| .go _=>qD K
theorem aAr {K:Nat} {a0:List Rat} {a1:(Rat→Option Bool)} {r:Int} (hF:s7 K a0 a1=some r):Ct Tryz.prog 152 [.vc (pS cQ a0),.vc (pFn Tryz.prog (fun x:Rat=>[.va (eQ x)]) (fun r:Bool=>.vc (pB r)) a1)] (.vc (pI .i64 r)):=by
 unfold s7 at hF
 refine aA Tryz.func152 rfl (by kernel_rfl) Tryz.ntmps152 rfl (fun w0 M0=>?_)
 refine go ?_ ?_
 refine aJ (aX (fun H E=>qD K=some r∧H=[]∧E=[]) ?_ (fun Jj4=>?_))
 ·rintro _ _ ⟨hF,rfl,rfl⟩
  unfold qD at hF
  exact bQ
 obtain⟨ol3,hL,hRl3⟩:=aP hF
 refine dQ (fun k a w=>∃(x2:Int),mD K a0 a1 k x2=some ol3∧hs _ [] [(0,.vc (pS cQ a0)),(1,.vc (pFn Tryz.prog (fun x:Rat=>[.va (eQ x)]) (fun r:Bool=>.vc (pB r)) a1)),(7,.vc (pI .i64 (a0.length:Int))),(8,.vc (pI .i64 x2))] a w) K (fun a w ⟨_,hF,_⟩=>by cases hF) (fun k a w ⟨x2,hF,hh⟩=>dP ?_ hh) (fun a w hh=>⟨0,hL,iF [] hh⟩)
 rw [mD.eq_2] at hF
 refine go ?_ ?_
 refine aE hF rfl (fun h5 hF=>?_) (fun h5 hF=>?_)
 ·refine go ?_ ?_
  refine aJ ?_
  obtain⟨v6,h7,v8,h9,hF⟩:=tY hF
  refine go ?_ ?_
  refine aG (aCF (pre:=fun x:Rat=>[.va (eQ x)]) (post:=fun r:Bool=>.vc (pB r)) (x:=v6) (r:=v8) rfl h9 rfl) zU2 ?_
  refine aU (aH (aE hF rfl (fun h10 hF=>?_) (fun h10 hF=>?_)))
  ·exact bQ
  obtain⟨v11,h12,hF⟩:=aP hF
  refine go ?_ ?_
  exact aF (fun a w hh=>⟨v11,hF,iF [] hh⟩)
 refine bH ?_
 obtain rfl:=iD hF
 exact rO Jj4 ⟨hRl3,rfl,rfl⟩ []
def k6 (a0:Rat):Option Bool:=
 (xP a0).bind fun v2=>some (v2 != 0)
theorem zZ {a0:Rat} {r:Bool} (hF:k6 a0=some r):Ct Tryz.prog 153 [.va (eQ a0)] (.vc (pB r)):=by
 unfold k6 at hF
 refine aA Tryz.func153 rfl (by kernel_rfl) Tryz.ntmps153 rfl (fun w0 M0=>?_)
 refine aD (aI (cP rfl rfl trivial (fun b1=>?_)))
 obtain⟨v2,h3,hF⟩:=bC hF d8
 exact bQ
def tP (c0:aV) (a0:Int):Option Rat:=
 bif(decide (a0<c0.vars)) then((bK c0.goal a0).bind fun v3=>(aBs v3).bind fun v5=>some v5) else((aQ (2*c0.vars)).bind fun v7=>bif(decide (a0<v7)) then((aQ (a0-c0.vars)).bind fun v10=>(bK c0.goal v10).bind fun v12=>some v12) else(some 0))
theorem aCd {c0:aV} {a0:Int} {r:Rat} (hF:tP c0 a0=some r):Ct Tryz.prog 117 [.vc (pI .i64 a0),.vc (pM (aV.cod.e c0))] (.va (eQ r)):=by
 unfold tP at hF
 refine aA Tryz.func117 rfl (by kernel_rfl) Tryz.ntmps117 rfl (fun w0 M0=>?_)
 refine aD (aI (aK rfl tyZ42q (fun b1=>?_)))
 refine go ?_ ?_
 refine aJ (go ?_ ?_)
 refine aE hF rfl (fun h2 hF=>?_) (fun h2 hF=>?_)
 ·obtain⟨v3,h4,hF⟩:=aP hF
  obtain⟨v5,h6,hF⟩:=bC hF tZ
  exact bQ
 obtain⟨v7,h8,hF⟩:=aP hF
 refine go ?_ ?_
 refine aE hF rfl (fun h9 hF=>?_) (fun h9 hF=>?_)
 ·obtain⟨v10,h11,v12,h13,hF⟩:=tY hF
  exact bQ
 refine go ?_ ?_
 refine aG (gH (is:=[]) (xs:=[]) (ps:=[]) rfl tyB42q rfl rfl trivial rfl) trivial ?_
 exact bQ
def tH (K:Nat):Option Int:=
 some (-1)
def pT (K:Nat) (a0:List Int) (a1:Int):Nat→Int→Option (LR Int Unit)
 |0,_=>none
 |k+1,x2=>bif(decide (x2<(a0.length:Int))) then((bK a0 x2).bind fun v6=>bif(a1==v6) then(some (.ret x2)) else((aQ (x2+1)).bind fun v9=>pT K a0 a1 k v9)) else(some (.go ()))
def sY (K:Nat) (a0:List Int) (a1:Int):Option Int:=
 (pT K a0 a1 K 0).bind fun o=>match o with| .ret r=>some r| .go _=>tH K
theorem x0 {K:Nat} {a0:List Int} {a1:Int} {r:Int} (hF:sY K a0 a1=some r):Ct Tryz.prog 154 [.vc (pS cI a0),.vc (pI .i64 a1)] (.vc (pI .i64 r)):=by
 unfold sY at hF
 refine aA Tryz.func154 rfl (by kernel_rfl) Tryz.ntmps154 rfl (fun w0 M0=>?_)
 refine go ?_ ?_
 refine aJ (aX (fun H E=>tH K=some r∧H=[]∧E=[]) ?_ (fun Jj4=>?_))
 ·rintro _ _ ⟨hF,rfl,rfl⟩
  unfold tH at hF
  exact bQ
 obtain⟨ol3,hL,hRl3⟩:=aP hF
 refine dQ (fun k a w=>∃(x2:Int),pT K a0 a1 k x2=some ol3∧hs _ [] [(0,.vc (pS cI a0)),(1,.vc (pI .i64 a1)),(7,.vc (pI .i64 (a0.length:Int))),(8,.vc (pI .i64 x2))] a w) K (fun a w ⟨_,hF,_⟩=>by cases hF) (fun k a w ⟨x2,hF,hh⟩=>dP ?_ hh) (fun a w hh=>⟨0,hL,iF [] hh⟩)
 rw [pT.eq_2] at hF
 refine go ?_ ?_
 refine aE hF rfl (fun h5 hF=>?_) (fun h5 hF=>?_)
 ·refine go ?_ ?_
  refine aJ ?_
  obtain⟨v6,h7,hF⟩:=aP hF
  refine go ?_ ?_
  refine aE hF rfl (fun h8 hF=>?_) (fun h8 hF=>?_)
  ·exact bQ
  obtain⟨v9,h10,hF⟩:=aP hF
  refine go ?_ ?_
  exact aF (fun a w hh=>⟨v9,hF,iF [] hh⟩)
 refine bH ?_
 obtain rfl:=iD hF
 exact rO Jj4 ⟨hRl3,rfl,rfl⟩ []
def tK (K:Nat) (a0:aV) (v6:Int) (x72:List Int) (x78:List Nat) (x84:List (List Rat)):Option (Int×Int×Int×(List Nat)×(List Rat)×(List Int)×(List (List Rat))):=
 some (a0.vars,(a0.lines.length:Int),v6,x78,([]:List Rat),x72,x84)
def oR (K:Nat) (x53:List Int) (x59:List Nat) (x65:List (List Rat)) (x71:Int) (recl90:(List Int)→(List Nat)→(List (List Rat))→Int→Option ((List Int)×(List Nat)×(List (List Rat)))) (x160:List Rat) (x166:Int):Option ((List Int)×(List Nat)×(List (List Rat))):=
 (rM x59 [x65.length]).bind fun x172=>(rM x53 [x166]).bind fun x175=>(aQ (x71+1)).bind fun v182=>recl90 x175 x172 (x65++[x160]) v182
def sV (K:Nat) (a0:aV) (v6:Int) (x53:List Int) (x59:List Nat) (x65:List (List Rat)) (x71:Int) (v93:aO) (v104:Int) (recl90:(List Int)→(List Nat)→(List (List Rat))→Int→Option ((List Int)×(List Nat)×(List (List Rat)))) (x121:List Rat):Option ((List Int)×(List Nat)×(List (List Rat))):=
 (aQ (2*a0.vars)).bind fun v131=>(aQ (v131+x71)).bind fun v133=>(qof 1 1).bind fun v135=>(oZ (decide (v104<0)) x121 v133 v135).bind fun v137=>(oZ (decide (v104<0)) v137 v6 v93.b).bind fun v147=>(aQ (2*a0.vars)).bind fun v155=>(aQ (v155+x71)).bind fun v157=>bif(decide (v104<0)) then((aQ (2*a0.vars)).bind fun v185=>(aQ (v185+(a0.lines.length:Int))).bind fun v187=>(aQ (v187+x71)).bind fun v189=>(qof 1 1).bind fun v193=>(bK v147 v189).bind fun v195=>(pN v147 v189 v193).bind fun x197=>oR K x53 x59 x65 x71 recl90 x197 v189) else(oR K x53 x59 x65 x71 recl90 v147 v157)
def oO (K:Nat) (a0:aV) (v93:aO) (v104:Int):Nat→(List Rat)→Int→Option (List Rat)
 |0,_,_=>none
 |k+1,x114,x120=>bif(decide (x120<(v93.a.length:Int))) then((bK v93.a x120).bind fun v201=>(oZ (decide (v104<0)) x114 x120 v201).bind fun v204=>(aQ (a0.vars+x120)).bind fun v214=>(aBs v201).bind fun v216=>(oZ (decide (v104<0)) v204 v214 v216).bind fun v218=>(aQ (x120+1)).bind fun v226=>oO K a0 v93 v104 k v218 v226) else(some x114)
def kF (K:Nat) (a0:aV) (v6:Int):Nat→(List Int)→(List Nat)→(List (List Rat))→Int→Option ((List Int)×(List Nat)×(List (List Rat)))
 |0,_,_,_,_=>none
 |k+1,x53,x59,x65,x71=>bif(decide (x71<(a0.lines.length:Int))) then((bK a0.lines x71).bind fun v93=>(aQ (v6+1)).bind fun v96=>(y5 v96 0).bind fun x98=>(xP v93.b).bind fun v104=>(oO K a0 v93 v104 K x98 0).bind fun x121=>sV K a0 v6 x53 x59 x65 x71 v93 v104 (kF K a0 v6 k) x121) else(some (x53,x59,x65))
def wD (K:Nat) (a0:aV):Option (Int×Int×Int×(List Nat)×(List Rat)×(List Int)×(List (List Rat))):=
 (aQ (2*a0.vars)).bind fun v2=>(aQ (2*(a0.lines.length:Int))).bind fun v4=>(aQ (v2+v4)).bind fun v6=>(kF K a0 v6 K ([]:List Int) ([]:List Nat) ([]:List (List Rat)) 0).bind fun(x72,x78,x84)=>tK K a0 v6 x72 x78 x84
theorem aBZ {K:Nat} {a0:aV} {r:Int×Int×Int×(List Nat)×(List Rat)×(List Int)×(List (List Rat))} (hF:wD K a0=some r):CtO Tryz.prog 111 [] [.va (aV.enc a0)] (fun Ho q=>∃b1228 b1233 c1234 n1235 b1238 c1239 n1240 b1243 c1244 n1245 g1248 N1249,r.2.2.2.1.length=n1235∧r.2.2.2.2.1.length=n1240∧r.2.2.2.2.2.1.length=n1245∧r.2.2.2.2.2.2.length=N1249∧cL g1248 r.2.2.2.2.2.2∧(∀k∈r.2.2.2.1,k<N1249)∧Ho=([⟨some b1228,1,123,6,1,([pI .i64 r.1]++[pI .i64 r.2.1]++[pI .i64 r.2.2.1]++[pO b1233 n1235 c1234]++[pO b1238 n1240 c1239]++[pO b1243 n1245 c1244])⟩,hO (cH g1248) b1233 c1234 24 n1235 r.2.2.2.1,hO cQ b1238 c1239 42 n1240 r.2.2.2.2.1,hO cI b1243 c1244 3 n1245 r.2.2.2.2.2.1]++eA cQ 42 g1248 r.2.2.2.2.2.2)∧q=.vc (pP (some b1228) 0)):=by
 unfold wD at hF
 refine aA Tryz.func111 rfl (by kernel_rfl) Tryz.ntmps111 rfl (fun w0 M0=>?_)
 refine aD (aI (cP rfl rfl trivial (fun b1=>?_)))
 refine aG (aM (p:=.any) (.inr rfl)) ⟨fun _=>trivial,trivial⟩ ?_
 refine aU (aH (aD (aI (aG (f7 (off:=0) (k:=1) rfl tyF90_1) zU1 ?_))))
 refine aG (fF 0 1 rfl rfl rfl rfl (.one tyO88)) zU1 ?_
 refine aG (aHt rfl tyS88) zU1 ?_
 refine yK ?_
 refine aU (aH (aD (aI (aG (f7 (off:=0) (k:=0) rfl tyF90_0) zU1 ?_))))
 refine aG (fF 0 1 rfl rfl rfl rfl (.one tyO3)) zU1 ?_
 refine fI ?_
 refine aG (f7 (off:=0) (k:=0) rfl tyF90_0) zU1 ?_
 refine aG (fF 0 1 rfl rfl rfl rfl (.one tyO3)) zU1 ?_
 obtain⟨v2,h3,hF⟩:=aP hF
 refine aG (aE1 rfl h3) ⟨p6 _ _,rfl,trivial⟩ ?_
 refine fI ?_
 obtain⟨v4,h5,hF⟩:=aP hF
 refine aG (aE1 rfl h5) ⟨p6 _ _,rfl,trivial⟩ ?_
 obtain⟨v6,h7,hF⟩:=aP hF
 refine aG (xQ rfl h7) zU2 ?_
 refine aG1 cQ 42 ?_
 refine zU (cH ([]:List p7)) 24 ?_
 refine zU cQ 42 ?_
 refine zU cI 3 ?_
 refine aG (gH (is:=[0,1,2]) (xs:=[.tmp 17,.tmp 18,.tmp 24]) (ps:=[.vc (pI .i64 a0.vars),.vc (pI .i64 (a0.lines.length:Int)),.vc (pI .i64 v6)]) rfl tyB123_o3_o4_o5q rfl rfl ⟨trivial,trivial,trivial,trivial⟩ rfl) ⟨rfl,rfl,rfl,trivial⟩ ?_
 refine cP rfl rfl trivial (fun b33=>?_)
 refine go ?_ ?_
 refine aJ (aX (fun H E=>∃(x72:List Int),∃(x78:List Nat),∃(x84:List (List Rat)),∃(b73:Option Nat),∃(c74:Nat),∃(n75:Nat),∃(b79:Option Nat),∃(c80:Nat),∃(n81:Nat),∃(g85:List p7),∃(N86:Nat),tK K a0 v6 x72 x78 x84=some r∧x72.length=n75∧x78.length=n81∧x84.length=N86∧cL g85 x84∧(∀k∈x78,k<N86)∧H=([⟨some b33,1,123,6,1,([pI .i64 a0.vars]++[pI .i64 (a0.lines.length:Int)]++[pI .i64 v6]++[pO b79 n81 c80]++[pO none 0 0]++[pO b73 n75 c74])⟩,hO cI b73 c74 3 n75 x72,hO cQ none 0 42 0 ([]:List Rat),hO (cH g85) b79 c80 24 n81 x78]++eA cQ 42 g85 x84)∧E=[(4,.vc (pP (some b33) 0))]) ?_ (fun Jj91=>?_))
 ·rintro _ _ ⟨x72,x78,x84,b73,c74,n75,b79,c80,n81,g85,N86,hF,q76,q82,q87,q88,q89,rfl,rfl⟩
  unfold tK at hF
  refine go ?_ ?_
  refine fY (fZ ?_)
  obtain rfl:=iD hF
  exact iT (.inl rfl) Tryz.results111 (.tmp rfl .nil) rfl 4 [0,3,2,1] rfl rfl (by decide) ⟨b33,b79,c80,n81,none,0,0,b73,c74,n75,g85,N86,q82,rfl,q76,q87,q88,q89,rfl,rfl⟩
 obtain⟨⟨x72',x78',x84'⟩,hL,hRl90⟩:=aP hF
 refine dQ (fun k a w=>∃(x53:List Int),∃(x59:List Nat),∃(x65:List (List Rat)),∃(x71:Int),∃(b54:Option Nat),∃(c55:Nat),∃(n56:Nat),∃(b60:Option Nat),∃(c61:Nat),∃(n62:Nat),∃(g66:List p7),∃(N67:Nat),kF K a0 v6 k x53 x59 x65 x71=some (x72',x78',x84')∧x53.length=n56∧x59.length=n62∧x65.length=N67∧cL g66 x65∧(∀k∈x59,k<N67)∧hs _ ([⟨some b33,1,123,6,1,([pI .i64 a0.vars]++[pI .i64 (a0.lines.length:Int)]++[pI .i64 v6]++[pO b60 n62 c61]++[pO none 0 0]++[pO b54 n56 c55])⟩,hO cI b54 c55 3 n56 x53,hO cQ none 0 42 0 ([]:List Rat),hO (cH g66) b60 c61 24 n62 x59,⟨some b1,1,90,3,1,(aV.enc a0)⟩]++eA cQ 42 g66 x65) [(1,.vc (pP (some b1) 0)),(3,.vc (pI .i64 (a0.lines.length:Int))),(4,.vc (pP (some b33) 0)),(28,.vc (pS aO.cod a0.lines)),(29,.vc (pI .i64 (a0.lines.length:Int))),(30,.vc (pI .i64 x71))] a w) K (fun a w ⟨_,_,_,_,_,_,_,_,_,_,_,_,hF,_,_,_,_,_,_⟩=>by cases hF) (fun k a w ⟨x53,x59,x65,x71,b54,c55,n56,b60,c61,n62,g66,N67,hF,q57,q63,q68,q69,q70,hh⟩=>dP ?_ hh) (fun a w hh=>⟨([]:List Int),([]:List Nat),([]:List (List Rat)),0,none,0,0,none,0,0,([]:List p7),0,hL,rfl,rfl,(rfl),aDQ,(by simp),aR 5 [0,1,2,3,4] rfl rfl (by decide) (by exact⟨rfl,rfl,rfl,rfl,rfl,rfl,trivial⟩) hh⟩)
 rw [kF.eq_2] at hF
 refine go ?_ ?_
 refine aE hF rfl (fun h92 hF=>?_) (fun h92 hF=>?_)
 ·refine go ?_ ?_
  refine aJ ?_
  obtain⟨v93,h94,hF⟩:=aP hF
  refine go ?_ ?_
  refine aK rfl tyZ92q (fun b95=>?_)
  obtain⟨v96,h97,x98,h99,hF⟩:=tY hF
  refine go ?_ ?_
  refine o7 (C:=cQ) rfl tyS24 rfl tyZ42q rfl h99 (fun b100=>?_)
  refine aK rfl tyZ24q (fun b103=>?_)
  obtain⟨v104,h105,hF⟩:=bC hF d8
  refine go ?_ ?_
  refine aK rfl tyZ4q (fun b106=>?_)
  refine kY (t_s 0 rfl rfl rfl tyO4.s) zU2 ?_
  refine aU (aH (aD (aI (aEQ 0 [(8,0)] rfl zU1 rfl ?_))))
  refine aG (aLq (xs:=[.tmp 8,.tmp 7]) (cs:=[pM (cB.e (decide (v104<0))),pP (some b103) 0]) rfl rfl) zU2 ?_
  refine go ?_ ?_
  refine aJ (aX (fun H E=>∃(x121:List Rat),∃(b122:Option Nat),∃(c123:Nat),∃(n124:Nat),sV K a0 v6 x53 x59 x65 x71 v93 v104 (kF K a0 v6 k) x121=some (x72',x78',x84')∧x121.length=n124∧H=([⟨some b103,1,24,1,1,[pO b122 n124 c123]⟩,hO cQ b122 c123 42 n124 x121,⟨some b95,1,92,5,1,(aO.enc v93)⟩,⟨some b33,1,123,6,1,([pI .i64 a0.vars]++[pI .i64 (a0.lines.length:Int)]++[pI .i64 v6]++[pO b60 n62 c61]++[pO none 0 0]++[pO b54 n56 c55])⟩,hO cI b54 c55 3 n56 x53,hO cQ none 0 42 0 ([]:List Rat),hO (cH g66) b60 c61 24 n62 x59,⟨some b1,1,90,3,1,(aV.enc a0)⟩]++eA cQ 42 g66 x65)∧E=[(1,.vc (pP (some b1) 0)),(3,.vc (pI .i64 (a0.lines.length:Int))),(4,.vc (pP (some b33) 0)),(5,.vc (pI .i64 x71)),(6,.vc (pP (some b95) 0)),(7,.vc (pP (some b103) 0)),(8,.vc (pM (cB.e (decide (v104<0))))),(9,.vc (pF 147 [pM (cB.e (decide (v104<0))),pP (some b103) 0])),(28,.vc (pS aO.cod a0.lines)),(29,.vc (pI .i64 (a0.lines.length:Int))),(30,.vc (pI .i64 x71))]) ?_ (fun Jj128=>?_))
  ·rintro _ _ ⟨x121,b122,c123,n124,hF,q125,rfl,rfl⟩
   unfold sV at hF
   refine aH (aD ?_)
   have hF:=tX h3 hF
   obtain⟨v133,h134,hF⟩:=aP hF
   obtain⟨v135,h136,hF⟩:=bC hF rW
   refine dr [0,0,2,6,0,30,0,127] 7 1 ?_ (fun bs130 G129=>?_)
   obtain⟨v137,h138,hF⟩:=aP hF
   refine aCW (f:=147) (cs:=[pM (cB.e (decide (v104<0))),pP (some b103) 0]) (pre:=[.vc (pI .i64 v133),.va (eQ v135)]) (xs:=[.tmp 72,.tmp 73]) 8 [0,1] [2,3,4,5,6,7] rfl (s9 h138 q125) ⟨rfl,rfl,rfl,trivial⟩ rfl rfl rfl (by decide) ?_
   rintro _ _ ⟨b141,c142,n140,q143,rfl,rfl⟩
   refine go ?_ ?_
   refine dr [0,0,2,6,14,0,32,127] 7 1 ?_ (fun bs146 G145=>?_)
   obtain⟨v147,h148,hF⟩:=aP hF
   refine aCW (f:=147) (cs:=[pM (cB.e (decide (v104<0))),pP (some b103) 0]) (pre:=[.vc (pI .i64 v6),.va (eQ v93.b)]) (xs:=[.tmp 79,.tmp 81]) 8 [0,1] [2,3,4,5,6,7] rfl (s9 h148 q143) ⟨rfl,rfl,rfl,trivial⟩ rfl rfl rfl (by decide) ?_
   rintro _ _ ⟨b151,c152,n150,q153,rfl,rfl⟩
   refine aU (aH (aD (aI (aG (f7 (off:=0) (k:=0) rfl tyF90_0) zU1 ?_))))
   refine aG (fF 7 1 rfl rfl rfl rfl (.one tyO3)) zU1 ?_
   have hF:=tX h3 hF
   refine aG (aE1 rfl h3) ⟨p6 _ _,rfl,trivial⟩ ?_
   refine fI ?_
   have hF:=tX h134 hF
   refine aG (xQ rfl h134) zU2 ?_
   refine yK ?_
   refine aU (aH (aD (yP (fun H E=>∃(x160:List Rat),∃(x166:Int),oR K x53 x59 x65 x71 (kF K a0 v6 k) x160 x166=some (x72',x78',x84')∧x160.length=n150∧H=([⟨some b103,1,24,1,1,[pO b151 n150 c152]⟩,hO cQ b151 c152 42 n150 x160,⟨some b33,1,123,6,1,([pI .i64 a0.vars]++[pI .i64 (a0.lines.length:Int)]++[pI .i64 v6]++[pO b60 n62 c61]++[pO none 0 0]++[pO b54 n56 c55])⟩,hO cI b54 c55 3 n56 x53,hO cQ none 0 42 0 ([]:List Rat),hO (cH g66) b60 c61 24 n62 x59,⟨some b1,1,90,3,1,(aV.enc a0)⟩]++eA cQ 42 g66 x65)∧E=[(1,.vc (pP (some b1) 0)),(3,.vc (pI .i64 (a0.lines.length:Int))),(4,.vc (pP (some b33) 0)),(7,.vc (pP (some b103) 0)),(12,.vc (pI .i64 x166)),(28,.vc (pS aO.cod a0.lines)),(29,.vc (pI .i64 (a0.lines.length:Int))),(30,.vc (pI .i64 x71))]) ?_ (fun Jj167=>?_))))
   ·rintro _ _ ⟨x160,x166,hF,q164,rfl,rfl⟩
    unfold oR at hF
    obtain⟨x172,h173,hF⟩:=aP hF
    obtain⟨x175,h176,hF⟩:=aP hF
    refine rR (HsM [(0,fun G168=>([⟨some b103,1,24,1,1,[pO b151 n150 c152]⟩,hO cQ b151 c152 42 n150 x160,⟨some b33,1,123,6,1,([pI .i64 a0.vars]++[pI .i64 (a0.lines.length:Int)]++[pI .i64 v6]++[pO b60 n62 c61]++[pO none 0 0]++[pO b54 n56 c55])⟩,hO cI b54 c55 3 n56 x53,hO cQ none 0 42 0 ([]:List Rat),hO (cH g66) b60 c61 24 n62 x59,⟨some b1,1,90,3,1,(aV.enc a0)⟩]++eA cQ 42 g66 x65)),(1,fun G168=>([⟨some b103,1,24,1,1,[pO ((G168 7).1) n150 ((G168 7).2)]⟩,hO cQ ((G168 7).1) ((G168 7).2) 42 n150 x160,⟨some b33,1,123,6,1,([pI .i64 a0.vars]++[pI .i64 (a0.lines.length:Int)]++[pI .i64 v6]++[pO b60 n62 c61]++[pO none 0 0]++[pO b54 n56 c55])⟩,hO cI b54 c55 3 n56 x53,hO cQ none 0 42 0 ([]:List Rat),hO (cH (g66++[((G168 7).1,n150,(G168 7).2)])) b60 c61 24 n62 x59,⟨some b1,1,90,3,1,(aV.enc a0)⟩]++eA cQ 42 g66 x65)),(3,fun G168=>([⟨some b103,1,24,1,1,[pO ((G168 7).1) n150 ((G168 7).2)]⟩,⟨some b33,1,123,6,1,([pI .i64 a0.vars]++[pI .i64 (a0.lines.length:Int)]++[pI .i64 v6]++[pO b60 n62 c61]++[pO none 0 0]++[pO b54 n56 c55])⟩,hO cI b54 c55 3 n56 x53,hO cQ none 0 42 0 ([]:List Rat),hO (cH (g66++[((G168 7).1,n150,(G168 7).2)])) ((G168 8).1) ((G168 8).2) 24 (n62+[x65.length].length) x172,⟨some b1,1,90,3,1,(aV.enc a0)⟩]++eA cQ 42 (g66++[((G168 7).1,n150,(G168 7).2)]) (x65++[x160]))),(7,fun G168=>([⟨some b103,1,24,1,1,[pO ((G168 7).1) n150 ((G168 7).2)]⟩,⟨some b33,1,123,6,1,([pI .i64 a0.vars]++[pI .i64 (a0.lines.length:Int)]++[pI .i64 v6]++[pO b60 n62 c61]++[pO none 0 0]++[pO b54 n56 c55])⟩,hO cI ((G168 15).1) ((G168 15).2) 3 (n56+[x166].length) x175,hO cQ none 0 42 0 ([]:List Rat),hO (cH (g66++[((G168 7).1,n150,(G168 7).2)])) ((G168 8).1) ((G168 8).2) 24 (n62+[x65.length].length) x172,⟨some b1,1,90,3,1,(aV.enc a0)⟩]++eA cQ 42 (g66++[((G168 7).1,n150,(G168 7).2)]) (x65++[x160]))),(15,fun G168=>([⟨some b103,1,24,1,1,[pO ((G168 7).1) n150 ((G168 7).2)]⟩,⟨some b33,1,123,6,1,([pI .i64 a0.vars]++[pI .i64 (a0.lines.length:Int)]++[pI .i64 v6]++[pO ((G168 8).1) (n62+[x65.length].length) ((G168 8).2)]++[pO none 0 0]++[pO b54 n56 c55])⟩,hO cI ((G168 15).1) ((G168 15).2) 3 (n56+[x166].length) x175,hO cQ none 0 42 0 ([]:List Rat),hO (cH (g66++[((G168 7).1,n150,(G168 7).2)])) ((G168 8).1) ((G168 8).2) 24 (n62+[x65.length].length) x172,⟨some b1,1,90,3,1,(aV.enc a0)⟩]++eA cQ 42 (g66++[((G168 7).1,n150,(G168 7).2)]) (x65++[x160])))]) [7,8,15,18] [0,0,0,4,12,28,0,64,252,0,512,1536,3584,0,8192,32764,65533,131069,262141,524287,1048575,2097151] 21 1 [.v (.vc (pP (some b33) 0)),.v (.vc (pP (some b33) 0)),.v (.vc (pP (some b33) 0)),.v (.vc (pP (some b33) 0)),.v (.vc (pP (some b33) 3)),.v (.vc (pO b60 n62 c61)),.v (.vc (pO b151 n150 c152)),.g (fun b c=>.vc (pS (cH (g66++[(b,n150,c)])) [x65.length])),.g (fun b c=>.vc (pO b (n62+[x65.length].length) c)),.v (.vc (pP (some b33) 0)),.v (.vc (pP (some b33) 0)),.v (.vc (pP (some b33) 5)),.v (.vc (pO b54 n56 c55)),.v (.vc (pI .i64 x166)),.v (.vc (pS cI [x166])),.g (fun b c=>.vc (pO b (n56+[x166].length) c)),.v (.vc (pP (some b33) 0)),.v (.vc (pP (some b33) 3)),.g (fun _ _=>.any),.v (.vc (pP (some b33) 0)),.v (.vc (pP (some b33) 5))] aY ⟨⟨rfl,.run (L:=[0,1,3,7]) ⟨fun G168 A=>aM (.inl rfl),fun G168 A=>aM (.inl rfl),fun G168 A=>aM (.inl rfl),fun G168 A=>aM (.inl rfl),trivial⟩ (fun G168=>zU1)⟩,⟨rfl,.run (L:=[0,1,3,7,15]) ⟨fun G168 A=>aM (.inl rfl),fun G168 A=>aM (.inl rfl),fun G168 A=>aM (.inl rfl),fun G168 A=>aM (.inl rfl),fun G168 A=>aM (.inl rfl),trivial⟩ (fun G168=>zU1)⟩,⟨rfl,.run (L:=[0,1]) ⟨fun G168 A=>aM (.inl rfl),fun G168 A=>aM (.inl rfl),trivial⟩ (fun G168=>zU1)⟩,⟨rfl,.run (L:=[0,1]) ⟨fun G168 A=>qX rfl,fun G168 A=>qX rfl,trivial⟩ (fun G168=>zU1)⟩,⟨rfl,.run (L:=[0,1]) ⟨fun G168 A=>f7 (off:=0) (k:=3) rfl tyF123_3,fun G168 A=>f7 (off:=0) (k:=3) rfl tyF123_3,trivial⟩ (fun G168=>zU1)⟩,⟨rfl,.run (L:=[0,1]) ⟨fun G168 A=>fF 2 1 rfl rfl rfl rfl (.one tyO23),fun G168 A=>fF 2 1 rfl rfl rfl rfl (.one tyO23),trivial⟩ (fun G168=>zU1)⟩,d1 0 (fF 0 1 rfl rfl rfl rfl (.one tyO24)) zU1,⟨rfl,.hvy [0] ⟨fun G168 A=>aHv b151 c152 (aLJ (rs:=x65) rfl tyS23 q69.1 (show([⟨some b103,1,24,1,1,[pO b151 n150 c152]⟩,hO cQ b151 c152 42 n150 x160,⟨some b33,1,123,6,1,([pI .i64 a0.vars]++[pI .i64 (a0.lines.length:Int)]++[pI .i64 v6]++[pO b60 n62 c61]++[pO none 0 0]++[pO b54 n56 c55])⟩,hO cI b54 c55 3 n56 x53,hO cQ none 0 42 0 ([]:List Rat),hO (cH (g66++[(b151,n150,c152)])) b60 c61 24 n62 x59,⟨some b1,1,90,3,1,(aV.enc a0)⟩]++eA cQ 42 g66 x65)++A=([⟨some b103,1,24,1,1,[pO b151 n150 c152]⟩,hO cQ b151 c152 42 n150 x160,⟨some b33,1,123,6,1,([pI .i64 a0.vars]++[pI .i64 (a0.lines.length:Int)]++[pI .i64 v6]++[pO b60 n62 c61]++[pO none 0 0]++[pO b54 n56 c55])⟩,hO cI b54 c55 3 n56 x53,hO cQ none 0 42 0 ([]:List Rat),hO (cH g66) b60 c61 24 n62 x59,⟨some b1,1,90,3,1,(aV.enc a0)⟩]++eA cQ 42 g66 x65)++A from by rw [aG5 (N:=x65.length) (b151,n150,c152) q69.1 (aDJ q68 q70)])),trivial⟩ (fun G168=>zU1)⟩,⟨rfl,.hvy (ins:=fun G168=>[(.tmp 105,.vc (pO b60 n62 c61)),(.tmp 107,.vc (pS (cH (g66++[((G168 7).1,n150,(G168 7).2)])) [x65.length]))]) [1] ⟨fun G168 A=>aQR (X:=[⟨some b103,1,24,1,1,[pO ((G168 7).1) n150 ((G168 7).2)]⟩,hO cQ ((G168 7).1) ((G168 7).2) 42 n150 x160,⟨some b33,1,123,6,1,([pI .i64 a0.vars]++[pI .i64 (a0.lines.length:Int)]++[pI .i64 v6]++[pO b60 n62 c61]++[pO none 0 0]++[pO b54 n56 c55])⟩,hO cI b54 c55 3 n56 x53,hO cQ none 0 42 0 ([]:List Rat),hO (cH (g66++[((G168 7).1,n150,(G168 7).2)])) b60 c61 24 n62 x59,⟨some b1,1,90,3,1,(aV.enc a0)⟩]) (X':=[⟨some b103,1,24,1,1,[pO ((G168 7).1) n150 ((G168 7).2)]⟩,⟨some b33,1,123,6,1,([pI .i64 a0.vars]++[pI .i64 (a0.lines.length:Int)]++[pI .i64 v6]++[pO b60 n62 c61]++[pO none 0 0]++[pO b54 n56 c55])⟩,hO cI b54 c55 3 n56 x53,hO cQ none 0 42 0 ([]:List Rat),hO (cH (g66++[((G168 7).1,n150,(G168 7).2)])) b60 c61 24 n62 x59,⟨some b1,1,90,3,1,(aV.enc a0)⟩]) (gs:=g66) (rs:=x65) (r:=x160) (A:=A) (g:=((G168 7).1,n150,(G168 7).2)) 1 rfl rfl q69 (aDE (C:=(cH (g66++[((G168 7).1,n150,(G168 7).2)]))) (T:=24) 4 rfl tyS23 rfl rfl q63 h173),trivial⟩ (fun G168=>zU2)⟩,⟨rfl,.run (L:=[0,1,3]) ⟨fun G168 A=>aM (.inl rfl),fun G168 A=>aM (.inl rfl),fun G168 A=>aM (.inl rfl),trivial⟩ (fun G168=>zU1)⟩,⟨rfl,.run (L:=[0,1,3]) ⟨fun G168 A=>qX rfl,fun G168 A=>qX rfl,fun G168 A=>qX rfl,trivial⟩ (fun G168=>zU1)⟩,⟨rfl,.run (L:=[0,1,3]) ⟨fun G168 A=>f7 (off:=0) (k:=5) rfl tyF123_5,fun G168 A=>f7 (off:=0) (k:=5) rfl tyF123_5,fun G168 A=>f7 (off:=0) (k:=5) rfl tyF123_5,trivial⟩ (fun G168=>zU1)⟩,⟨rfl,.run (L:=[0,1,3]) ⟨fun G168 A=>fF 2 1 rfl rfl rfl rfl (.one tyO22),fun G168 A=>fF 2 1 rfl rfl rfl rfl (.one tyO22),fun G168 A=>fF 1 1 rfl rfl rfl rfl (.one tyO22),trivial⟩ (fun G168=>zU1)⟩,⟨rfl,.run (L:=[0,1,3]) ⟨fun G168 A=>aM (.inl rfl),fun G168 A=>aM (.inl rfl),fun G168 A=>aM (.inl rfl),trivial⟩ (fun G168=>zU1)⟩,⟨rfl,.run (L:=[0,1,3]) ⟨fun G168 A=>gG (C:=cI) (xs:=[.tmp 113]) (ps:=[.vc (pI .i64 x166)]) (zs:=[x166]) rfl tyS22 rfl ⟨⟨trivial,rfl⟩,trivial⟩ rfl,fun G168 A=>gG (C:=cI) (xs:=[.tmp 113]) (ps:=[.vc (pI .i64 x166)]) (zs:=[x166]) rfl tyS22 rfl ⟨⟨trivial,rfl⟩,trivial⟩ rfl,fun G168 A=>gG (C:=cI) (xs:=[.tmp 113]) (ps:=[.vc (pI .i64 x166)]) (zs:=[x166]) rfl tyS22 rfl ⟨⟨trivial,rfl⟩,trivial⟩ rfl,trivial⟩ (fun G168=>zU1)⟩,⟨rfl,.hvy (ins:=fun G168=>[(.tmp 112,.vc (pO b54 n56 c55)),(.tmp 114,.vc (pS cI [x166]))]) [3] ⟨fun G168 A=>aDE 2 rfl tyS22 rfl rfl q57 h176,trivial⟩ (fun G168=>zU2)⟩,d1 7 (qX rfl) zU1,d1 7 (f7 (off:=0) (k:=3) rfl tyF123_3) zU1,⟨rfl,.hvy (ins:=fun G168=>[(.tmp 117,.vc (pP (some b33) 3)),(.tmp 108,.vc (pO ((G168 8).1) (n62+[x65.length].length) ((G168 8).2)))]) [7] ⟨fun G168 A=>aHv none 0 (t_s 1 rfl rfl rfl tyO23.s),trivial⟩ (fun G168=>zU2)⟩,d1 15 (qX rfl) zU1,d1 15 (f7 (off:=0) (k:=5) rfl tyF123_5) zU1,trivial⟩ (fun bs169 G168=>?_)
    obtain⟨v182,h183,hF⟩:=aP hF
    refine go ?_ ?_
    exact aF (fun a w hh=>⟨x175,x172,(x65++[x160]),v182,((G168 15).1),((G168 15).2),(n56+[x166].length),((G168 8).1),((G168 8).2),(n62+[x65.length].length),(g66++[((G168 7).1,n150,(G168 7).2)]),(N67+1),hF,(cX h176 q57),(cX h173 q63),(aCI q68),(aAy q69 q164),(aJg q70 q68 h173),aR 6 [1,2,3,4,5] rfl rfl (by decide) (by exact⟨rfl,rfl,rfl,rfl,rfl,rfl,trivial⟩) hh⟩)
   refine go ?_ ?_
   refine aE hF rfl (fun h184 hF=>?_) (fun h184 hF=>?_)
   ·have hF:=tX h3 hF
    obtain⟨v187,h188,v189,h190,hF⟩:=tY hF
    obtain⟨v193,h194,hF⟩:=bC hF rW
    obtain⟨v195,h196,hF⟩:=aP hF
    refine go ?_ ?_
    refine dr [0,0,0,7,15] 4 1 ?_ (fun bs192 G191=>?_)
    obtain⟨x197,h198,hF⟩:=aP hF
    refine kY (xM 1 rfl rfl h196 h198 tyA42.s) zU2 ?_
    refine aU ?_
    exact eG Jj167 ⟨x197,v189,hF,(bG h198 q153),rfl,rfl⟩ 8 [0,1,3,4,5,6,7] rfl rfl ⟨rfl,rfl,rfl,rfl,rfl,rfl,rfl,rfl,trivial⟩
   refine fN ?_
   exact eG Jj167 ⟨v147,v133,hF,q153,rfl,rfl⟩ 8 [0,1,3,4,5,6,7] rfl rfl ⟨rfl,rfl,rfl,rfl,rfl,rfl,rfl,rfl,trivial⟩
  obtain⟨x121',hL,hRl127⟩:=aP hF
  refine dQ (fun k a w=>∃(x114:List Rat),∃(x120:Int),∃(b115:Option Nat),∃(c116:Nat),∃(n117:Nat),oO K a0 v93 v104 k x114 x120=some x121'∧x114.length=n117∧hs _ ([⟨some b103,1,24,1,1,[pO b115 n117 c116]⟩,hO cQ b115 c116 42 n117 x114,⟨some b95,1,92,5,1,(aO.enc v93)⟩,⟨some b33,1,123,6,1,([pI .i64 a0.vars]++[pI .i64 (a0.lines.length:Int)]++[pI .i64 v6]++[pO b60 n62 c61]++[pO none 0 0]++[pO b54 n56 c55])⟩,hO cI b54 c55 3 n56 x53,hO cQ none 0 42 0 ([]:List Rat),hO (cH g66) b60 c61 24 n62 x59,⟨some b1,1,90,3,1,(aV.enc a0)⟩]++eA cQ 42 g66 x65) [(1,.vc (pP (some b1) 0)),(3,.vc (pI .i64 (a0.lines.length:Int))),(4,.vc (pP (some b33) 0)),(5,.vc (pI .i64 x71)),(6,.vc (pP (some b95) 0)),(7,.vc (pP (some b103) 0)),(8,.vc (pM (cB.e (decide (v104<0))))),(9,.vc (pF 147 [pM (cB.e (decide (v104<0))),pP (some b103) 0])),(28,.vc (pS aO.cod a0.lines)),(29,.vc (pI .i64 (a0.lines.length:Int))),(30,.vc (pI .i64 x71)),(47,.vc (pS cQ v93.a)),(48,.vc (pI .i64 (v93.a.length:Int))),(49,.vc (pI .i64 x120))] a w) K (fun a w ⟨_,_,_,_,_,hF,_,_⟩=>by cases hF) (fun k a w ⟨x114,x120,b115,c116,n117,hF,q118,hh⟩=>dP ?_ hh) (fun a w hh=>⟨x98,0,b100,x98.length,x98.length,hL,rfl,aR 8 [0,1,2,3,4,5,6,7] rfl rfl (by decide) (by exact⟨rfl,rfl,rfl,rfl,rfl,rfl,rfl,rfl,rfl,rfl,rfl,rfl,rfl,rfl,trivial⟩) hh⟩)
  rw [oO.eq_2] at hF
  refine go ?_ ?_
  refine aE hF rfl (fun h200 hF=>?_) (fun h200 hF=>?_)
  ·refine go ?_ ?_
   refine aJ ?_
   obtain⟨v201,h202,hF⟩:=aP hF
   refine go ?_ ?_
   refine aK rfl tyZ42q (fun b203=>?_)
   obtain⟨v204,h205,hF⟩:=aP hF
   refine go ?_ ?_
   refine aCW (f:=147) (cs:=[pM (cB.e (decide (v104<0))),pP (some b103) 0]) (pre:=[.vc (pI .i64 x120),.va (eQ v201)]) (xs:=[.tmp 55,.tmp 56]) 9 [1,2] [0,3,4,5,6,7,8] rfl (s9 h205 q118) ⟨rfl,rfl,rfl,trivial⟩ rfl rfl rfl (by decide) ?_
   rintro _ _ ⟨b208,c209,n207,q210,rfl,rfl⟩
   refine aU (aH ?_)
   obtain⟨v214,h215,hF⟩:=aP hF
   obtain⟨v216,h217,hF⟩:=bC hF tZ
   refine dr [0,0,2,0,14,0,32,127] 7 1 ?_ (fun bs213 G212=>?_)
   obtain⟨v218,h219,hF⟩:=aP hF
   refine aCW (f:=147) (cs:=[pM (cB.e (decide (v104<0))),pP (some b103) 0]) (pre:=[.vc (pI .i64 v214),.va (eQ v216)]) (xs:=[.tmp 62,.tmp 64]) 9 [0,1] [2,3,4,5,6,7,8] rfl (s9 h219 q210) ⟨rfl,rfl,rfl,trivial⟩ rfl rfl rfl (by decide) ?_
   rintro _ _ ⟨b222,c223,n221,q224,rfl,rfl⟩
   obtain⟨v226,h227,hF⟩:=aP hF
   refine go ?_ ?_
   exact aF (fun a w hh=>⟨v218,v226,b222,c223,n221,hF,q224,aR 9 [0,1,3,4,5,6,7,8] rfl rfl (by decide) (by exact⟨rfl,rfl,rfl,rfl,rfl,rfl,rfl,rfl,rfl,rfl,rfl,rfl,rfl,rfl,trivial⟩) hh⟩)
  refine bH ?_
  obtain rfl:=iD hF
  exact eG Jj128 ⟨x114,b115,c116,n117,hRl127,q118,rfl,rfl⟩ 8 [0,1,2,3,4,5,6,7] rfl rfl ⟨rfl,rfl,rfl,rfl,rfl,rfl,rfl,rfl,rfl,rfl,rfl,trivial⟩
 refine bH ?_
 obtain⟨rfl,rfl,rfl⟩:=sm3 hF
 exact eG Jj91 ⟨x53,x59,x65,b54,c55,n56,b60,c61,n62,g66,N67,hRl90,q57,q63,q68,q69,q70,rfl,rfl⟩ 5 [0,1,2,3] rfl rfl zU1
def tN (K:Nat) (x34:List Rat):Option (List Rat):=
 some x34
def mK (K:Nat) (a0:Nat) (a3:List (List Rat)) (v14:Rat):Nat→(List Rat)→Int→Option (List Rat)
 |0,_,_=>none
 |k+1,x27,x33=>bif(decide (x33<((a3.getD a0 []).length:Int))) then((bK (a3.getD a0 []) x33).bind fun v43=>(xP v43).bind fun v46=>bif(v46 != 0) then((bK x27 x33).bind fun v51=>(aC1 v14 v43).bind fun v53=>(aFv v51 v53).bind fun v55=>(bK x27 x33).bind fun v57=>(pN x27 x33 v55).bind fun x59=>(aQ (x33+1)).bind fun v62=>mK K a0 a3 v14 k x59 v62) else((aQ (x33+1)).bind fun v64=>mK K a0 a3 v14 k x27 v64)) else(some x27)
def tR (K:Nat) (a0:Nat) (a1:Int) (a2:List Rat) (a3:List (List Rat)):Option (List Rat):=
 (bK a2 a1).bind fun v14=>(xP v14).bind fun v17=>bif(v17==0) then(some a2) else((mK K a0 a3 v14 K a2 0).bind fun x34=>tN K x34)
theorem xX {K:Nat} {a0:Nat} {a1:Int} {a2:List Rat} {a3:List (List Rat)} {r:List Rat} (hF:tR K a0 a1 a2 a3=some r) {b4:Option Nat} {c5 n6:Nat} {g9:List p7} {N10:Nat} (q7:a2.length=n6) (q11:a3.length=N10) (q12:cL g9 a3) (q3:a0<N10):CtO Tryz.prog 148 ([hO cQ b4 c5 42 n6 a2]++eA cQ 42 g9 a3) [.vc (pO b4 n6 c5),.vc (pO (fL g9 a0).1 (fL g9 a0).2.1 (fL g9 a0).2.2),.vc (pI .i64 a1)] (fun Ho q=>r.length=n6∧Ho=([hO cQ b4 c5 42 n6 r]++eA cQ 42 g9 a3)∧q=.any):=by
 unfold tR at hF
 refine aA Tryz.func148 rfl (by kernel_rfl) Tryz.ntmps148 rfl (fun w0 M0=>?_)
 obtain⟨v14,h15,hF⟩:=aP hF
 refine go ?_ ?_
 refine aK rfl tyZ42q (fun b16=>?_)
 obtain⟨v17,h18,hF⟩:=bC hF d8
 refine go ?_ ?_
 refine aE hF rfl (fun h19 hF=>?_) (fun h19 hF=>?_)
 ·refine fY (fZ ?_)
  obtain rfl:=iD hF
  exact iT (.inl rfl) Tryz.results148 .nil rfl 2 [1] rfl rfl (by decide) ⟨q7,rfl,rfl⟩
 refine go ?_ ?_
 refine aG (aBx (C:=cQ) (xs:=(a3.getD a0 [])) (T:=42) rfl tyS24 (cY q12 q11 q3)) zU1 ?_
 refine go ?_ ?_
 refine aJ (aX (fun H E=>∃(x34:List Rat),tN K x34=some r∧x34.length=n6∧H=([hO cQ b4 c5 42 n6 x34]++eA cQ 42 g9 a3)∧E=[]) ?_ (fun Jj41=>?_))
 ·rintro _ _ ⟨x34,hF,q38,rfl,rfl⟩
  unfold tN at hF
  obtain rfl:=iD hF
  exact iT (.inr rfl) Tryz.results148 .nil rfl 1 [0] rfl rfl (by decide) ⟨q38,rfl,rfl⟩
 obtain⟨x34',hL,hRl40⟩:=aP hF
 refine dQ (fun k a w=>∃(x27:List Rat),∃(x33:Int),mK K a0 a3 v14 k x27 x33=some x34'∧x27.length=n6∧hs _ ([⟨some b16,1,42,4,1,(eQ v14)⟩,hO cQ b4 c5 42 n6 x27]++eA cQ 42 g9 a3) [(0,.vc (pO b4 n6 c5)),(6,.vc (pP (some b16) 0)),(16,.vc (pO (fL g9 a0).1 (fL g9 a0).2.1 (fL g9 a0).2.2)),(17,.vc (pI .i64 ((a3.getD a0 []).length:Int))),(18,.vc (pI .i64 x33))] a w) K (fun a w ⟨_,_,hF,_,_⟩=>by cases hF) (fun k a w ⟨x27,x33,hF,q31,hh⟩=>dP ?_ hh) (fun a w hh=>⟨a2,0,hL,q7,aR 2 [0,1] rfl rfl (by decide) (by exact⟨rfl,rfl,rfl,rfl,rfl,trivial⟩) hh⟩)
 rw [mK.eq_2] at hF
 refine go ?_ ?_
 refine aE hF rfl (fun h42 hF=>?_) (fun h42 hF=>?_)
 ·refine go ?_ ?_
  refine aJ ?_
  obtain⟨v43,h44,hF⟩:=aP hF
  refine go ?_ ?_
  refine aG (d7 (2+a0) rfl tyS24 (rN 2 rfl q12 q11 q3) (cY q12 q11 q3) (aC h44).1 (aC h44).2.1) zU2 ?_
  refine aG (iC (k:=4) (2+a0) rfl (rN 2 rfl q12 q11 q3) h44 rfl (.agg tyA42) rfl) zU1 ?_
  refine aK rfl tyZ42q (fun b45=>?_)
  obtain⟨v46,h47,hF⟩:=bC hF d8
  refine go ?_ ?_
  refine aE hF rfl (fun h48 hF=>?_) (fun h48 hF=>?_)
  ·obtain⟨v51,h52,hF⟩:=aP hF
   obtain⟨v53,h54,hF⟩:=bC hF vG
   obtain⟨v55,h56,hF⟩:=bC hF xA
   have hF:=tX h52 hF
   refine dr [0,0,0,0,12,28,0,0,192,508,1023,2047] 11 1 ?_ (fun bs50 G49=>?_)
   obtain⟨x59,h60,v62,h63,hF⟩:=tY hF
   refine go ?_ ?_
   exact aF (fun a w hh=>⟨x59,v62,hF,(bG h60 q31),aR 3 [1,2] rfl rfl (by decide) (by exact⟨rfl,rfl,rfl,rfl,rfl,trivial⟩) hh⟩)
  obtain⟨v64,h65,hF⟩:=aP hF
  refine go ?_ ?_
  exact aF (fun a w hh=>⟨x27,v64,hF,q31,aR 3 [1,2] rfl rfl (by decide) (by exact⟨rfl,rfl,rfl,rfl,rfl,trivial⟩) hh⟩)
 refine bH ?_
 obtain rfl:=iD hF
 exact eG Jj41 ⟨x27,hRl40,q31,rfl,rfl⟩ 2 [1] rfl rfl trivial
def n9 (K:Nat) (x69:List Rat):Option (List Rat):=
 some x69
def kM (K:Nat) (a4:List Nat) (a6:List Int) (a7:List (List Rat)):Nat→(List Rat)→Int→Option (List Rat)
 |0,_,_=>none
 |k+1,x62,x68=>bif(decide (x68<(a6.length:Int))) then((bK a6 x68).bind fun v78=>(bK a4 x68).bind fun v82=>(tR K v82 v78 x62 a7).bind fun v84=>(aQ (x68+1)).bind fun v88=>kM K a4 a6 a7 k v84 v88) else(some x62)
def oA (K:Nat) (a4:List Nat) (a6:List Int) (a7:List (List Rat)) (x47:List Rat):Option (List Rat):=
 (kM K a4 a6 a7 K x47 0).bind fun x69=>n9 K x69
def kL (K:Nat) (a0:(Int→Option Rat)) (a3:Int):Nat→(List Rat)→Int→Option (List Rat)
 |0,_,_=>none
 |k+1,x40,x46=>bif(decide (x46<a3)) then((a0 x46).bind fun v93=>(bK x40 x46).bind fun v95=>(pN x40 x46 v93).bind fun x97=>(aQ (x46+1)).bind fun v100=>kL K a0 a3 k x97 v100) else(some x40)
def nC (K:Nat) (a0:(Int→Option Rat)) (a1:Int) (a2:Int) (a3:Int) (a4:List Nat) (a5:List Rat) (a6:List Int) (a7:List (List Rat)):Option (List Rat):=
 (aQ (a3+1)).bind fun v26=>(y5 v26 0).bind fun x28=>(kL K a0 a3 K x28 0).bind fun x47=>oA K a4 a6 a7 x47
theorem t5 {K:Nat} {a0:(Int→Option Rat)} {a1:Int} {a2:Int} {a3:Int} {a4:List Nat} {a5:List Rat} {a6:List Int} {a7:List (List Rat)} {r:List Rat} (hF:nC K a0 a1 a2 a3 a4 a5 a6 a7=some r) {p0:Nat} {b5:Option Nat} {c6 n7:Nat} {b10:Option Nat} {c11 n12:Nat} {b15:Option Nat} {c16 n17:Nat} {g20:List p7} {N21:Nat} (q8:a4.length=n7) (q13:a5.length=n12) (q18:a6.length=n17) (q22:a7.length=N21) (q23:cL g20 a7) (q24:∀k∈a4,k<N21):CtO Tryz.prog 112 ([⟨some p0,1,123,6,1,([pI .i64 a1]++[pI .i64 a2]++[pI .i64 a3]++[pO b5 n7 c6]++[pO b10 n12 c11]++[pO b15 n17 c16])⟩,hO (cH g20) b5 c6 24 n7 a4,hO cQ b10 c11 42 n12 a5,hO cI b15 c16 3 n17 a6]++eA cQ 42 g20 a7) [.vc (pP (some p0) 0),.vc (pFn Tryz.prog (fun x:Int=>[.vc (pI .i64 x)]) (fun r:Rat=>.va (eQ r)) a0)] (fun Ho q=>∃b1103 c1104 n1105,r.length=n1105∧Ho=([⟨some p0,1,123,6,1,([pI .i64 a1]++[pI .i64 a2]++[pI .i64 a3]++[pO b5 n7 c6]++[pO b1103 n1105 c1104]++[pO b15 n17 c16])⟩,hO (cH g20) b5 c6 24 n7 a4,hO cQ b10 c11 42 n12 a5,hO cI b15 c16 3 n17 a6,hO cQ b1103 c1104 42 n1105 r]++eA cQ 42 g20 a7)∧q=.any):=by
 unfold nC at hF
 refine aA Tryz.func112 rfl (by kernel_rfl) Tryz.ntmps112 rfl (fun w0 M0=>?_)
 obtain⟨v26,h27,x28,h29,hF⟩:=tY hF
 refine go ?_ ?_
 refine o7 (C:=cQ) rfl tyS24 rfl tyZ42q rfl h29 (fun b30=>?_)
 refine go ?_ ?_
 refine aJ (aX (fun H E=>∃(x47:List Rat),oA K a4 a6 a7 x47=some r∧x47.length=x28.length∧H=([hO cQ b30 x28.length 42 x28.length x47,⟨some p0,1,123,6,1,([pI .i64 a1]++[pI .i64 a2]++[pI .i64 a3]++[pO b5 n7 c6]++[pO b30 x28.length x28.length]++[pO b15 n17 c16])⟩,hO (cH g20) b5 c6 24 n7 a4,hO cQ b10 c11 42 n12 a5,hO cI b15 c16 3 n17 a6]++eA cQ 42 g20 a7)∧E=[(0,.vc (pP (some p0) 0))]) ?_ (fun Jj54=>?_))
 ·rintro _ _ ⟨x47,hF,q51,rfl,rfl⟩
  unfold oA at hF
  refine go ?_ ?_
  refine aJ (aX (fun H E=>∃(x69:List Rat),n9 K x69=some r∧x69.length=x28.length∧H=([hO cQ b30 x28.length 42 x28.length x69,⟨some p0,1,123,6,1,([pI .i64 a1]++[pI .i64 a2]++[pI .i64 a3]++[pO b5 n7 c6]++[pO b30 x28.length x28.length]++[pO b15 n17 c16])⟩,hO (cH g20) b5 c6 24 n7 a4,hO cQ b10 c11 42 n12 a5,hO cI b15 c16 3 n17 a6]++eA cQ 42 g20 a7)∧E=[]) ?_ (fun Jj76=>?_))
  ·rintro _ _ ⟨x69,hF,q73,rfl,rfl⟩
   unfold n9 at hF
   obtain rfl:=iD hF
   exact iT (.inr rfl) Tryz.results112 .nil rfl 5 [1,2,3,4,0] rfl rfl (by decide) ⟨b30,x28.length,x28.length,q73,rfl,rfl⟩
  obtain⟨x69',hL,hRl75⟩:=aP hF
  refine dQ (fun k a w=>∃(x62:List Rat),∃(x68:Int),kM K a4 a6 a7 k x62 x68=some x69'∧x62.length=x28.length∧hs _ ([hO cQ b30 x28.length 42 x28.length x62,⟨some p0,1,123,6,1,([pI .i64 a1]++[pI .i64 a2]++[pI .i64 a3]++[pO b5 n7 c6]++[pO b30 x28.length x28.length]++[pO b15 n17 c16])⟩,hO (cH g20) b5 c6 24 n7 a4,hO cQ b10 c11 42 n12 a5,hO cI b15 c16 3 n17 a6]++eA cQ 42 g20 a7) [(0,.vc (pP (some p0) 0)),(36,.vc (pO b15 n17 c16)),(37,.vc (pI .i64 (a6.length:Int))),(38,.vc (pI .i64 x68))] a w) K (fun a w ⟨_,_,hF,_,_⟩=>by cases hF) (fun k a w ⟨x62,x68,hF,q66,hh⟩=>dP ?_ hh) (fun a w hh=>⟨x47,0,hL,q51,aR 5 [0,1,2,3,4] rfl rfl (by decide) (by exact⟨rfl,rfl,rfl,rfl,trivial⟩) hh⟩)
  rw [kM.eq_2] at hF
  refine go ?_ ?_
  refine aE hF rfl (fun h77 hF=>?_) (fun h77 hF=>?_)
  ·refine go ?_ ?_
   refine aJ ?_
   obtain⟨v78,h79,v82,h83,hF⟩:=tY hF
   refine go ?_ ?_
   refine dr [0,1,3,7,0,16,48,112,0,496,1008,0,4095] 12 1 ?_ (fun bs81 G80=>?_)
   obtain⟨v84,h85,hF⟩:=aP hF
   refine m7 5 [0] [1,2,3,4] rfl (xX h85 q66 q22 q23 (q24 _ (aN h83))) ⟨rfl,rfl,rfl,trivial⟩ rfl rfl rfl (by decide) ?_
   rintro _ _ ⟨q86,rfl,rfl⟩
   refine lE (iQ [hO cQ b30 x28.length 42 x28.length v84] (eA cQ 42 g20 a7) [⟨some p0,1,123,6,1,([pI .i64 a1]++[pI .i64 a2]++[pI .i64 a3]++[pO b5 n7 c6]++[pO b30 x28.length x28.length]++[pO b15 n17 c16])⟩,hO (cH g20) b5 c6 24 n7 a4,hO cQ b10 c11 42 n12 a5,hO cI b15 c16 3 n17 a6]) ?_
   obtain⟨v88,h89,hF⟩:=aP hF
   refine go ?_ ?_
   exact aF (fun a w hh=>⟨v84,v88,hF,q86,aR 5 [0,1,2,3,4] rfl rfl (by decide) (by exact⟨rfl,rfl,rfl,rfl,trivial⟩) hh⟩)
  refine bH ?_
  obtain rfl:=iD hF
  exact eG Jj76 ⟨x62,hRl75,q66,rfl,rfl⟩ 5 [0,1,2,3,4] rfl rfl trivial
 obtain⟨x47',hL,hRl53⟩:=aP hF
 refine dQ (fun k a w=>∃(x40:List Rat),∃(x46:Int),kL K a0 a3 k x40 x46=some x47'∧x40.length=x28.length∧hs _ ([hO cQ b30 x28.length 42 x28.length x40,⟨some p0,1,123,6,1,([pI .i64 a1]++[pI .i64 a2]++[pI .i64 a3]++[pO b5 n7 c6]++[pO b30 x28.length x28.length]++[pO b15 n17 c16])⟩,hO (cH g20) b5 c6 24 n7 a4,hO cQ b10 c11 42 n12 a5,hO cI b15 c16 3 n17 a6]++eA cQ 42 g20 a7) [(0,.vc (pP (some p0) 0)),(1,.vc (pFn Tryz.prog (fun x:Int=>[.vc (pI .i64 x)]) (fun r:Rat=>.va (eQ r)) a0)),(19,.vc (pI .i64 a3)),(20,.vc (pI .i64 x46))] a w) K (fun a w ⟨_,_,hF,_,_⟩=>by cases hF) (fun k a w ⟨x40,x46,hF,q44,hh⟩=>dP ?_ hh) (fun a w hh=>⟨x28,0,hL,rfl,aR 5 [0,1,2,3,4] rfl rfl (by decide) (by exact⟨rfl,rfl,rfl,rfl,trivial⟩) hh⟩)
 rw [kL.eq_2] at hF
 refine go ?_ ?_
 refine aE hF rfl (fun h90 hF=>?_) (fun h90 hF=>?_)
 ·refine go ?_ ?_
  refine aJ ?_
  obtain⟨v93,h94,v95,h96,hF⟩:=tY hF
  refine go ?_ ?_
  refine iV [0,1,3,7,0,0,0,96,255,511] 9 1 [.v (.vc (pP (some p0) 0)),.v (.vc (pP (some p0) 0)),.v (.vc (pP (some p0) 4)),.v (.vc (pO b30 x28.length x28.length)),.v (.vc (pI .i64 x46)),.v (.vc (pFn Tryz.prog (fun x:Int=>[.vc (pI .i64 x)]) (fun r:Rat=>.va (eQ r)) a0)),.v (.vc (pI .i64 x46)),.v (.va (eQ v93)),.v (.vc (pE b30 x46 cQ.n 0))] aY ⟨d0 (aM (.inl rfl)) zU1,d0 (qX rfl) zU1,d0 (f7 (off:=0) (k:=4) rfl tyF123_4) zU1,d0 (fF 1 1 rfl rfl rfl rfl (.one tyO24)) zU1,d0 (aM (.inl rfl)) zU1,d0 (aM (.inl rfl)) zU1,d0 (aM (.inl rfl)) zU1,d0 (aCF (pre:=fun x:Int=>[.vc (pI .i64 x)]) (post:=fun r:Rat=>.va (eQ r)) (x:=x46) (r:=v93) rfl h94 rfl) zU2,d0 (d7 (C:=cQ) 0 rfl tyS24 rfl q44 (aC h96).1 (aC h96).2.1) zU2,trivial⟩ (fun bs92 G91=>?_)
  obtain⟨x97,h98,v100,h101,hF⟩:=tY hF
  refine go ?_ ?_
  exact aF (fun a w hh=>⟨x97,v100,hF,(bG h98 q44),aR 5 [0,1,2,3,4] rfl rfl (by decide) (by exact⟨rfl,rfl,rfl,rfl,trivial⟩) hh⟩)
 refine bH ?_
 obtain rfl:=iD hF
 exact eG Jj54 ⟨x40,hRl53,q44,rfl,rfl⟩ 5 [0,1,2,3,4] rfl rfl zU1
def oT (a0:Int) (a1:Int) (a2:Int) (a3:Int) (a4:List Nat) (a5:List Rat) (a6:List Int) (a7:List (List Rat)):Option Unit:=
 some ()
theorem xK {a0:Int} {a1:Int} {a2:Int} {a3:Int} {a4:List Nat} {a5:List Rat} {a6:List Int} {a7:List (List Rat)} {r:Unit} (hF:oT a0 a1 a2 a3 a4 a5 a6 a7=some r) {p0:Nat} {b5:Option Nat} {c6 n7:Nat} {b10:Option Nat} {c11 n12:Nat} {b15:Option Nat} {c16 n17:Nat} {g20:List p7} {N21:Nat} (q8:a4.length=n7) (q13:a5.length=n12) (q18:a6.length=n17) (q22:a7.length=N21) (q23:cL g20 a7) (q24:∀k∈a4,k<N21):CtO Tryz.prog 149 ([⟨some p0,1,123,6,1,([pI .i64 a1]++[pI .i64 a2]++[pI .i64 a3]++[pO b5 n7 c6]++[pO b10 n12 c11]++[pO b15 n17 c16])⟩,hO (cH g20) b5 c6 24 n7 a4,hO cQ b10 c11 42 n12 a5,hO cI b15 c16 3 n17 a6]++eA cQ 42 g20 a7) [.vc (pP (some p0) 0),.vc (pI .i64 a0)] (fun Ho q=>∃b1028 b1029,Ho=([⟨some p0,1,123,6,1,([pI .i64 a1]++[pI .i64 a2]++[pI .i64 a3]++[pO b5 n7 c6]++[pO b10 n12 c11]++[pO b15 n17 c16])⟩,⟨some b1028,1,3,1,1,[pI .i64 a0]⟩,⟨some b1029,1,120,1,1,[pP (some p0) 0]⟩,hO (cH g20) b5 c6 24 n7 a4,hO cQ b10 c11 42 n12 a5,hO cI b15 c16 3 n17 a6]++eA cQ 42 g20 a7)∧q=.vc (pF 169 [pP (some b1028) 0,pP (some b1029) 0])):=by
 unfold oT at hF
 refine aA Tryz.func149 rfl (by kernel_rfl) Tryz.ntmps149 rfl (fun w0 M0=>?_)
 refine aD (aI (cP rfl rfl trivial (fun b26=>?_)))
 refine cP rfl rfl trivial (fun b27=>?_)
 refine aG (aM (p:=.any) (.inr rfl)) ⟨fun _=>trivial,trivial⟩ ?_
 refine go ?_ ?_
 refine aG (aLq (xs:=[.tmp 3,.tmp 2]) (cs:=[pP (some b27) 0,pP (some b26) 0]) rfl rfl) zU2 ?_
 refine go ?_ ?_
 refine fY (fZ ?_)
 obtain rfl:=iD hF
 exact iT (.inl rfl) Tryz.results149 (.tmp rfl .nil) rfl 6 [2,0,1,3,4,5] rfl rfl (by decide) ⟨b27,b26,rfl,rfl⟩
def mX (K:Nat) (x33:Int):Option Int:=
 some x33
def jM (K:Nat) (a6:List Int) (x30:Rat) (x31:Int) (x32:Int) (v52:Rat) (recl34:Rat→Int→Int→Option Int) (x55:Int):Option Int:=
 bif(decide (x55<0)) then((aQ (x32+1)).bind fun v62=>recl34 v52 x32 v62) else(bif(x55==0) then((bK a6 x32).bind fun v65=>(bK a6 x31).bind fun v67=>bif(decide (v65<v67)) then((aQ (x32+1)).bind fun v72=>recl34 v52 x32 v72) else((aQ (x32+1)).bind fun v74=>recl34 x30 x31 v74)) else((aQ (x32+1)).bind fun v76=>recl34 x30 x31 v76))
def cW (K:Nat) (a0:Int) (a3:Int) (a4:List Nat) (a6:List Int) (a7:List (List Rat)):Nat→Rat→Int→Int→Option Int
 |0,_,_,_=>none
 |k+1,x30,x31,x32=>bif(decide (x32<(a4.length:Int))) then((bK a4 x32).bind fun v37=>(bK (a7.getD v37 []) a0).bind fun v39=>(xP v39).bind fun v41=>bif(decide (v41≤0)) then((aQ (x32+1)).bind fun v44=>cW K a0 a3 a4 a6 a7 k x30 x31 v44) else((bK (a7.getD v37 []) a3).bind fun v48=>(bK (a7.getD v37 []) a0).bind fun v50=>(aD0 v48 v50).bind fun v52=>bif(decide (0≤x31)) then((aLg v52 x30).bind fun v79=>jM K a6 x30 x31 x32 v52 (cW K a0 a3 a4 a6 a7 k) v79) else(jM K a6 x30 x31 x32 v52 (cW K a0 a3 a4 a6 a7 k) (-1)))) else(some x31)
def pH (K:Nat) (a0:Int) (a1:Int) (a2:Int) (a3:Int) (a4:List Nat) (a5:List Rat) (a6:List Int) (a7:List (List Rat)):Option Int:=
 (cW K a0 a3 a4 a6 a7 K 0 (-1) 0).bind fun x33=>mX K x33
theorem xS {K:Nat} {a0:Int} {a1:Int} {a2:Int} {a3:Int} {a4:List Nat} {a5:List Rat} {a6:List Int} {a7:List (List Rat)} {r:Int} (hF:pH K a0 a1 a2 a3 a4 a5 a6 a7=some r) {p0:Nat} {b5:Option Nat} {c6 n7:Nat} {b10:Option Nat} {c11 n12:Nat} {b15:Option Nat} {c16 n17:Nat} {g20:List p7} {N21:Nat} (q8:a4.length=n7) (q13:a5.length=n12) (q18:a6.length=n17) (q22:a7.length=N21) (q23:cL g20 a7) (q24:∀k∈a4,k<N21):CtO Tryz.prog 150 ([⟨some p0,1,123,6,1,([pI .i64 a1]++[pI .i64 a2]++[pI .i64 a3]++[pO b5 n7 c6]++[pO b10 n12 c11]++[pO b15 n17 c16])⟩,hO (cH g20) b5 c6 24 n7 a4,hO cQ b10 c11 42 n12 a5,hO cI b15 c16 3 n17 a6]++eA cQ 42 g20 a7) [.vc (pP (some p0) 0),.vc (pI .i64 a0)] (fun Ho q=>Ho=([⟨some p0,1,123,6,1,([pI .i64 a1]++[pI .i64 a2]++[pI .i64 a3]++[pO b5 n7 c6]++[pO b10 n12 c11]++[pO b15 n17 c16])⟩,hO (cH g20) b5 c6 24 n7 a4,hO cQ b10 c11 42 n12 a5,hO cI b15 c16 3 n17 a6]++eA cQ 42 g20 a7)∧q=.vc (pI .i64 r)):=by
 unfold pH at hF
 refine aA Tryz.func150 rfl (by kernel_rfl) Tryz.ntmps150 rfl (fun w0 M0=>?_)
 refine go ?_ ?_
 refine aK rfl tyZ42q (fun b26=>?_)
 refine go ?_ ?_
 refine aJ (aX (fun H E=>∃(x33:Int),mX K x33=some r∧H=([⟨some p0,1,123,6,1,([pI .i64 a1]++[pI .i64 a2]++[pI .i64 a3]++[pO b5 n7 c6]++[pO b10 n12 c11]++[pO b15 n17 c16])⟩,hO (cH g20) b5 c6 24 n7 a4,hO cQ b10 c11 42 n12 a5,hO cI b15 c16 3 n17 a6]++eA cQ 42 g20 a7)∧E=[(5,.vc (pI .i64 x33))]) ?_ (fun Jj35=>?_))
 ·rintro _ _ ⟨x33,hF,rfl,rfl⟩
  unfold mX at hF
  refine go ?_ ?_
  refine fY (fZ ?_)
  obtain rfl:=iD hF
  exact iT (.inl rfl) Tryz.results150 (.tmp rfl .nil) rfl 4 [0,1,2,3] rfl rfl (by decide) ⟨rfl,rfl⟩
 obtain⟨x33',hL,hRl34⟩:=aP hF
 refine dQ (fun k a w=>∃(x30:Rat),∃(x31:Int),∃(x32:Int),cW K a0 a3 a4 a6 a7 k x30 x31 x32=some x33'∧hs _ ([⟨some b26,1,42,4,1,(eQ x30)⟩,⟨some p0,1,123,6,1,([pI .i64 a1]++[pI .i64 a2]++[pI .i64 a3]++[pO b5 n7 c6]++[pO b10 n12 c11]++[pO b15 n17 c16])⟩,hO (cH g20) b5 c6 24 n7 a4,hO cQ b10 c11 42 n12 a5,hO cI b15 c16 3 n17 a6]++eA cQ 42 g20 a7) [(0,.vc (pP (some p0) 0)),(1,.vc (pI .i64 a0)),(5,.vc (pI .i64 x31)),(6,.vc (pP (some b26) 0)),(14,.vc (pO b5 n7 c6)),(15,.vc (pI .i64 (a4.length:Int))),(16,.vc (pI .i64 x32))] a w) K (fun a w ⟨_,_,_,hF,_⟩=>by cases hF) (fun k a w ⟨x30,x31,x32,hF,hh⟩=>dP ?_ hh) (fun a w hh=>⟨0,(-1),0,hL,aR 5 [0,1,2,3,4] rfl rfl (by decide) (by exact⟨rfl,rfl,rfl,rfl,rfl,rfl,rfl,trivial⟩) hh⟩)
 rw [cW.eq_2] at hF
 refine go ?_ ?_
 refine aE hF rfl (fun h36 hF=>?_) (fun h36 hF=>?_)
 ·refine go ?_ ?_
  refine aJ ?_
  obtain⟨v37,h38,v39,h40,hF⟩:=tY hF
  refine go ?_ ?_
  refine aG (d7 (5+v37) rfl tyS24 (rN 5 rfl q23 q22 (q24 _ (aN h38))) (cY q23 q22 (q24 _ (aN h38))) (aC h40).1 (aC h40).2.1) zU2 ?_
  refine aG (iC (k:=4) (5+v37) rfl (rN 5 rfl q23 q22 (q24 _ (aN h38))) h40 rfl (.agg tyA42) rfl) zU1 ?_
  obtain⟨v41,h42,hF⟩:=bC hF d8
  refine go ?_ ?_
  refine aE hF rfl (fun h43 hF=>?_) (fun h43 hF=>?_)
  ·refine bH ?_
   obtain⟨v44,h45,hF⟩:=aP hF
   refine go ?_ ?_
   exact aF (fun a w hh=>⟨x30,x31,v44,hF,aR 5 [0,1,2,3,4] rfl rfl (by decide) (by exact⟨rfl,rfl,rfl,rfl,rfl,rfl,rfl,trivial⟩) hh⟩)
  obtain⟨v48,h49,hF⟩:=aP hF
  have hF:=tX h40 hF
  obtain⟨v52,h53,hF⟩:=bC hF w7
  refine go ?_ ?_
  refine iV [0,0,2,6,14,31,63,0,0,384,896,2047,0,8191] 13 1 [.v (.vc (pO (fL g20 v37).1 (fL g20 v37).2.1 (fL g20 v37).2.2)),.v (.vc (pP (some p0) 0)),.v (.vc (pP (some p0) 0)),.v (.vc (pP (some p0) 2)),.v (.vc (pI .i64 a3)),.v (.vc (pE (fL g20 v37).1 a3 cQ.n 0)),.v (.va (eQ v48)),.v (.vc (pO (fL g20 v37).1 (fL g20 v37).2.1 (fL g20 v37).2.2)),.v (.vc (pI .i64 a0)),.v (.vc (pE (fL g20 v37).1 a0 cQ.n 0)),.v (.va (eQ v39)),.v (.va (eQ v52)),.a 42 (eQ 0)] aY ⟨d0 (aM (.inl rfl)) zU1,d0 (aM (.inl rfl)) zU1,d0 (qX rfl) zU1,d0 (f7 (off:=0) (k:=2) rfl tyF123_2) zU1,d0 (fF 1 1 rfl rfl rfl rfl (.one tyO3)) zU1,d0 (d7 (5+v37) rfl tyS24 (gL 5 rfl q23 q22 (q24 _ (aN h38))) (cY q23 q22 (q24 _ (aN h38))) (aC h49).1 (aC h49).2.1) zU2,d0 (iC (k:=4) (5+v37) rfl (gL 5 rfl q23 q22 (q24 _ (aN h38))) h49 rfl (.agg tyA42) rfl) zU1,d0 (aM (.inl rfl)) zU1,d0 (aM (.inl rfl)) zU1,d0 (d7 (5+v37) rfl tyS24 (gL 5 rfl q23 q22 (q24 _ (aN h38))) (cY q23 q22 (q24 _ (aN h38))) (aC h40).1 (aC h40).2.1) zU2,d0 (iC (k:=4) (5+v37) rfl (gL 5 rfl q23 q22 (q24 _ (aN h38))) h40 rfl (.agg tyA42) rfl) zU1,d0 (bJ rfl h53 rfl) zU2,⟨rfl,.alc tyZ42q⟩,trivial⟩ (fun bs47 G46=>?_)
  refine kY (t_s 0 rfl rfl rfl tyA42.s) zU2 ?_
  refine aU (aH (aD (aI (aG (aM (.inr rfl)) ⟨p6 _ _,trivial⟩ ?_))))
  refine aU (aH (aD (yP (fun H E=>∃(x55:Int),jM K a6 x30 x31 x32 v52 (cW K a0 a3 a4 a6 a7 k) x55=some x33'∧H=([⟨some (bs47 12),1,42,4,1,(eQ v52)⟩,⟨some b26,1,42,4,1,(eQ x30)⟩,⟨some p0,1,123,6,1,([pI .i64 a1]++[pI .i64 a2]++[pI .i64 a3]++[pO b5 n7 c6]++[pO b10 n12 c11]++[pO b15 n17 c16])⟩,hO (cH g20) b5 c6 24 n7 a4,hO cQ b10 c11 42 n12 a5,hO cI b15 c16 3 n17 a6]++eA cQ 42 g20 a7)∧E=[(0,.vc (pP (some p0) 0)),(1,.vc (pI .i64 a0)),(5,.vc (pI .i64 x31)),(6,.vc (pP (some b26) 0)),(7,.vc (pI .i64 x32)),(9,.vc (pP (some (bs47 12)) 0)),(10,.vc (pI .i64 x55)),(14,.vc (pO b5 n7 c6)),(15,.vc (pI .i64 (a4.length:Int))),(16,.vc (pI .i64 x32))]) ?_ (fun Jj56=>?_))))
  ·rintro _ _ ⟨x55,hF,rfl,rfl⟩
   unfold jM at hF
   refine aD ?_
   rcases Bool.eq_false_or_eq_true (decide (x55<0)) with h59|h59
   ·have hF:=rY h59 hF
    refine drb [0,1,3,7,15,31,63,127,255,511,63,2047,4095,63,8255,24639,57407,63,254015,516159,1048575,2097151,4194303] 23 0 ?_ (fun bs58 G57=>?_)
    refine aU (aH (jS rfl ?_))
    refine dr [0,0,1,7] 3 1 ?_ (fun bs61 G60=>?_)
    obtain⟨v62,h63,hF⟩:=aP hF
    refine go ?_ ?_
    exact aF (fun a w hh=>⟨v52,x32,v62,hF,aR 6 [1,2,3,4,5] rfl rfl (by decide) (by exact⟨rfl,rfl,rfl,rfl,rfl,rfl,rfl,trivial⟩) hh⟩)
   have hF:=p8 h59 hF
   rcases Bool.eq_false_or_eq_true (x55==0) with h64|h64
   ·have hF:=rY h64 hF
    obtain⟨v65,h66,hF⟩:=aP hF
    obtain⟨v67,h68,hF⟩:=aP hF
    refine drb [0,1,3,7,15,31,63,127,255,511,63,2047,4095,63,8255,24639,57407,63,254015,516159,1048575,2097151,4194303] 23 0 ?_ (fun bs58 G57=>?_)
    refine aU (aH (aE hF rfl (fun h69 hF=>?_) (fun h69 hF=>?_)))
    ·refine dr [0,0,1,7] 3 1 ?_ (fun bs71 G70=>?_)
     obtain⟨v72,h73,hF⟩:=aP hF
     refine go ?_ ?_
     exact aF (fun a w hh=>⟨v52,x32,v72,hF,aR 6 [1,2,3,4,5] rfl rfl (by decide) (by exact⟨rfl,rfl,rfl,rfl,rfl,rfl,rfl,trivial⟩) hh⟩)
    obtain⟨v74,h75,hF⟩:=aP hF
    refine go ?_ ?_
    exact aF (fun a w hh=>⟨x30,x31,v74,hF,aR 6 [1,2,3,4,5] rfl rfl (by decide) (by exact⟨rfl,rfl,rfl,rfl,rfl,rfl,rfl,trivial⟩) hh⟩)
   have hF:=p8 h64 hF
   refine drb [0,1,3,7,15,31,63,127,255,511,63,2047,4095,63,8255,24639,57407,63,254015,516159,1048575,2097151,4194303] 23 0 ?_ (fun bs58 G57=>?_)
   refine aU (aH (vM rfl ?_))
   obtain⟨v76,h77,hF⟩:=aP hF
   refine go ?_ ?_
   exact aF (fun a w hh=>⟨x30,x31,v76,hF,aR 6 [1,2,3,4,5] rfl rfl (by decide) (by exact⟨rfl,rfl,rfl,rfl,rfl,rfl,rfl,trivial⟩) hh⟩)
  refine go ?_ ?_
  refine aE hF rfl (fun h78 hF=>?_) (fun h78 hF=>?_)
  ·refine aI (aG (fF 0 4 rfl rfl rfl rfl (.agg tyA42)) zU1 ?_)
   refine aG (fF 1 4 rfl rfl rfl rfl (.agg tyA42)) zU1 ?_
   obtain⟨v79,h80,hF⟩:=bC hF aBy
   refine aG (bJ rfl h80 rfl) zU2 ?_
   refine yK ?_
   refine aU ?_
   exact eG Jj56 ⟨v79,hF,rfl,rfl⟩ 6 [0,1,2,3,4,5] rfl rfl ⟨rfl,rfl,rfl,rfl,rfl,rfl,rfl,rfl,rfl,rfl,trivial⟩
  refine fN ?_
  exact eG Jj56 ⟨(-1),hF,rfl,rfl⟩ 6 [0,1,2,3,4,5] rfl rfl ⟨rfl,rfl,rfl,rfl,rfl,rfl,rfl,rfl,rfl,rfl,trivial⟩
 refine bH ?_
 obtain rfl:=iD hF
 exact eG Jj35 ⟨x31,hRl34,rfl,rfl⟩ 5 [1,2,3,4] rfl rfl zU1
def tF (K:Nat) (x25:List (List Rat)):Option (List (List Rat)):=
 some x25
def mF (K:Nat) (a0:Nat) (a1:Nat) (a3:List (List Rat)) (v9:Rat):Nat→(List (List Rat))→Int→Option (List (List Rat))
 |0,_,_=>none
 |k+1,x20,x24=>bif(decide (x24<((a3.getD a1 []).length:Int))) then((bK (x20.getD a1 []) x24).bind fun v32=>(xP v32).bind fun v35=>bif(v35 != 0) then((bK (x20.getD a0 []) x24).bind fun v40=>(aC1 v9 v32).bind fun v42=>(aFv v40 v42).bind fun v44=>(bK (x20.getD a0 []) x24).bind fun v46=>(pN (x20.getD a0 []) x24 v44).bind fun x48=>(aQ (x24+1)).bind fun v51=>mF K a0 a1 a3 v9 k (x20.set a0 x48) v51) else((aQ (x24+1)).bind fun v53=>mF K a0 a1 a3 v9 k x20 v53)) else(some x20)
def vZ (K:Nat) (a0:Nat) (a1:Nat) (a2:Int) (a3:List (List Rat)):Option (List (List Rat)):=
 (bK (a3.getD a0 []) a2).bind fun v9=>(xP v9).bind fun v12=>bif(v12==0) then(some a3) else((mF K a0 a1 a3 v9 K a3 0).bind fun x25=>tF K x25)
theorem aB4 {K:Nat} {a0:Nat} {a1:Nat} {a2:Int} {a3:List (List Rat)} {r:List (List Rat)} (hF:vZ K a0 a1 a2 a3=some r) {g4:List p7} {N5:Nat} (q6:a3.length=N5) (q7:cL g4 a3) (q2:a0<N5) (q3:a1<N5):CtO Tryz.prog 148 ([]++eA cQ 42 g4 a3) [.vc (pO (fL g4 a0).1 (fL g4 a0).2.1 (fL g4 a0).2.2),.vc (pO (fL g4 a1).1 (fL g4 a1).2.1 (fL g4 a1).2.2),.vc (pI .i64 a2)] (fun Ho q=>r.length=N5∧cL g4 r∧Ho=([]++eA cQ 42 g4 r)∧q=.any):=by
 unfold vZ at hF
 refine aA Tryz.func148 rfl (by kernel_rfl) Tryz.ntmps148 rfl (fun w0 M0=>?_)
 obtain⟨v9,h10,hF⟩:=aP hF
 refine go ?_ ?_
 refine aG (d7 (0+a0) rfl tyS24 (rN 0 rfl q7 q6 q2) (cY q7 q6 q2) (aC h10).1 (aC h10).2.1) zU2 ?_
 refine aG (iC (k:=4) (0+a0) rfl (rN 0 rfl q7 q6 q2) h10 rfl (.agg tyA42) rfl) zU1 ?_
 refine aK rfl tyZ42q (fun b11=>?_)
 obtain⟨v12,h13,hF⟩:=bC hF d8
 refine go ?_ ?_
 refine aE hF rfl (fun h14 hF=>?_) (fun h14 hF=>?_)
 ·refine fY (fZ ?_)
  obtain rfl:=iD hF
  exact iT (.inl rfl) Tryz.results148 .nil rfl 1 [] rfl rfl (by decide) ⟨q6,q7,rfl,rfl⟩
 refine go ?_ ?_
 refine aG (aBx (C:=cQ) (xs:=(a3.getD a1 [])) (T:=42) rfl tyS24 (cY q7 q6 q3)) zU1 ?_
 refine go ?_ ?_
 refine aJ (aX (fun H E=>∃(x25:List (List Rat)),tF K x25=some r∧x25.length=N5∧cL g4 x25∧H=([]++eA cQ 42 g4 x25)∧E=[]) ?_ (fun Jj30=>?_))
 ·rintro _ _ ⟨x25,hF,q26,q27,rfl,rfl⟩
  unfold tF at hF
  obtain rfl:=iD hF
  exact iT (.inr rfl) Tryz.results148 .nil rfl 0 [] rfl rfl (by decide) ⟨q26,q27,rfl,rfl⟩
 obtain⟨x25',hL,hRl29⟩:=aP hF
 refine dQ (fun k a w=>∃(x20:List (List Rat)),∃(x24:Int),mF K a0 a1 a3 v9 k x20 x24=some x25'∧x20.length=N5∧cL g4 x20∧hs _ ([⟨some b11,1,42,4,1,(eQ v9)⟩]++eA cQ 42 g4 x20) [(0,.vc (pO (fL g4 a0).1 (fL g4 a0).2.1 (fL g4 a0).2.2)),(6,.vc (pP (some b11) 0)),(16,.vc (pO (fL g4 a1).1 (fL g4 a1).2.1 (fL g4 a1).2.2)),(17,.vc (pI .i64 ((a3.getD a1 []).length:Int))),(18,.vc (pI .i64 x24))] a w) K (fun a w ⟨_,_,hF,_,_,_⟩=>by cases hF) (fun k a w ⟨x20,x24,hF,q21,q22,hh⟩=>dP ?_ hh) (fun a w hh=>⟨a3,0,hL,q6,q7,aR 1 [0] rfl rfl (by decide) (by exact⟨rfl,rfl,rfl,rfl,rfl,trivial⟩) hh⟩)
 rw [mF.eq_2] at hF
 refine go ?_ ?_
 refine aE hF rfl (fun h31 hF=>?_) (fun h31 hF=>?_)
 ·refine go ?_ ?_
  refine aJ ?_
  obtain⟨v32,h33,hF⟩:=aP hF
  refine go ?_ ?_
  refine aG (d7 (1+a1) rfl tyS24 (rN 1 rfl q22 q21 q3) (cY q22 q21 q3) (aC h33).1 (aC h33).2.1) zU2 ?_
  refine aG (iC (k:=4) (1+a1) rfl (rN 1 rfl q22 q21 q3) h33 rfl (.agg tyA42) rfl) zU1 ?_
  refine aK rfl tyZ42q (fun b34=>?_)
  obtain⟨v35,h36,hF⟩:=bC hF d8
  refine go ?_ ?_
  refine aE hF rfl (fun h37 hF=>?_) (fun h37 hF=>?_)
  ·obtain⟨v40,h41,hF⟩:=aP hF
   obtain⟨v42,h43,hF⟩:=bC hF vG
   obtain⟨v44,h45,hF⟩:=bC hF xA
   have hF:=tX h41 hF
   refine iV [0,0,0,0,12,28,0,0,192,508,1023,2047] 11 1 [.v (.vc (pO (fL g4 a0).1 (fL g4 a0).2.1 (fL g4 a0).2.2)),.v (.vc (pI .i64 x24)),.v (.vc (pO (fL g4 a0).1 (fL g4 a0).2.1 (fL g4 a0).2.2)),.v (.vc (pI .i64 x24)),.v (.vc (pE (fL g4 a0).1 x24 cQ.n 0)),.v (.va (eQ v40)),.v (.va (eQ v9)),.v (.va (eQ v32)),.v (.va (eQ v42)),.v (.va (eQ v44)),.v (.vc (pE (fL g4 a0).1 x24 cQ.n 0))] aY ⟨d0 (aM (.inl rfl)) zU1,d0 (aM (.inl rfl)) zU1,d0 (aM (.inl rfl)) zU1,d0 (aM (.inl rfl)) zU1,d0 (d7 (2+a0) rfl tyS24 (gL 2 rfl q22 q21 q2) (cY q22 q21 q2) (aC h41).1 (aC h41).2.1) zU2,d0 (iC (k:=4) (2+a0) rfl (gL 2 rfl q22 q21 q2) h41 rfl (.agg tyA42) rfl) zU1,d0 (fF 1 4 rfl rfl rfl rfl (.agg tyA42)) zU1,d0 (fF 0 4 rfl rfl rfl rfl (.agg tyA42)) zU1,d0 (bJ rfl h43 rfl) zU2,d0 (bJ rfl h45 rfl) zU2,d0 (d7 (2+a0) rfl tyS24 (gL 2 rfl q22 q21 q2) (cY q22 q21 q2) (aC h41).1 (aC h41).2.1) zU2,trivial⟩ (fun bs39 G38=>?_)
   obtain⟨x48,h49,hF⟩:=aP hF
   refine kY (xM (H':=([⟨some b34,1,42,4,1,(eQ v32)⟩,⟨some b11,1,42,4,1,(eQ v9)⟩]++eA cQ 42 g4 (x20.set a0 x48))) (2+a0) rfl (rN 2 rfl q22 q21 q2) h41 h49 tyA42.s (hH:=stN 2 rfl q22 q21 q2)) zU2 ?_
   obtain⟨v51,h52,hF⟩:=aP hF
   refine go ?_ ?_
   exact aF (fun a w hh=>⟨(x20.set a0 x48),v51,hF,(aDf q21),(aEu q22 q21 q2 (bG h49 rfl)),aR 2 [1] rfl rfl (by decide) (by exact⟨rfl,rfl,rfl,rfl,rfl,trivial⟩) hh⟩)
  obtain⟨v53,h54,hF⟩:=aP hF
  refine go ?_ ?_
  exact aF (fun a w hh=>⟨x20,v53,hF,q21,q22,aR 2 [1] rfl rfl (by decide) (by exact⟨rfl,rfl,rfl,rfl,rfl,trivial⟩) hh⟩)
 refine bH ?_
 obtain rfl:=iD hF
 exact eG Jj30 ⟨x20,hRl29,q21,q22,rfl,rfl⟩ 1 [] rfl rfl trivial
end Go.Proofs.YtolfcbpgmfbgmaaGreat
