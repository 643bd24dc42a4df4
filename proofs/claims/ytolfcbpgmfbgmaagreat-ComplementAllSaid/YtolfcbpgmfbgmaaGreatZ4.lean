/- Texts of the proof, part 4: Q1. -/
import Derived.Test.YtolfcbpgmfbgmaaGreatZ3
set_option linter.unusedSimpArgs false
set_option linter.unusedVariables false
set_option maxRecDepth 100000
namespace Go.Proofs.YtolfcbpgmfbgmaaGreat
structure aQ where
 a:List Rat
 b:Rat
noncomputable def aQ.enc (x:aQ):List CP:=[pS cQ x.a]++(eQ x.b)
noncomputable def aQ.cod:Cd aQ:=⟨5,aQ.enc,fun _=>rfl⟩
structure uX where
 kind:Int
 x:List Rat
 y:List Rat
 value:Rat
noncomputable def uX.enc (x:uX):List CP:=[pI .i64 x.kind]++[pS cQ x.x]++[pS cQ x.y]++(eQ x.value)
structure bQ where
 z:List Rat
 w:List Rat
 pivots:Int
noncomputable def bQ.enc (x:bQ):List CP:=[pS cQ x.z]++[pS cQ x.w]++[pI .i64 x.pivots]
structure aX where
 vars:Int
 lines:List aQ
 goal:List Rat
noncomputable def aX.enc (x:aX):List CP:=[pI .i64 x.vars]++[pS aQ.cod x.lines]++[pS cQ x.goal]
noncomputable def aX.cod:Cd aX:=⟨3,aX.enc,fun _=>rfl⟩
structure mF where
 rows:List (List Rat)
 pivots:List Int
 det:Rat
noncomputable def mF.enc (x:mF):List CP:=[pS (bJ cQ) x.rows]++[pS cI x.pivots]++(eQ x.det)
instance tyA139:TyA Tryz.prog 139 6:=mkA Tryz.underlying139 rfl (by kernel_rfl)
instance tyA90:TyA Tryz.prog 90 3:=mkA Tryz.underlying90 rfl (by kernel_rfl)
instance tyA92:TyA Tryz.prog 92 5:=mkA Tryz.underlying92 rfl (by kernel_rfl)
instance tyA94:TyA Tryz.prog 94 7:=mkA Tryz.underlying94 rfl (by kernel_rfl)
theorem tyB123_o3_o4_o5q:TyB Tryz.prog 123 [(0,1),(1,1),(2,1),(3,1),(4,1),(5,1)] ([pI .i64 0]++[pI .i64 0]++[pI .i64 0]++[pO none 0 0]++[pO none 0 0]++[pO none 0 0]):=mkB (z:=.agg #[.int .i64 0,.int .i64 0,.int .i64 0,.slice none 0 0,.slice none 0 0,.slice none 0 0]) (by kernel_rfl) Tryz.underlying123 (by kernel_rfl) (fun M=>bB.app (bB.app (bB.app (bB.app (bB.app (show bB M [pI .i64 0] [.int .i64 0] from zU1) (show bB M [pI .i64 0] [.int .i64 0] from zU1)) (show bB M [pI .i64 0] [.int .i64 0] from zU1)) (show bB M [pO none 0 0] [.slice none 0 0] from⟨.inl rfl,trivial⟩)) (show bB M [pO none 0 0] [.slice none 0 0] from⟨.inl rfl,trivial⟩)) (show bB M [pO none 0 0] [.slice none 0 0] from⟨.inl rfl,trivial⟩))
theorem tyB139_o0_o1q:TyB Tryz.prog 139 [(0,1),(1,1),(2,4)] ([pO none 0 0]++[pO none 0 0]++(eQ 0)):=mkB (z:=.agg #[.slice none 0 0,.slice none 0 0,.bool false,.slice none 0 0,.bool false,.slice none 0 0]) (by kernel_rfl) Tryz.underlying139 (by kernel_rfl) (fun M=>bB.app (bB.app (show bB M [pO none 0 0] [.slice none 0 0] from⟨.inl rfl,trivial⟩) (show bB M [pO none 0 0] [.slice none 0 0] from⟨.inl rfl,trivial⟩)) (eQ0 M))
theorem tyB30q:TyB Tryz.prog 30 [(0,1),(1,1),(2,1)] ([pS cQ ([]:List Rat)]++[pS cQ ([]:List Rat)]++[pI .i64 0]):=mkB (z:=.agg #[.slice none 0 0,.slice none 0 0,.int .i64 0]) (by kernel_rfl) Tryz.underlying30 (by kernel_rfl) (fun M=>bB.app (bB.app (show bB M [pS cQ ([]:List Rat)] [.slice none 0 0] from⟨cD cQ M,trivial⟩) (show bB M [pS cQ ([]:List Rat)] [.slice none 0 0] from⟨cD cQ M,trivial⟩)) (show bB M [pI .i64 0] [.int .i64 0] from zU1))
theorem tyB42q:TyB Tryz.prog 42 [(0,2),(2,2)] (eQ 0):=mkB (z:=.agg #[.bool false,.slice none 0 0,.bool false,.slice none 0 0]) (by kernel_rfl) Tryz.underlying42 (by kernel_rfl) (fun M=>eQ0 M)
theorem tyB72_o1_o2q:TyB Tryz.prog 72 [(0,1),(1,1),(2,1)] ([pI .i64 0]++[pO none 0 0]++[pO none 0 0]):=mkB (z:=.agg #[.int .i64 0,.slice none 0 0,.slice none 0 0]) (by kernel_rfl) Tryz.underlying72 (by kernel_rfl) (fun M=>bB.app (bB.app (show bB M [pI .i64 0] [.int .i64 0] from zU1) (show bB M [pO none 0 0] [.slice none 0 0] from⟨.inl rfl,trivial⟩)) (show bB M [pO none 0 0] [.slice none 0 0] from⟨.inl rfl,trivial⟩))
theorem tyB90_o1q:TyB Tryz.prog 90 [(0,1),(1,1),(2,1)] ([pI .i64 0]++[pO none 0 0]++[pS cQ ([]:List Rat)]):=mkB (z:=.agg #[.int .i64 0,.slice none 0 0,.slice none 0 0]) (by kernel_rfl) Tryz.underlying90 (by kernel_rfl) (fun M=>bB.app (bB.app (show bB M [pI .i64 0] [.int .i64 0] from zU1) (show bB M [pO none 0 0] [.slice none 0 0] from⟨.inl rfl,trivial⟩)) (show bB M [pS cQ ([]:List Rat)] [.slice none 0 0] from⟨cD cQ M,trivial⟩))
theorem tyB92q:TyB Tryz.prog 92 [(0,1),(1,4)] ([pS cQ ([]:List Rat)]++(eQ 0)):=mkB (z:=.agg #[.slice none 0 0,.bool false,.slice none 0 0,.bool false,.slice none 0 0]) (by kernel_rfl) Tryz.underlying92 (by kernel_rfl) (fun M=>bB.app (show bB M [pS cQ ([]:List Rat)] [.slice none 0 0] from⟨cD cQ M,trivial⟩) (eQ0 M))
theorem tyB92_o0q:TyB Tryz.prog 92 [(0,1),(1,4)] ([pO none 0 0]++(eQ 0)):=mkB (z:=.agg #[.slice none 0 0,.bool false,.slice none 0 0,.bool false,.slice none 0 0]) (by kernel_rfl) Tryz.underlying92 (by kernel_rfl) (fun M=>bB.app (show bB M [pO none 0 0] [.slice none 0 0] from⟨.inl rfl,trivial⟩) (eQ0 M))
theorem tyB94q:TyB Tryz.prog 94 [(0,1),(1,1),(2,1),(3,4)] ([pI .i64 0]++[pS cQ ([]:List Rat)]++[pS cQ ([]:List Rat)]++(eQ 0)):=mkB (z:=.agg #[.int .i64 0,.slice none 0 0,.slice none 0 0,.bool false,.slice none 0 0,.bool false,.slice none 0 0]) (by kernel_rfl) Tryz.underlying94 (by kernel_rfl) (fun M=>bB.app (bB.app (bB.app (show bB M [pI .i64 0] [.int .i64 0] from zU1) (show bB M [pS cQ ([]:List Rat)] [.slice none 0 0] from⟨cD cQ M,trivial⟩)) (show bB M [pS cQ ([]:List Rat)] [.slice none 0 0] from⟨cD cQ M,trivial⟩)) (eQ0 M))
instance tyF123_0:TyF Tryz.prog 123 0 0:=mkF (ft:=3) (k:=0) Tryz.underlying123 rfl rfl rfl (by kernel_rfl)
instance tyF123_1:TyF Tryz.prog 123 1 1:=mkF (ft:=3) (k:=0) Tryz.underlying123 rfl rfl rfl (by kernel_rfl)
instance tyF123_2:TyF Tryz.prog 123 2 2:=mkF (ft:=3) (k:=0) Tryz.underlying123 rfl rfl rfl (by kernel_rfl)
instance tyF123_3:TyF Tryz.prog 123 3 3:=mkF (ft:=23) (k:=0) Tryz.underlying123 rfl rfl rfl (by kernel_rfl)
instance tyF123_4:TyF Tryz.prog 123 4 4:=mkF (ft:=24) (k:=0) Tryz.underlying123 rfl rfl rfl (by kernel_rfl)
instance tyF123_5:TyF Tryz.prog 123 5 5:=mkF (ft:=22) (k:=0) Tryz.underlying123 rfl rfl rfl (by kernel_rfl)
instance tyF139_0:TyF Tryz.prog 139 0 0:=mkF (ft:=23) (k:=0) Tryz.underlying139 rfl rfl rfl (by kernel_rfl)
instance tyF139_1:TyF Tryz.prog 139 1 1:=mkF (ft:=22) (k:=0) Tryz.underlying139 rfl rfl rfl (by kernel_rfl)
instance tyF139_2:TyF Tryz.prog 139 2 2:=mkF (ft:=42) (k:=3) Tryz.underlying139 rfl rfl rfl (by kernel_rfl)
instance tyF30_0:TyF Tryz.prog 30 0 0:=mkF (ft:=24) (k:=0) Tryz.underlying30 rfl rfl rfl (by kernel_rfl)
instance tyF30_1:TyF Tryz.prog 30 1 1:=mkF (ft:=24) (k:=0) Tryz.underlying30 rfl rfl rfl (by kernel_rfl)
instance tyF30_2:TyF Tryz.prog 30 2 2:=mkF (ft:=3) (k:=0) Tryz.underlying30 rfl rfl rfl (by kernel_rfl)
instance tyF72_0:TyF Tryz.prog 72 0 0:=mkF (ft:=3) (k:=0) Tryz.underlying72 rfl rfl rfl (by kernel_rfl)
instance tyF72_1:TyF Tryz.prog 72 1 1:=mkF (ft:=23) (k:=0) Tryz.underlying72 rfl rfl rfl (by kernel_rfl)
instance tyF72_2:TyF Tryz.prog 72 2 2:=mkF (ft:=22) (k:=0) Tryz.underlying72 rfl rfl rfl (by kernel_rfl)
instance tyF90_0:TyF Tryz.prog 90 0 0:=mkF (ft:=3) (k:=0) Tryz.underlying90 rfl rfl rfl (by kernel_rfl)
instance tyF90_1:TyF Tryz.prog 90 1 1:=mkF (ft:=88) (k:=0) Tryz.underlying90 rfl rfl rfl (by kernel_rfl)
instance tyF90_2:TyF Tryz.prog 90 2 2:=mkF (ft:=24) (k:=0) Tryz.underlying90 rfl rfl rfl (by kernel_rfl)
instance tyF92_0:TyF Tryz.prog 92 0 0:=mkF (ft:=24) (k:=0) Tryz.underlying92 rfl rfl rfl (by kernel_rfl)
instance tyF92_1:TyF Tryz.prog 92 1 1:=mkF (ft:=42) (k:=3) Tryz.underlying92 rfl rfl rfl (by kernel_rfl)
instance tyF94_0:TyF Tryz.prog 94 0 0:=mkF (ft:=3) (k:=0) Tryz.underlying94 rfl rfl rfl (by kernel_rfl)
instance tyF94_1:TyF Tryz.prog 94 1 1:=mkF (ft:=24) (k:=0) Tryz.underlying94 rfl rfl rfl (by kernel_rfl)
instance tyF94_3:TyF Tryz.prog 94 3 3:=mkF (ft:=42) (k:=3) Tryz.underlying94 rfl rfl rfl (by kernel_rfl)
theorem tyG139_1:TyG Tryz.prog 139 1 1 22:=⟨⟨_,_,Tryz.underlying139,rfl,rfl,rfl⟩,mk1 Tryz.underlying22 rfl (by kernel_rfl)⟩
instance tyO120:Ty1 Tryz.prog 120:=mk1 Tryz.underlying120 rfl (by kernel_rfl)
instance tyO88:Ty1 Tryz.prog 88:=mk1 Tryz.underlying88 rfl (by kernel_rfl)
instance tyS85:TyS Tryz.prog 85 4 1 1:=mkS (z:=.bool false) (k:=0) Tryz.underlying85 (by kernel_rfl) rfl
instance tyS88:TyS Tryz.prog 88 92 5 88:=mkS (z:=.agg #[.slice none 0 0,.bool false,.slice none 0 0,.bool false,.slice none 0 0]) (k:=4) Tryz.underlying88 (by kernel_rfl) rfl
instance tyZ120q:TyZ Tryz.prog 120 [aSb]:=mkZ (z:=.pointer none) (k:=1) (by kernel_rfl) rfl (fun M=>show bB M [aSb] [.pointer none] from zU1)
instance tyZ139q:TyZ Tryz.prog 139 ([pS (bJ cQ) ([]:List (List Rat))]++[pS cI ([]:List Int)]++(eQ 0)):=mkZ (z:=.agg #[.slice none 0 0,.slice none 0 0,.bool false,.slice none 0 0,.bool false,.slice none 0 0]) (k:=6) (by kernel_rfl) rfl (fun M=>bB.app (bB.app (show bB M [pS (bJ cQ) ([]:List (List Rat))] [.slice none 0 0] from⟨cD (bJ cQ) M,trivial⟩) (show bB M [pS cI ([]:List Int)] [.slice none 0 0] from⟨cD cI M,trivial⟩)) (eQ0 M))
theorem tyZ23_oq:TyZ Tryz.prog 23 [pO none 0 0]:=mkZ (z:=.slice none 0 0) (k:=1) (by kernel_rfl) rfl (fun M=>show bB M [pO none 0 0] [.slice none 0 0] from⟨.inl rfl,trivial⟩)
instance tyZ24q:TyZ Tryz.prog 24 [pS cQ ([]:List Rat)]:=mkZ (z:=.slice none 0 0) (k:=1) (by kernel_rfl) rfl (fun M=>show bB M [pS cQ ([]:List Rat)] [.slice none 0 0] from⟨cD cQ M,trivial⟩)
instance tyZ3q:TyZ Tryz.prog 3 [pI .i64 0]:=mkZ (z:=.int .i64 0) (k:=1) (by kernel_rfl) rfl (fun M=>show bB M [pI .i64 0] [.int .i64 0] from zU1)
instance tyZ30q:TyZ Tryz.prog 30 ([pS cQ ([]:List Rat)]++[pS cQ ([]:List Rat)]++[pI .i64 0]):=mkZ (z:=.agg #[.slice none 0 0,.slice none 0 0,.int .i64 0]) (k:=3) (by kernel_rfl) rfl (fun M=>bB.app (bB.app (show bB M [pS cQ ([]:List Rat)] [.slice none 0 0] from⟨cD cQ M,trivial⟩) (show bB M [pS cQ ([]:List Rat)] [.slice none 0 0] from⟨cD cQ M,trivial⟩)) (show bB M [pI .i64 0] [.int .i64 0] from zU1))
instance tyZ4q:TyZ Tryz.prog 4 [pB false]:=mkZ (z:=.bool false) (k:=1) (by kernel_rfl) rfl (fun M=>show bB M [pB false] [.bool false] from zU1)
instance tyZ42q:TyZ Tryz.prog 42 (eQ 0):=mkZ (z:=.agg #[.bool false,.slice none 0 0,.bool false,.slice none 0 0]) (k:=4) (by kernel_rfl) rfl (fun M=>eQ0 M)
instance tyZ90q:TyZ Tryz.prog 90 ([pI .i64 0]++[pS aQ.cod ([]:List aQ)]++[pS cQ ([]:List Rat)]):=mkZ (z:=.agg #[.int .i64 0,.slice none 0 0,.slice none 0 0]) (k:=3) (by kernel_rfl) rfl (fun M=>bB.app (bB.app (show bB M [pI .i64 0] [.int .i64 0] from zU1) (show bB M [pS aQ.cod ([]:List aQ)] [.slice none 0 0] from⟨cD aQ.cod M,trivial⟩)) (show bB M [pS cQ ([]:List Rat)] [.slice none 0 0] from⟨cD cQ M,trivial⟩))
instance tyZ92q:TyZ Tryz.prog 92 ([pS cQ ([]:List Rat)]++(eQ 0)):=mkZ (z:=.agg #[.slice none 0 0,.bool false,.slice none 0 0,.bool false,.slice none 0 0]) (k:=5) (by kernel_rfl) rfl (fun M=>bB.app (show bB M [pS cQ ([]:List Rat)] [.slice none 0 0] from⟨cD cQ M,trivial⟩) (eQ0 M))
instance tyZ94q:TyZ Tryz.prog 94 ([pI .i64 0]++[pS cQ ([]:List Rat)]++[pS cQ ([]:List Rat)]++(eQ 0)):=mkZ (z:=.agg #[.int .i64 0,.slice none 0 0,.slice none 0 0,.bool false,.slice none 0 0,.bool false,.slice none 0 0]) (k:=7) (by kernel_rfl) rfl (fun M=>bB.app (bB.app (bB.app (show bB M [pI .i64 0] [.int .i64 0] from zU1) (show bB M [pS cQ ([]:List Rat)] [.slice none 0 0] from⟨cD cQ M,trivial⟩)) (show bB M [pS cQ ([]:List Rat)] [.slice none 0 0] from⟨cD cQ M,trivial⟩)) (eQ0 M))
def dO (a0:Int) (a1:Int):Option Int:=
 bif(decide (a0<0)) then((aS (a0+1)).bind fun v2=>(aS (-v2)).bind fun v4=>(chr v4 a1).bind fun v6=>some v6) else((chr a0 a1).bind fun v8=>some v8)
theorem lK {a0:Int} {a1:Int} {r:Int} (hF:dO a0 a1=some r):Ct Tryz.prog 12 [.vc (pI .i64 a0),.vc (pI .i64 a1)] (.vc (pI .i64 r)):=by
 unfold dO at hF
 refine aA Tryz.func12 rfl (by kernel_rfl) Tryz.ntmps12 rfl (fun w0 M0=>?_)
 refine go ?_ ?_
 refine aB hF rfl (fun h1 hF=>?_) (fun h1 hF=>?_)
 ·obtain⟨v2,h3,v4,h5,v6,h7,hF⟩:=bn3 hF
  exact bI
 obtain⟨v8,h9,hF⟩:=aM hF
 exact bI
structure aFh where
 z:List aK
 w:List aK
 pivots:Int
instance tyA30:TyA Tryz.prog 30 3:=mkA Tryz.underlying30 rfl (by kernel_rfl)
theorem tyB42r:TyB Tryz.prog 42 [(0,2),(2,2)] (([pB false]++[pS cI ([]:List Int)])++([pB false]++[pS cI ([]:List Int)])):=mkB (z:=.agg #[.bool false,.slice none 0 0,.bool false,.slice none 0 0]) (by kernel_rfl) Tryz.underlying42 (by kernel_rfl) (fun M=>bB.app (bB.app (show bB M [pB false] [.bool false] from zU1) (show bB M [pS cI ([]:List Int)] [.slice none 0 0] from⟨cD cI M,trivial⟩)) (bB.app (show bB M [pB false] [.bool false] from zU1) (show bB M [pS cI ([]:List Int)] [.slice none 0 0] from⟨cD cI M,trivial⟩)))
instance tyO23:Ty1 Tryz.prog 23:=mk1 Tryz.underlying23 rfl (by kernel_rfl)
instance tyO24:Ty1 Tryz.prog 24:=mk1 Tryz.underlying24 rfl (by kernel_rfl)
instance tyS23:TyS Tryz.prog 23 24 1 24:=mkS (z:=.slice none 0 0) (k:=0) Tryz.underlying23 (by kernel_rfl) rfl
instance tyS24:TyS Tryz.prog 24 42 4 64:=mkS (z:=.agg #[.bool false,.slice none 0 0,.bool false,.slice none 0 0]) (k:=3) Tryz.underlying24 (by kernel_rfl) rfl
instance tyZ30r:TyZ Tryz.prog 30 ([pS aK.c ([]:List aK)]++[pS aK.c ([]:List aK)]++[pI .i64 0]):=mkZ (z:=.agg #[.slice none 0 0,.slice none 0 0,.int .i64 0]) (k:=3) (by kernel_rfl) rfl (fun M=>bB.app (bB.app (show bB M [pS aK.c ([]:List aK)] [.slice none 0 0] from⟨cD aK.c M,trivial⟩) (show bB M [pS aK.c ([]:List aK)] [.slice none 0 0] from⟨cD aK.c M,trivial⟩)) (show bB M [pI .i64 0] [.int .i64 0] from zU1))
instance tyZ42r:TyZ Tryz.prog 42 (([pB false]++[pS cI ([]:List Int)])++([pB false]++[pS cI ([]:List Int)])):=mkZ (z:=.agg #[.bool false,.slice none 0 0,.bool false,.slice none 0 0]) (k:=4) (by kernel_rfl) rfl (fun M=>bB.app (bB.app (show bB M [pB false] [.bool false] from zU1) (show bB M [pS cI ([]:List Int)] [.slice none 0 0] from⟨cD cI M,trivial⟩)) (bB.app (show bB M [pB false] [.bool false] from zU1) (show bB M [pS cI ([]:List Int)] [.slice none 0 0] from⟨cD cI M,trivial⟩)))
abbrev aBd:Nat:=11
def jD (K:Nat) (a1:List aK) (a2:Int) (a3:Int) (x31:List Nat) (x37:List (List aK)):Option ((List (List aK))×(List aK)):=
 (oG ([]:List aK) a1).bind fun x48=>bif((x31.length:Int)==0) then((oG (w7 x37 x31) [x48]).bind fun x57=>some (x57,x48)) else((dO a3 (x31.length:Int)).bind fun v64=>(chq a3 7).bind fun v66=>(bF x31 v64).bind fun v68=>(dO v66 ((x37.getD v68 []).length:Int)).bind fun v70=>(dO a2 6).bind fun v72=>bif(v72==0) then((slL (w7 x37 x31) 0 v64).bind fun x76=>some (x76,x48)) else(bif(v72==1) then((bF (w7 x37 x31) v64).bind fun v80=>(slL v80 0 v70).bind fun x82=>(bF (w7 x37 x31) v64).bind fun v84=>(qL (w7 x37 x31) v64 x82).bind fun x86=>some (x86,x48)) else(bif(v72==2) then((oG x48 [(⟨(⟨false,([]:List Int)⟩:aE),(⟨false,([]:List Int)⟩:aE)⟩:aK)]).bind fun x90=>some ((w7 x37 x31),x90)) else(bif(v72==3) then((bF x31 v64).bind fun v99=>(bF (x37.getD v99 []) v70).bind fun v101=>(qL (x37.getD v99 []) v70 (⟨v101.p,(⟨true,v101.q.d⟩:aE)⟩:aK)).bind fun x103=>some ((w7 (x37.set v99 x103) x31),x48)) else(bif(v72==4) then((bF x48 v64).bind fun v111=>(oG ([]:List Int) v111.p.d).bind fun x113=>(oG x113 [0]).bind fun x120=>(bF x48 v64).bind fun v127=>(qL x48 v64 (⟨(⟨v127.p.neg,x120⟩:aE),v127.q⟩:aK)).bind fun x129=>some ((w7 x37 x31),x129)) else((bF x31 v64).bind fun v135=>(dO a3 9).bind fun v137=>(aS (v137-4)).bind fun v139=>(oE K v139 1).bind fun v141=>(bF (x37.getD v135 []) v70).bind fun v143=>(qL (x37.getD v135 []) v70 v141).bind fun x145=>some ((w7 (x37.set v135 x145) x31),x48)))))))
def cS (K:Nat) (a0:List (List aK)):Nat→(List Nat)→(List (List aK))→Int→Option ((List Nat)×(List (List aK)))
 |0,_,_,_=>none
 |k+1,x18,x24,x30=>bif(decide (x30<(a0.length:Int))) then((bF a0 x30).bind fun v153=>(oG ([]:List aK) v153).bind fun x155=>(oG x18 [x24.length]).bind fun x163=>(aS (x30+1)).bind fun v170=>cS K a0 k x163 (x24++[x155]) v170) else(some (x18,x24))
def gP (K:Nat) (a0:List (List aK)) (a1:List aK) (a2:Int) (a3:Int):Option ((List (List aK))×(List aK)):=
 (cS K a0 K ([]:List Nat) ([]:List (List aK)) 0).bind fun(x31,x37)=>jD K a1 a2 a3 x31 x37
theorem aAT {K:Nat} {a0:List (List aK)} {a1:List aK} {a2:Int} {a3:Int} {r:(List (List aK))×(List aK)} (hF:gP K a0 a1 a2 a3=some r):Ct Tryz.prog 11 [.vc (pS (bJ aK.c) a0),.vc (pS aK.c a1),.vc (pI .i64 a2),.vc (pI .i64 a3)] (.t2 (.vc (pS (bJ aK.c) r.1)) (.vc (pS aK.c r.2))):=by
 unfold gP at hF
 refine aA Tryz.func11 rfl (by kernel_rfl) Tryz.ntmps11 rfl (fun w0 M0=>?_)
 refine aC (aH (aI (aL (.inr rfl)) ⟨cD (bJ aK.c),trivial⟩ ?_))
 refine aI (aL (.inr rfl)) ⟨cD aK.c,trivial⟩ ?_
 refine aT (aJ (aC (aH (aFF aK.c 42 ?_))))
 refine jP (cH ([]:List rK)) 24 rfl ?_
 refine go ?_ ?_
 refine aG (aP (fun H E=>∃(x31:List Nat),∃(x37:List (List aK)),∃(b32:Option Nat),∃(c33:Nat),∃(n34:Nat),∃(g38:List rK),∃(N39:Nat),jD K a1 a2 a3 x31 x37=some r∧x31.length=n34∧x37.length=N39∧cJ g38 x37∧(∀k∈x31,k<N39)∧H=([hO (cH g38) b32 c33 24 n34 x31]++eD aK.c 42 g38 x37)∧E=[(1,.vc (pS aK.c a1)),(2,.vc (pI .i64 a2)),(3,.vc (pI .i64 a3)),(10,.vc (pO b32 n34 c33))]) ?_ (fun Jj44=>?_))
 ·rintro _ _ ⟨x31,x37,b32,c33,n34,g38,N39,hF,q35,q40,q41,q42,rfl,rfl⟩
  unfold jD at hF
  refine go ?_ ?_
  refine aIQ (aF4 (C:=aK.c) (xs:=[]) (ps:=[]) (zs:=([]:List aK)) rfl tyS24 rfl trivial rfl) trivial (fun b45 _=>?_)
  refine dS ?_
  obtain⟨x48,h49,hF⟩:=aM hF
  refine iK 0 rfl tyS24 rfl rfl rfl rfl rfl h49 (fun b50 c51 H52 e53=>?_)
  cases e53
  refine go ?_ ?_
  refine aB hF rfl (fun h55 hF=>?_) (fun h55 hF=>?_)
  ·refine aC (aNx 1 2 rfl rfl q41 (yI q40 q42) ?_)
   refine aQA 0 [12,32] rfl (bD h49 rfl) zU2 rfl ?_
   refine go ?_ ?_
   refine aI (eR (C:=(bJ aK.c)) (xs:=[.tmp 37]) (ps:=[.vc (pS aK.c x48)]) (zs:=[x48]) rfl tyS23 rfl ⟨⟨trivial,rfl⟩,trivial⟩ rfl) zU1 ?_
   obtain⟨x57,h58,hF⟩:=aM hF
   refine iK 0 rfl tyS23 rfl rfl ((sP _ _).trans q35) rfl rfl h58 (fun b59 c60 H61 e62=>?_)
   cases e62
   refine go ?_ ?_
   refine dQ (dL (lF 0 [8,39] rfl (bD h58 ((sP _ _).trans q35)) zU2 rfl ?_))
   obtain rfl:=eP hF
   exact eE (.inl rfl) Tryz.results11 (.tmp rfl (.tmp rfl .nil)) rfl rfl
  obtain⟨v64,h65,hF⟩:=aW hF lK
  obtain⟨v66,h67,v68,h69,hF⟩:=tW hF
  refine go ?_ ?_
  refine aI (aB3 (C:=aK.c) (xs:=(x37.getD v68 [])) (T:=42) rfl tyS24 (cR q41 q40 (q42 _ (aO h69)))) zU1 ?_
  obtain⟨v70,h71,hF⟩:=aW hF lK
  obtain⟨v72,h73,hF⟩:=aW hF lK
  refine go ?_ ?_
  refine aG (go ?_ ?_)
  refine aB hF rfl (fun h74 hF=>?_) (fun h74 hF=>?_)
  ·refine aNx 1 2 rfl rfl q41 (yI q40 q42) ?_
   refine aH (dS ?_)
   refine dS ?_
   refine tV 1 [10,33,42,47,67] rfl ((sP _ _).trans q35) ⟨rfl,rfl,rfl,rfl,rfl,trivial⟩ rfl ?_
   obtain⟨x76,h77,hF⟩:=aM hF
   refine go ?_ ?_
   refine dQ (dL (lF 0 [9,12,32,115] rfl (bD h49 rfl) ⟨rfl,rfl,rfl,rfl,trivial⟩ rfl ?_))
   obtain rfl:=eP hF
   exact eE (.inl rfl) Tryz.results11 (.tmp rfl (.tmp rfl .nil)) rfl rfl
  refine go ?_ ?_
  refine aB hF rfl (fun h78 hF=>?_) (fun h78 hF=>?_)
  ·refine aNx 1 2 rfl rfl q41 (yI q40 q42) ?_
   obtain⟨v80,h81,hF⟩:=aM hF
   refine go ?_ ?_
   refine aI (cY (C:=(bJ aK.c)) 1 rfl tyS23 rfl ((sP _ _).trans q35) (aD h81).1 (aD h81).2.1) zU2 ?_
   obtain⟨x82,h83,hF⟩:=aM hF
   have hF:=tJ h81 hF
   refine go ?_ ?_
   refine aI (cY (C:=(bJ aK.c)) 1 rfl tyS23 rfl ((sP _ _).trans q35) (aD h81).1 (aD h81).2.1) zU2 ?_
   obtain⟨x86,h87,hF⟩:=aM hF
   refine go ?_ ?_
   refine dQ (dL (lF 1 [8,10,33,42,47,72,74,114] rfl (bC h87 ((sP _ _).trans q35)) ⟨rfl,rfl,rfl,rfl,rfl,rfl,rfl,rfl,trivial⟩ rfl ?_))
   refine lF 0 [9,12,32,115] rfl (bD h49 rfl) ⟨rfl,rfl,rfl,rfl,trivial⟩ rfl ?_
   obtain rfl:=eP hF
   exact eE (.inl rfl) Tryz.results11 (.tmp rfl (.tmp rfl .nil)) rfl rfl
  refine go ?_ ?_
  refine aB hF rfl (fun h89 hF=>?_) (fun h89 hF=>?_)
  ·refine aH (dS ?_)
   refine aI (gU (is:=[]) (xs:=[]) (ps:=[]) rfl tyB42r rfl rfl trivial rfl) trivial ?_
   refine aI (eR (C:=aK.c) (xs:=[.tmp 84]) (ps:=[.va (([pB false]++[pS cI ([]:List Int)])++([pB false]++[pS cI ([]:List Int)]))]) (zs:=[(⟨(⟨false,([]:List Int)⟩:aE),(⟨false,([]:List Int)⟩:aE)⟩:aK)]) rfl tyS24 rfl ⟨⟨trivial,rfl⟩,trivial⟩ rfl) zU1 ?_
   obtain⟨x90,h91,hF⟩:=aM hF
   refine iK 0 rfl tyS24 rfl rfl (bD h49 rfl) rfl rfl h91 (fun b92 c93 H94 e95=>?_)
   cases e95
   refine go ?_ ?_
   refine dQ (dL (aLw 1 2 rfl rfl q41 (yI q40 q42) ?_))
   refine lF 1 [8,10,33,42,47,114] rfl ((sP _ _).trans q35) ⟨rfl,rfl,rfl,rfl,rfl,rfl,trivial⟩ rfl ?_
   refine lF 0 [9,12,86,115] rfl (bD h91 (bD h49 rfl)) ⟨rfl,rfl,rfl,rfl,trivial⟩ rfl ?_
   obtain rfl:=eP hF
   exact eE (.inl rfl) Tryz.results11 (.tmp rfl (.tmp rfl .nil)) rfl rfl
  refine go ?_ ?_
  refine aB hF rfl (fun h98 hF=>?_) (fun h98 hF=>?_)
  ·have hF:=tJ h69 hF
   obtain⟨v101,h102,hF⟩:=aM hF
   refine go ?_ ?_
   refine aI (cY (2+v68) rfl tyS24 (rV 2 rfl q41 q40 (q42 _ (aO h69))) (cR q41 q40 (q42 _ (aO h69))) (aD h102).1 (aD h102).2.1) zU2 ?_
   refine aI (aHK (off:=0) (k:=2) rfl tyF42_1) zU1 ?_
   refine aI (aHK (off:=2) (k:=0) rfl tyF40_0) zU1 ?_
   obtain⟨x103,h104,hF⟩:=aM hF
   refine mD (yM (H':=([hO aK.c b50 c51 42 (0+a1.length) x48,hO (cH g38) b32 c33 24 n34 x31]++eD aK.c 42 g38 (x37.set v68 x103))) (2+v68) rfl (rV 2 rfl q41 q40 (q42 _ (aO h69))) h102 h104 tyO4.s (hH:=stN 2 rfl q41 q40 (q42 _ (aO h69)))) ⟨rfl,k_B _,trivial⟩ ?_
   refine go ?_ ?_
   refine dQ (dL (aLw 1 2 rfl rfl (aDI q41 q40 (q42 _ (aO h69)) (bC h104 rfl)) (yI (aBR q40) q42) ?_))
   refine lF 1 [8,10,33,42,47,89,114] rfl ((sP _ _).trans q35) ⟨rfl,rfl,rfl,rfl,rfl,rfl,rfl,trivial⟩ rfl ?_
   refine lF 0 [9,12,32,115] rfl (bD h49 rfl) ⟨rfl,rfl,rfl,rfl,trivial⟩ rfl ?_
   obtain rfl:=eP hF
   exact eE (.inl rfl) Tryz.results11 (.tmp rfl (.tmp rfl .nil)) rfl rfl
  refine go ?_ ?_
  refine aB hF rfl (fun h107 hF=>?_) (fun h107 hF=>?_)
  ·refine go ?_ ?_
   refine aIQ (aF4 (C:=cI) (xs:=[]) (ps:=[]) (zs:=([]:List Int)) rfl tyS22 rfl trivial rfl) trivial (fun b108 _=>?_)
   refine dS ?_
   refine dS ?_
   obtain⟨v111,h112,hF⟩:=aM hF
   refine aI (cY (C:=aK.c) 1 rfl tyS24 rfl (bD h49 rfl) (aD h112).1 (aD h112).2.1) zU2 ?_
   obtain⟨x113,h114,hF⟩:=aM hF
   refine go ?_ ?_
   refine iK 0 rfl tyS22 rfl rfl rfl rfl rfl h114 (fun b115 c116 H117 e118=>?_)
   cases e118
   refine aI (eR (C:=cI) (xs:=[.const (.int .i64 (0))]) (ps:=[.vc (pI .i64 0)]) (zs:=[0]) rfl tyS22 rfl ⟨⟨trivial,rfl⟩,trivial⟩ rfl) ⟨qM _ _,trivial⟩ ?_
   obtain⟨x120,h121,hF⟩:=aM hF
   refine iK 0 rfl tyS22 rfl rfl (bD h114 rfl) rfl rfl h121 (fun b122 c123 H124 e125=>?_)
   cases e125
   have hF:=tJ h112 hF
   refine aI (cY (C:=aK.c) 1 rfl tyS24 rfl (bD h49 rfl) (aD h112).1 (aD h112).2.1) zU2 ?_
   refine aI (aHK (off:=0) (k:=0) rfl tyF42_0) zU1 ?_
   refine aI (aHK (off:=0) (k:=1) rfl tyF40_1) zU1 ?_
   refine tV 0 [110] rfl (bD h121 (bD h114 rfl)) zU1 rfl ?_
   obtain⟨x129,h130,hF⟩:=aM hF
   refine go ?_ ?_
   refine dQ (dL (aLw 1 2 rfl rfl q41 (yI q40 q42) ?_))
   refine lF 1 [8,10,33,42,47,114] rfl ((sP _ _).trans q35) ⟨rfl,rfl,rfl,rfl,rfl,rfl,trivial⟩ rfl ?_
   refine lF 0 [9,12,32,99,102,115] rfl (bC h130 (bD h49 rfl)) ⟨rfl,rfl,rfl,rfl,rfl,rfl,trivial⟩ rfl ?_
   obtain rfl:=eP hF
   exact eE (.inl rfl) Tryz.results11 (.tmp rfl (.tmp rfl .nil)) rfl rfl
  have hF:=tJ h69 hF
  obtain⟨v137,h138,hF⟩:=aW hF lK
  obtain⟨v139,h140,hF⟩:=aM hF
  obtain⟨v141,h142,hF⟩:=aW hF aAV
  obtain⟨v143,h144,hF⟩:=aM hF
  refine iQ [0,0,3,7,0,0,32,96,224,511,1023] 10 1 [.v (.vc (pO b32 n34 c33)),.v (.vc (pI .i64 v64)),.v (.vc (pE b32 v64 (cH g38).n 0)),.v (.vc (pO (gA g38 v68).1 (gA g38 v68).2.1 (gA g38 v68).2.2)),.v (.vc (pI .i64 v70)),.v (.vc (pI .i64 a3)),.v (.vc (pI .i64 v137)),.v (.vc (pI .i64 v139)),.v (.va (aK.e v141)),.v (.vc (pE (gA g38 v68).1 v70 aK.c.n 0))] aU ⟨d0 (aL (.inl rfl)) zU1,d0 (aL (.inl rfl)) zU1,d0 (cY (C:=(cH g38)) 1 rfl tyS23 rfl q35 (aD h69).1 (aD h69).2.1) zU2,d0 (iD (C:=(cH g38)) (k:=1) 1 rfl rfl h69 rfl (.one tyO24) rfl) zU1,d0 (aL (.inl rfl)) zU1,d0 (aL (.inl rfl)) zU1,d0 (bE rfl h138 rfl) ⟨rfl,qM _ _,trivial⟩,d0 (aLC rfl h140) ⟨rfl,qM _ _,trivial⟩,d0 (bE rfl h142 rfl) ⟨rfl,qM _ _,trivial⟩,d0 (cY (2+v68) rfl tyS24 (gW 2 rfl q41 q40 (q42 _ (aO h69))) (cR q41 q40 (q42 _ (aO h69))) (aD h144).1 (aD h144).2.1) zU2,trivial⟩ (fun bs134 G133=>?_)
  obtain⟨x145,h146,hF⟩:=aM hF
  refine mD (yM (H':=([hO aK.c b50 c51 42 (0+a1.length) x48,hO (cH g38) b32 c33 24 n34 x31]++eD aK.c 42 g38 (x37.set v68 x145))) (2+v68) rfl (rV 2 rfl q41 q40 (q42 _ (aO h69))) h144 h146 tyA42.s (hH:=stN 2 rfl q41 q40 (q42 _ (aO h69)))) zU2 ?_
  refine go ?_ ?_
  refine dQ (dL (aLw 1 2 rfl rfl (aDI q41 q40 (q42 _ (aO h69)) (bC h146 rfl)) (yI (aBR q40) q42) ?_))
  refine lF 1 [8,10,33,42,47,55,114] rfl ((sP _ _).trans q35) ⟨rfl,rfl,rfl,rfl,rfl,rfl,rfl,trivial⟩ rfl ?_
  refine lF 0 [9,12,32,115] rfl (bD h49 rfl) ⟨rfl,rfl,rfl,rfl,trivial⟩ rfl ?_
  obtain rfl:=eP hF
  exact eE (.inl rfl) Tryz.results11 (.tmp rfl (.tmp rfl .nil)) rfl rfl
 obtain⟨⟨x31',x37'⟩,hL,hRl43⟩:=aM hF
 refine cA (fun k a w=>∃(x18:List Nat),∃(x24:List (List aK)),∃(x30:Int),∃(b19:Option Nat),∃(c20:Nat),∃(n21:Nat),∃(g25:List rK),∃(N26:Nat),cS K a0 k x18 x24 x30=some (x31',x37')∧x18.length=n21∧x24.length=N26∧cJ g25 x24∧(∀k∈x18,k<N26)∧hs _ ([hO (cH g25) b19 c20 24 n21 x18]++eD aK.c 42 g25 x24) [(0,.vc (pS (bJ aK.c) a0)),(1,.vc (pS aK.c a1)),(2,.vc (pI .i64 a2)),(3,.vc (pI .i64 a3)),(10,.vc (pO b19 n21 c20)),(11,.vc (pI .i64 x30))] a w) K (fun a w ⟨_,_,_,_,_,_,_,_,hF,_,_,_,_,_⟩=>by cases hF) (fun k a w ⟨x18,x24,x30,b19,c20,n21,g25,N26,hF,q22,q27,q28,q29,hh⟩=>b0 ?_ hh) (fun a w hh=>⟨([]:List Nat),([]:List (List aK)),0,none,0,0,([]:List rK),0,hL,rfl,(rfl),aDa,(by simp),aR 1 [0] rfl rfl (by decide) (by exact⟨rfl,rfl,rfl,rfl,rfl,rfl,trivial⟩) hh⟩)
 rw [cS.eq_2] at hF
 refine go ?_ ?_
 refine aB hF rfl (fun h149 hF=>?_) (fun h149 hF=>?_)
 ·refine go ?_ ?_
  refine aG (aH (dS ?_))
  refine aIQ (aF4 (C:=aK.c) (xs:=[]) (ps:=[]) (zs:=([]:List aK)) rfl tyS24 rfl trivial rfl) trivial (fun b150 _=>?_)
  obtain⟨v153,h154,x155,h156,hF⟩:=tW hF
  refine go ?_ ?_
  refine iK 0 rfl tyS24 rfl rfl rfl rfl rfl h156 (fun b157 c158 H159 e160=>?_)
  cases e160
  refine aI (aLG (rs:=x24) rfl tyS23 q28.1 (show([hO aK.c b157 c158 42 (0+v153.length) x155,hO (cH (g25++[(b157,(0+v153.length),c158)])) b19 c20 24 n21 x18]++eD aK.c 42 g25 x24)=([hO aK.c b157 c158 42 (0+v153.length) x155,hO (cH g25) b19 c20 24 n21 x18]++eD aK.c 42 g25 x24) from by rw [aGo (N:=x24.length) (b157,(0+v153.length),c158) q28.1 (yI q27 q29)])) zU1 ?_
  refine aEq (g:=(b157,(0+v153.length),c158)) 0 2 rfl rfl rfl q28 ?_
  obtain⟨x163,h164,hF⟩:=aM hF
  refine iK 0 rfl tyS23 rfl rfl q22 rfl rfl h164 (fun b165 c166 H167 e168=>?_)
  cases e168
  obtain⟨v170,h171,hF⟩:=aM hF
  refine go ?_ ?_
  exact aF (fun a w hh=>⟨x163,(x24++[x155]),v170,b165,c166,(n21+[x24.length].length),(g25++[(b157,(0+v153.length),c158)]),(N26+1),hF,(bD h164 q22),(aCM q27),(aAB q28 (bD h156 rfl)),(aIw q29 q27 h164),aR 1 [0] rfl rfl (by decide) (by exact⟨rfl,rfl,rfl,rfl,rfl,rfl,trivial⟩) hh⟩)
 refine aV ?_
 obtain⟨rfl,rfl⟩:=sm2 hF
 exact eJ Jj44 ⟨x18,x24,b19,c20,n21,g25,N26,hRl43,q22,q27,q28,q29,rfl,rfl⟩ 1 [0] rfl rfl ⟨rfl,rfl,rfl,rfl,trivial⟩
def o8 (K:Nat):Option Bool:=
 some true
def gT (K:Nat) (a0:List aK):Nat→Int→Option (LR Bool Unit)
 |0,_=>none
 |k+1,x2=>bif(decide (x2<(a0.length:Int))) then((bF a0 x2).bind fun v6=>(jK K v6).bind fun v9=>bif(!v9) then(some (.ret false)) else((aS (x2+1)).bind fun v12=>gT K a0 k v12)) else(some (.go ()))
def lI (K:Nat) (a0:List aK):Option Bool:=
 (gT K a0 K 0).bind fun o=>match o with| .ret r=>some r| .go _=>o8 K
theorem yR {K:Nat} {a0:List aK} {r:Bool} (hF:lI K a0=some r):Ct Tryz.prog 56 [.vc (pS aK.c a0)] (.vc (pB r)):=by
 unfold lI at hF
 refine aA Tryz.func56 rfl (by kernel_rfl) Tryz.ntmps56 rfl (fun w0 M0=>?_)
 refine go ?_ ?_
 refine aG (aP (fun H E=>o8 K=some r∧H=[]∧E=[]) ?_ (fun Jj4=>?_))
 ·rintro _ _ ⟨hF,rfl,rfl⟩
  unfold o8 at hF
  exact bI
 obtain⟨ol3,hL,hRl3⟩:=aM hF
 refine cA (fun k a w=>∃(x2:Int),gT K a0 k x2=some ol3∧hs _ [] [(5,.vc (pS aK.c a0)),(6,.vc (pI .i64 (a0.length:Int))),(7,.vc (pI .i64 x2))] a w) K (fun a w ⟨_,hF,_⟩=>by cases hF) (fun k a w ⟨x2,hF,hh⟩=>b0 ?_ hh) (fun a w hh=>⟨0,hL,dI [] hh⟩)
 rw [gT.eq_2] at hF
 refine go ?_ ?_
 refine aB hF rfl (fun h5 hF=>?_) (fun h5 hF=>?_)
 ·refine go ?_ ?_
  refine aG ?_
  obtain⟨v6,h7,hF⟩:=aM hF
  refine go ?_ ?_
  refine aN rfl tyZ42r (fun b8=>?_)
  obtain⟨v9,h10,hF⟩:=aW hF aEk
  refine go ?_ ?_
  refine aB hF rfl (fun h11 hF=>?_) (fun h11 hF=>?_)
  ·exact bI
  obtain⟨v12,h13,hF⟩:=aM hF
  refine go ?_ ?_
  exact aF (fun a w hh=>⟨v12,hF,dI [] hh⟩)
 refine aV ?_
 obtain rfl:=eP hF
 exact nK Jj4 ⟨hRl3,rfl,rfl⟩ []
def nQ (K:Nat):Option Bool:=
 some true
def fW (K:Nat) (a0:List (List aK)) (a1:List aK):Nat→Int→Option (LR Bool Unit)
 |0,_=>none
 |k+1,x7=>bif(decide (x7<(a0.length:Int))) then((bF a0 x7).bind fun v11=>bif((v11.length:Int) != (a1.length:Int)) then(some (.ret false)) else((lI K v11).bind fun v14=>bif(!v14) then(some (.ret false)) else((aS (x7+1)).bind fun v17=>fW K a0 a1 k v17))) else(some (.go ()))
def eN (K:Nat) (a0:List (List aK)) (a1:List aK):Option Bool:=
 bif((a0.length:Int) != (a1.length:Int)) then(some false) else(bif(decide (32<(a0.length:Int))) then(some false) else((lI K a1).bind fun v3=>bif(!v3) then(some false) else((fW K a0 a1 K 0).bind fun o=>match o with| .ret r=>some r| .go _=>nQ K)))
theorem aBz {K:Nat} {a0:List (List aK)} {a1:List aK} {r:Bool} (hF:eN K a0 a1=some r):Ct Tryz.prog 43 [.vc (pS (bJ aK.c) a0),.vc (pS aK.c a1)] (.vc (pB r)):=by
 unfold eN at hF
 refine aA Tryz.func43 rfl (by kernel_rfl) Tryz.ntmps43 rfl (fun w0 M0=>?_)
 refine go ?_ ?_
 refine cC hF (fun h1 hF=>?_) (fun h1 hF=>?_)
 ·refine go ?_ ?_
  refine fV rfl ?_
  exact bI
 refine go ?_ ?_
 refine cC hF (fun h2 hF=>?_) (fun h2 hF=>?_)
 ·refine go ?_ ?_
  refine fV rfl ?_
  exact bI
 obtain⟨v3,h4,hF⟩:=aW hF yR
 refine go ?_ ?_
 refine aB hF rfl (fun h5 hF=>?_) (fun h5 hF=>?_)
 ·exact bI
 refine go ?_ ?_
 refine aG (aP (fun H E=>nQ K=some r∧H=[]∧E=[]) ?_ (fun Jj9=>?_))
 ·rintro _ _ ⟨hF,rfl,rfl⟩
  unfold nQ at hF
  exact bI
 obtain⟨ol8,hL,hRl8⟩:=aM hF
 refine cA (fun k a w=>∃(x7:Int),fW K a0 a1 k x7=some ol8∧hs _ [] [(1,.vc (pS aK.c a1)),(22,.vc (pS (bJ aK.c) a0)),(23,.vc (pI .i64 (a0.length:Int))),(24,.vc (pI .i64 x7))] a w) K (fun a w ⟨_,hF,_⟩=>by cases hF) (fun k a w ⟨x7,hF,hh⟩=>b0 ?_ hh) (fun a w hh=>⟨0,hL,dI [] hh⟩)
 rw [fW.eq_2] at hF
 refine go ?_ ?_
 refine aB hF rfl (fun h10 hF=>?_) (fun h10 hF=>?_)
 ·refine go ?_ ?_
  refine aG ?_
  obtain⟨v11,h12,hF⟩:=aM hF
  refine go ?_ ?_
  refine cC hF (fun h13 hF=>?_) (fun h13 hF=>?_)
  ·refine go ?_ ?_
   refine fV rfl ?_
   exact bI
  obtain⟨v14,h15,hF⟩:=aW hF yR
  refine go ?_ ?_
  refine aB hF rfl (fun h16 hF=>?_) (fun h16 hF=>?_)
  ·exact bI
  obtain⟨v17,h18,hF⟩:=aM hF
  refine go ?_ ?_
  exact aF (fun a w hh=>⟨v17,hF,dI [] hh⟩)
 refine aV ?_
 obtain rfl:=eP hF
 exact nK Jj9 ⟨hRl8,rfl,rfl⟩ []
def aBK (K:Nat) (a0:List (List aK)) (a1:List aK) (a2:Int):Option (aFh×Int):=
 (eN K a0 a1).bind fun v2=>bif(!v2) then(some ((⟨([]:List aK),([]:List aK),0⟩:aFh),1)) else(none)
def nX (K:Nat):Option Bool:=
 some true
def f9 (K:Nat) (a0:List aK):Nat→Int→Option (LR Bool Unit)
 |0,_=>none
 |k+1,x2=>bif(decide (x2<(a0.length:Int))) then((bF a0 x2).bind fun v6=>(bP K v6).bind fun v8=>bif(!v8) then(some (.ret false)) else((aS (x2+1)).bind fun v11=>f9 K a0 k v11)) else(some (.go ()))
def kM (K:Nat) (a0:List aK):Option Bool:=
 (f9 K a0 K 0).bind fun o=>match o with| .ret r=>some r| .go _=>nX K
theorem xX {K:Nat} {a0:List aK} {r:Bool} (hF:kM K a0=some r):Ct Tryz.prog 63 [.vc (pS aK.c a0)] (.vc (pB r)):=by
 unfold kM at hF
 refine aA Tryz.func63 rfl (by kernel_rfl) Tryz.ntmps63 rfl (fun w0 M0=>?_)
 refine go ?_ ?_
 refine aG (aP (fun H E=>nX K=some r∧H=[]∧E=[]) ?_ (fun Jj4=>?_))
 ·rintro _ _ ⟨hF,rfl,rfl⟩
  unfold nX at hF
  exact bI
 obtain⟨ol3,hL,hRl3⟩:=aM hF
 refine cA (fun k a w=>∃(x2:Int),f9 K a0 k x2=some ol3∧hs _ [] [(0,.vc (pS aK.c a0)),(3,.vc (pI .i64 x2))] a w) K (fun a w ⟨_,hF,_⟩=>by cases hF) (fun k a w ⟨x2,hF,hh⟩=>b0 ?_ hh) (fun a w hh=>⟨0,hL,dI [] hh⟩)
 rw [f9.eq_2] at hF
 refine go ?_ ?_
 refine aB hF rfl (fun h5 hF=>?_) (fun h5 hF=>?_)
 ·refine go ?_ ?_
  refine aG ?_
  obtain⟨v6,h7,hF⟩:=aM hF
  obtain⟨v8,h9,hF⟩:=aW hF zX
  refine go ?_ ?_
  refine aB hF rfl (fun h10 hF=>?_) (fun h10 hF=>?_)
  ·exact bI
  obtain⟨v11,h12,hF⟩:=aM hF
  refine go ?_ ?_
  exact aF (fun a w hh=>⟨v11,hF,dI [] hh⟩)
 refine aV ?_
 obtain rfl:=eP hF
 exact nK Jj4 ⟨hRl3,rfl,rfl⟩ []
def m7 (K:Nat):Option Bool:=
 some true
def fD (K:Nat) (a0:List (List aK)) (a1:List aK):Nat→Int→Option (LR Bool Unit)
 |0,_=>none
 |k+1,x7=>bif(decide (x7<(a0.length:Int))) then((bF a0 x7).bind fun v11=>bif((v11.length:Int) != (a1.length:Int)) then(some (.ret false)) else((bF a0 x7).bind fun v14=>(kM K v14).bind fun v16=>bif(!v16) then(some (.ret false)) else((aS (x7+1)).bind fun v19=>fD K a0 a1 k v19))) else(some (.go ()))
def fM (K:Nat) (a0:List (List aK)) (a1:List aK):Option Bool:=
 bif((a0.length:Int) != (a1.length:Int)) then(some false) else(bif(decide (32<(a1.length:Int))) then(some false) else((kM K a1).bind fun v3=>bif(!v3) then(some false) else((fD K a0 a1 K 0).bind fun o=>match o with| .ret r=>some r| .go _=>m7 K)))
theorem aA3 {K:Nat} {a0:List (List aK)} {a1:List aK} {r:Bool} (hF:fM K a0 a1=some r):Ct Tryz.prog 28 [.vc (pS (bJ aK.c) a0),.vc (pS aK.c a1)] (.vc (pB r)):=by
 unfold fM at hF
 refine aA Tryz.func28 rfl (by kernel_rfl) Tryz.ntmps28 rfl (fun w0 M0=>?_)
 refine go ?_ ?_
 refine cC hF (fun h1 hF=>?_) (fun h1 hF=>?_)
 ·refine go ?_ ?_
  refine fV rfl ?_
  exact bI
 refine go ?_ ?_
 refine cC hF (fun h2 hF=>?_) (fun h2 hF=>?_)
 ·refine go ?_ ?_
  refine fV rfl ?_
  exact bI
 obtain⟨v3,h4,hF⟩:=aW hF xX
 refine go ?_ ?_
 refine aB hF rfl (fun h5 hF=>?_) (fun h5 hF=>?_)
 ·exact bI
 refine go ?_ ?_
 refine aG (aP (fun H E=>m7 K=some r∧H=[]∧E=[]) ?_ (fun Jj9=>?_))
 ·rintro _ _ ⟨hF,rfl,rfl⟩
  unfold m7 at hF
  exact bI
 obtain⟨ol8,hL,hRl8⟩:=aM hF
 refine cA (fun k a w=>∃(x7:Int),fD K a0 a1 k x7=some ol8∧hs _ [] [(0,.vc (pS (bJ aK.c) a0)),(1,.vc (pS aK.c a1)),(5,.vc (pI .i64 x7))] a w) K (fun a w ⟨_,hF,_⟩=>by cases hF) (fun k a w ⟨x7,hF,hh⟩=>b0 ?_ hh) (fun a w hh=>⟨0,hL,dI [] hh⟩)
 rw [fD.eq_2] at hF
 refine go ?_ ?_
 refine aB hF rfl (fun h10 hF=>?_) (fun h10 hF=>?_)
 ·refine go ?_ ?_
  refine aG ?_
  obtain⟨v11,h12,hF⟩:=aM hF
  refine go ?_ ?_
  refine cC hF (fun h13 hF=>?_) (fun h13 hF=>?_)
  ·refine go ?_ ?_
   refine fV rfl ?_
   exact bI
  have hF:=tJ h12 hF
  obtain⟨v16,h17,hF⟩:=aW hF xX
  refine go ?_ ?_
  refine aB hF rfl (fun h18 hF=>?_) (fun h18 hF=>?_)
  ·exact bI
  obtain⟨v19,h20,hF⟩:=aM hF
  refine go ?_ ?_
  exact aF (fun a w hh=>⟨v19,hF,dI [] hh⟩)
 refine aV ?_
 obtain rfl:=eP hF
 exact nK Jj9 ⟨hRl8,rfl,rfl⟩ []
abbrev zW:Nat:=24
def mG (K:Nat) (a0:List (List aK)) (a1:List aK):Option ((List (List aK))×Int):=
 (eN K a0 a1).bind fun v3=>bif(!v3) then(some ([],1)) else(none)
theorem aCc {K:Nat} {a0:List (List aK)} {a1:List aK} {r:(List (List aK))×Int} (hF:mG K a0 a1=some r):Ct Tryz.prog 24 [.vc (pS (bJ aK.c) a0),.vc (pS aK.c a1)] (.t2 (.vc (pS (bJ aK.c) r.1)) (.vc (pI .i64 r.2))):=by
 unfold mG at hF
 refine aA Tryz.func24 rfl (by kernel_rfl) Tryz.ntmps24 rfl (fun w0 M0=>?_)
 refine aC (aH (bV rfl rfl trivial (fun b1=>?_)))
 refine bV rfl rfl trivial (fun b2=>?_)
 refine aI (aL (.inr rfl)) ⟨cD (bJ aK.c),trivial⟩ ?_
 obtain⟨v3,h4,hF⟩:=aW hF aBz
 refine go ?_ ?_
 refine aB hF rfl (fun h5 hF=>?_) (fun h5 hF=>?_)
 ·refine aC (aH (aI (aL (.inr rfl)) ⟨cD (bJ aK.c),trivial⟩ ?_))
  exact bI
 cases hF
abbrev y7:Nat:=25
def lL (K:Nat) (a0:List (List aK)) (a1:List aK):Option ((List (List aK))×Int):=
 (fM K a0 a1).bind fun v1=>bif(!v1) then(some ([],1)) else(none)
theorem aBH {K:Nat} {a0:List (List aK)} {a1:List aK} {r:(List (List aK))×Int} (hF:lL K a0 a1=some r):Ct Tryz.prog 25 [.vc (pS (bJ aK.c) a0),.vc (pS aK.c a1)] (.t2 (.vc (pS (bJ aK.c) r.1)) (.vc (pI .i64 r.2))):=by
 unfold lL at hF
 refine aA Tryz.func25 rfl (by kernel_rfl) Tryz.ntmps25 rfl (fun w0 M0=>?_)
 refine aC (aH (aI (aL (.inr rfl)) ⟨cD (bJ aK.c),trivial⟩ ?_))
 obtain⟨v1,h2,hF⟩:=aW hF aA3
 refine go ?_ ?_
 refine aB hF rfl (fun h3 hF=>?_) (fun h3 hF=>?_)
 ·refine aC (aH (aI (aL (.inr rfl)) ⟨cD (bJ aK.c),trivial⟩ ?_))
  exact bI
 cases hF
def cF (a0:List Int) (a1:Int) (a2:Int):Option Int:=
 bif(decide (a1<0)) then(some 0) else(bif(decide ((a0.length:Int)≤a1)) then(some 0) else((bF a0 a1).bind fun v3=>(dO v3 a2).bind fun v5=>some v5))
theorem nB {a0:List Int} {a1:Int} {a2:Int} {r:Int} (hF:cF a0 a1 a2=some r):Ct Tryz.prog 39 [.vc (pS cI a0),.vc (pI .i64 a1),.vc (pI .i64 a2)] (.vc (pI .i64 r)):=by
 unfold cF at hF
 refine aA Tryz.func39 rfl (by kernel_rfl) Tryz.ntmps39 rfl (fun w0 M0=>?_)
 refine go ?_ ?_
 refine cC hF (fun h1 hF=>?_) (fun h1 hF=>?_)
 ·refine go ?_ ?_
  refine fV rfl ?_
  exact bI
 refine go ?_ ?_
 refine aB hF rfl (fun h2 hF=>?_) (fun h2 hF=>?_)
 ·exact bI
 obtain⟨v3,h4,hF⟩:=aM hF
 obtain⟨v5,h6,hF⟩:=aW hF lK
 exact bI
def kE (a0:Int):Option Rat:=
 (dO a0 60).bind fun v2=>bif(decide (v2<24)) then(some 0) else((chr v2 9).bind fun v5=>(aS (v5-4)).bind fun v7=>(chq v2 9).bind fun v9=>(chr v9 3).bind fun v11=>(aS (1+v11)).bind fun v13=>(qof v7 v13).bind fun v15=>some v15)
theorem aCf {a0:Int} {r:Rat} (hF:kE a0=some r):Ct Tryz.prog 40 [.vc (pI .i64 a0)] (.va (eQ r)):=by
 unfold kE at hF
 refine aA Tryz.func40 rfl (by kernel_rfl) Tryz.ntmps40 rfl (fun w0 M0=>?_)
 refine aC (aH (aN rfl tyZ42q (fun b1=>?_)))
 obtain⟨v2,h3,hF⟩:=aW hF lK
 refine go ?_ ?_
 refine aB hF rfl (fun h4 hF=>?_) (fun h4 hF=>?_)
 ·refine aC (aH (aI (gU (is:=[]) (xs:=[]) (ps:=[]) rfl tyB42q rfl rfl trivial rfl) trivial ?_))
  exact bI
 obtain⟨v5,h6,v7,h8,v9,h10,v11,h12,hF⟩:=bn4 hF
 obtain⟨v13,h14,hF⟩:=aM hF
 obtain⟨v15,h16,hF⟩:=aW hF dX
 exact bI
def sV (K:Nat) (x7:Rat):Option Rat:=
 some x7
def kC (K:Nat) (a0:List Rat) (a1:List Rat):Nat→Rat→Int→Option Rat
 |0,_,_=>none
 |k+1,x5,x6=>bif(decide (x6<(a0.length:Int))) then(bif(decide (x6<(a1.length:Int))) then((bF a0 x6).bind fun v14=>(bF a1 x6).bind fun v16=>(aEr v14 v16).bind fun v18=>(aFc x5 v18).bind fun v20=>(aS (x6+1)).bind fun v22=>kC K a0 a1 k v20 v22) else(some x5)) else(some x5)
def k6 (K:Nat) (a0:List Rat) (a1:List Rat):Option Rat:=
 (kC K a0 a1 K 0 0).bind fun x7=>sV K x7
theorem xN {K:Nat} {a0:List Rat} {a1:List Rat} {r:Rat} (hF:k6 K a0 a1=some r):Ct Tryz.prog 42 [.vc (pS cQ a0),.vc (pS cQ a1)] (.va (eQ r)):=by
 unfold k6 at hF
 refine aA Tryz.func42 rfl (by kernel_rfl) Tryz.ntmps42 rfl (fun w0 M0=>?_)
 refine aC (aH (aN rfl tyZ42q (fun b1=>?_)))
 refine go ?_ ?_
 refine aN rfl tyZ42q (fun b2=>?_)
 refine go ?_ ?_
 refine aG (aP (fun H E=>∃(x7:Rat),sV K x7=some r∧H=[⟨some b2,1,42,4,1,(eQ x7)⟩,⟨some b1,1,42,4,1,(eQ 0)⟩]∧E=[(4,.vc (pP (some b1) 0)),(5,.vc (pP (some b2) 0))]) ?_ (fun Jj9=>?_))
 ·rintro _ _ ⟨x7,hF,rfl,rfl⟩
  unfold sV at hF
  exact bI
 obtain⟨x7',hL,hRl8⟩:=aM hF
 refine cA (fun k a w=>∃(x5:Rat),∃(x6:Int),kC K a0 a1 k x5 x6=some x7'∧hs _ [⟨some b2,1,42,4,1,(eQ x5)⟩,⟨some b1,1,42,4,1,(eQ 0)⟩] [(0,.vc (pS cQ a0)),(1,.vc (pS cQ a1)),(4,.vc (pP (some b1) 0)),(5,.vc (pP (some b2) 0)),(6,.vc (pI .i64 x6))] a w) K (fun a w ⟨_,_,hF,_⟩=>by cases hF) (fun k a w ⟨x5,x6,hF,hh⟩=>b0 ?_ hh) (fun a w hh=>⟨0,0,hL,dI [0,1] hh⟩)
 rw [kC.eq_2] at hF
 refine go ?_ ?_
 refine cC hF (fun h10 hF=>?_) (fun h10 hF=>?_)
 ·refine go ?_ ?_
  refine aB hF rfl (fun h11 hF=>?_) (fun h11 hF=>?_)
  ·refine go ?_ ?_
   refine aG ?_
   obtain⟨v14,h15,hF⟩:=aM hF
   obtain⟨v16,h17,hF⟩:=aM hF
   obtain⟨v18,h19,hF⟩:=aW hF xQ
   obtain⟨v20,h21,hF⟩:=aW hF oH
   refine dr [0,0,0,6,14,0,0,96,224,510,1023,2047] 11 1 ?_ (fun bs13 G12=>?_)
   obtain⟨v22,h23,hF⟩:=aM hF
   refine go ?_ ?_
   exact aF (fun a w hh=>⟨v20,v22,hF,dI [0,1] hh⟩)
  refine aV ?_
  obtain rfl:=eP hF
  exact nK Jj9 ⟨x5,hRl8,rfl,rfl⟩ [0,1]
 refine go ?_ ?_
 refine wX rfl ?_
 refine aV ?_
 obtain rfl:=eP hF
 exact nK Jj9 ⟨x5,hRl8,rfl,rfl⟩ [0,1]
def mW (K:Nat) (x37:List Rat) (x119:List (List Rat)):Option ((List (List Rat))×(List Rat)):=
 some (x119,x37)
def nC (K:Nat) (v5:Int) (x112:List (List Rat)) (x118:Int) (recl125:(List (List Rat))→Int→Option (List (List Rat))) (x144:List Rat):Option (List (List Rat)):=
 bif(v5==2) then((bF x144 x118).bind fun v155=>(qof 1 1).bind fun v157=>(aFc v155 v157).bind fun v159=>(bF x144 x118).bind fun v161=>(qL x144 x118 v159).bind fun x163=>(oG x112 [x163]).bind fun x166=>(aS (x118+1)).bind fun v173=>recl125 x166 v173) else((oG x112 [x144]).bind fun x175=>(aS (x118+1)).bind fun v182=>recl125 x175 v182)
def fC (K:Nat) (v3:Int) (x43:List (List Rat)) (x118:Int):Nat→(List Rat)→Int→Option (List Rat)
 |0,_,_=>none
 |k+1,x137,x143=>bif(decide (x143<v3)) then((bF x43 x118).bind fun v187=>(bF x43 x143).bind fun v189=>(k6 K v187 v189).bind fun v191=>(oG x137 [v191]).bind fun x193=>(aS (x143+1)).bind fun v200=>fC K v3 x43 x118 k x193 v200) else(some x137)
def cN (K:Nat) (v3:Int) (v5:Int) (x43:List (List Rat)):Nat→(List (List Rat))→Int→Option (List (List Rat))
 |0,_,_=>none
 |k+1,x112,x118=>bif(decide (x118<v3)) then((fC K v3 x43 x118 K ([]:List Rat) 0).bind fun x144=>nC K v5 x112 x118 (cN K v3 v5 x43 k) x144) else(some x112)
def nH (K:Nat) (x37:List Rat) (x218:List (List Rat)):Option ((List (List Rat))×(List Rat)):=
 some (x218,x37)
def mT (K:Nat) (v5:Int) (x211:List (List Rat)) (x217:Int) (recl224:(List (List Rat))→Int→Option (List (List Rat))) (x243:List Rat):Option (List (List Rat)):=
 bif(v5==2) then((bF x243 x217).bind fun v254=>(qof 1 1).bind fun v256=>(aFc v254 v256).bind fun v258=>(bF x243 x217).bind fun v260=>(qL x243 x217 v258).bind fun x262=>(oG x211 [x262]).bind fun x265=>(aS (x217+1)).bind fun v272=>recl224 x265 v272) else((oG x211 [x243]).bind fun x274=>(aS (x217+1)).bind fun v281=>recl224 x274 v281)
def fA (K:Nat) (v3:Int) (x43:List (List Rat)) (x217:Int):Nat→(List Rat)→Int→Option (List Rat)
 |0,_,_=>none
 |k+1,x236,x242=>bif(decide (x242<v3)) then((bF x43 x217).bind fun v286=>(bF x43 x242).bind fun v288=>(k6 K v286 v288).bind fun v290=>(oG x236 [v290]).bind fun x292=>(aS (x242+1)).bind fun v299=>fA K v3 x43 x217 k x292 v299) else(some x236)
def cO (K:Nat) (v3:Int) (v5:Int) (x43:List (List Rat)):Nat→(List (List Rat))→Int→Option (List (List Rat))
 |0,_,_=>none
 |k+1,x211,x217=>bif(decide (x217<v3)) then((fA K v3 x43 x217 K ([]:List Rat) 0).bind fun x243=>mT K v5 x211 x217 (cO K v3 v5 x43 k) x243) else(some x211)
def cX (K:Nat) (a0:List Int) (v3:Int) (v5:Int) (x37:List Rat) (x43:List (List Rat)):Option ((List (List Rat))×(List Rat)):=
 bif(v5==0) then(some (x43,x37)) else(bif(v3==0) then(some (x43,x37)) else(bif(v5==4) then(bif(decide (4≤v3)) then((qof 1 1).bind fun v56=>(cF a0 2 4).bind fun v59=>(qof v59 2).bind fun v61=>(cF a0 3 5).bind fun v64=>(aS (v64-2)).bind fun v66=>(qof v66 2).bind fun v68=>(qof 2 1).bind fun v71=>(qof (-1) 1).bind fun v74=>(aCh v68).bind fun v79=>(aCh v71).bind fun v81=>(aCh v68).bind fun v83=>(aCh v71).bind fun v85=>(slL x37 0 3).bind fun x89=>(oG ([]:List Rat) x89).bind fun x91=>(oG x91 [0]).bind fun x94=>some ([[v71,v68,v79,0],[v68,v71,v81,v56],[v83,v85,v71,v56],[v61,v74,v74,0]],x94)) else((cN K v3 v5 x43 K ([]:List (List Rat)) 0).bind fun x119=>mW K x37 x119)) else((cO K v3 v5 x43 K ([]:List (List Rat)) 0).bind fun x218=>nH K x37 x218)))
def mV (K:Nat) (a0:List Int) (x24:List Rat) (x30:List (List Rat)) (x36:Int) (recl49:(List Rat)→(List (List Rat))→Int→Option ((List Rat)×(List (List Rat)))) (x318:List Rat):Option ((List Rat)×(List (List Rat))):=
 (oG x30 [x318]).bind fun x326=>(aS (40+x36)).bind fun v333=>(cF a0 v333 13).bind fun v335=>(aS (v335-8)).bind fun v337=>(aS (47+x36)).bind fun v339=>(cF a0 v339 2).bind fun v341=>(aS (1+v341)).bind fun v343=>(qof v337 v343).bind fun v345=>(oG x24 [v345]).bind fun x347=>(aS (x36+1)).bind fun v354=>recl49 x347 x326 v354
def fH (K:Nat) (a0:List Int) (v3:Int) (x36:Int):Nat→(List Rat)→Int→Option (List Rat)
 |0,_,_=>none
 |k+1,x311,x317=>bif(decide (x317<v3)) then((aS (6*x36)).bind fun v357=>(aS (3+v357)).bind fun v359=>(aS (v359+x317)).bind fun v361=>(cF a0 v361 60).bind fun v363=>(kE v363).bind fun v365=>(oG x311 [v365]).bind fun x367=>(aS (x317+1)).bind fun v374=>fH K a0 v3 x36 k x367 v374) else(some x311)
def d9 (K:Nat) (a0:List Int) (v3:Int):Nat→(List Rat)→(List (List Rat))→Int→Option ((List Rat)×(List (List Rat)))
 |0,_,_,_=>none
 |k+1,x24,x30,x36=>bif(decide (x36<v3)) then((fH K a0 v3 x36 K ([]:List Rat) 0).bind fun x318=>mV K a0 x24 x30 x36 (d9 K a0 v3 k) x318) else(some (x24,x30))
def lJ (K:Nat) (a0:List Int) (a1:Int):Option ((List (List Rat))×(List Rat)):=
 (aS (a1+1)).bind fun v1=>(cF a0 0 v1).bind fun v3=>(cF a0 1 5).bind fun v5=>(d9 K a0 v3 K ([]:List Rat) ([]:List (List Rat)) 0).bind fun(x37,x43)=>cX K a0 v3 v5 x37 x43
theorem aBE {K:Nat} {a0:List Int} {a1:Int} {r:(List (List Rat))×(List Rat)} (hF:lJ K a0 a1=some r):Ct Tryz.prog 10 [.vc (pS cI a0),.vc (pI .i64 a1)] (.t2 (.vc (pS (bJ cQ) r.1)) (.vc (pS cQ r.2))):=by
 unfold lJ at hF
 refine aA Tryz.func10 rfl (by kernel_rfl) Tryz.ntmps10 rfl (fun w0 M0=>?_)
 refine aC (aH (aI (aL (.inr rfl)) ⟨cD (bJ cQ),trivial⟩ ?_))
 refine aI (aL (.inr rfl)) ⟨cD cQ,trivial⟩ ?_
 refine aT (aJ (aC (aH (dS ?_))))
 refine dS ?_
 obtain⟨v1,h2,hF⟩:=aM hF
 refine aI (yK rfl h2) ⟨rfl,qM _ _,trivial⟩ ?_
 obtain⟨v3,h4,hF⟩:=aW hF nB
 refine aI (bE rfl h4 rfl) ⟨rfl,qM _ _,rfl,trivial⟩ ?_
 refine zP ?_
 refine aT (aJ (aC (aH (dS ?_))))
 obtain⟨v5,h6,hF⟩:=aW hF nB
 refine aI (bE rfl h6 rfl) ⟨rfl,qM _ _,qM _ _,trivial⟩ ?_
 refine zP ?_
 refine aT (aJ (aC (aH (jP (bJ cQ) 24 rfl ?_))))
 refine aT (aJ (aC (aH (jP cQ 42 rfl ?_))))
 refine go ?_ ?_
 refine aG (aP (fun H E=>∃(x37:List Rat),∃(x43:List (List Rat)),∃(b38:Option Nat),∃(c39:Nat),∃(n40:Nat),∃(b44:Option Nat),∃(c45:Nat),∃(n46:Nat),cX K a0 v3 v5 x37 x43=some r∧x37.length=n40∧x43.length=n46∧H=[hO cQ b38 c39 42 n40 x37,hO (bJ cQ) b44 c45 24 n46 x43]∧E=[(0,.vc (pS cI a0)),(6,.vc (pI .i64 v3)),(7,.vc (pI .i64 v5)),(8,.vc (pO b44 n46 c45)),(9,.vc (pO b38 n40 c39))]) ?_ (fun Jj50=>?_))
 ·rintro _ _ ⟨x37,x43,b38,c39,n40,b44,c45,n46,hF,q41,q47,rfl,rfl⟩
  unfold cX at hF
  refine go ?_ ?_
  refine cC hF (fun h51 hF=>?_) (fun h51 hF=>?_)
  ·refine go ?_ ?_
   refine fV rfl ?_
   refine go ?_ ?_
   refine dQ (dL (lF 1 [4,8,74] rfl q47 ⟨rfl,rfl,rfl,trivial⟩ rfl ?_))
   refine lF 0 [5,9,75] rfl q41 ⟨rfl,rfl,rfl,trivial⟩ rfl ?_
   obtain rfl:=eP hF
   exact eE (.inl rfl) Tryz.results10 (.tmp rfl (.tmp rfl .nil)) rfl rfl
  refine go ?_ ?_
  refine aB hF rfl (fun h52 hF=>?_) (fun h52 hF=>?_)
  ·refine go ?_ ?_
   refine dQ (dL (lF 1 [4,8,74] rfl q47 ⟨rfl,rfl,rfl,trivial⟩ rfl ?_))
   refine lF 0 [5,9,75] rfl q41 ⟨rfl,rfl,rfl,trivial⟩ rfl ?_
   obtain rfl:=eP hF
   exact eE (.inl rfl) Tryz.results10 (.tmp rfl (.tmp rfl .nil)) rfl rfl
  refine go ?_ ?_
  refine cC hF (fun h53 hF=>?_) (fun h53 hF=>?_)
  ·refine go ?_ ?_
   refine aB hF rfl (fun h54 hF=>?_) (fun h54 hF=>?_)
   ·refine aC (aH (aI (gU (is:=[]) (xs:=[]) (ps:=[]) rfl tyB42q rfl rfl trivial rfl) trivial ?_))
    refine aN rfl tyZ42q (fun b55=>?_)
    obtain⟨v56,h57,hF⟩:=aW hF dX
    refine go ?_ ?_
    refine aN rfl tyZ42q (fun b58=>?_)
    obtain⟨v59,h60,hF⟩:=aW hF nB
    obtain⟨v61,h62,hF⟩:=aW hF dX
    refine go ?_ ?_
    refine aN rfl tyZ42q (fun b63=>?_)
    obtain⟨v64,h65,hF⟩:=aW hF nB
    obtain⟨v66,h67,hF⟩:=aM hF
    obtain⟨v68,h69,hF⟩:=aW hF dX
    refine go ?_ ?_
    refine aN rfl tyZ42q (fun b70=>?_)
    obtain⟨v71,h72,hF⟩:=aW hF dX
    refine go ?_ ?_
    refine aN rfl tyZ42q (fun b73=>?_)
    obtain⟨v74,h75,hF⟩:=aW hF dX
    refine go ?_ ?_
    refine aN rfl tyZ42q (fun b76=>?_)
    refine mD (t_s 0 rfl rfl rfl tyA42.s) zU2 ?_
    refine aT (aJ (aC (aQA 6 [9] rfl q41 zU1 rfl ?_)))
    obtain⟨v79,h80,hF⟩:=aW hF oO
    obtain⟨v81,h82,hF⟩:=aW hF oO
    obtain⟨v83,h84,hF⟩:=aW hF oO
    obtain⟨v85,h86,hF⟩:=aW hF oO
    obtain⟨x89,h90,hF⟩:=aM hF
    obtain⟨x91,h92,hF⟩:=aM hF
    obtain⟨x94,h95,hF⟩:=aM hF
    refine r6 (HsM [(0,fun G77=>[⟨some b76,1,42,4,1,(eQ v74)⟩,⟨some b73,1,42,4,1,(eQ v71)⟩,⟨some b70,1,42,4,1,(eQ v68)⟩,⟨some b63,1,42,4,1,(eQ v61)⟩,⟨some b58,1,42,4,1,(eQ v56)⟩,⟨some b55,1,42,4,1,(eQ 0)⟩,hO (bJ cQ) b44 c45 24 n46 x43]),(1,fun G77=>[hO cQ ((G77 25).1) 0 42 0 ([]:List Rat),⟨some b76,1,42,4,1,(eQ v74)⟩,⟨some b73,1,42,4,1,(eQ v71)⟩,⟨some b70,1,42,4,1,(eQ v68)⟩,⟨some b63,1,42,4,1,(eQ v61)⟩,⟨some b58,1,42,4,1,(eQ v56)⟩,⟨some b55,1,42,4,1,(eQ 0)⟩,hO (bJ cQ) b44 c45 24 n46 x43]),(3,fun G77=>[hO cQ ((G77 28).1) ((G77 28).2) 42 (0+x89.length) x91,⟨some b76,1,42,4,1,(eQ v74)⟩,⟨some b73,1,42,4,1,(eQ v71)⟩,⟨some b70,1,42,4,1,(eQ v68)⟩,⟨some b63,1,42,4,1,(eQ v61)⟩,⟨some b58,1,42,4,1,(eQ v56)⟩,⟨some b55,1,42,4,1,(eQ 0)⟩,hO (bJ cQ) b44 c45 24 n46 x43]),(7,fun G77=>[hO cQ ((G77 31).1) ((G77 31).2) 42 ((0+x89.length)+[0].length) x94,⟨some b76,1,42,4,1,(eQ v74)⟩,⟨some b73,1,42,4,1,(eQ v71)⟩,⟨some b70,1,42,4,1,(eQ v68)⟩,⟨some b63,1,42,4,1,(eQ v61)⟩,⟨some b58,1,42,4,1,(eQ v56)⟩,⟨some b55,1,42,4,1,(eQ 0)⟩,hO (bJ cQ) b44 c45 24 n46 x43]),(15,fun G77=>[hO cQ ((G77 33).1) ((G77 33).2) 42 ((0+x89.length)+[0].length) x94,⟨some b76,1,42,4,1,(eQ v74)⟩,⟨some b73,1,42,4,1,(eQ v71)⟩,⟨some b70,1,42,4,1,(eQ v68)⟩,⟨some b63,1,42,4,1,(eQ v61)⟩,⟨some b58,1,42,4,1,(eQ v56)⟩,⟨some b55,1,42,4,1,(eQ 0)⟩,hO (bJ cQ) b44 c45 24 n46 x43])]) [25,28,31,33] (0::0::0::4::0::31::0::0::0::268::0::1996::0::4876::0::29452::0::0::258828::0::0::0::0::7864320::16777215::0::0::67108864::234943244::0::536870912::2113991436::4294967295::8589934591::[]) 34 0 (.v (.va (eQ v71))::.v (.va (eQ v68))::.v (.va (eQ v68))::.v (.va (eQ v79))::.v (.va (eQ 0))::.v (.vc (pS cQ [v71,v68,v79,0]))::.v (.va (eQ v68))::.v (.va (eQ v71))::.v (.va (eQ v71))::.v (.va (eQ v81))::.v (.va (eQ v56))::.v (.vc (pS cQ [v68,v71,v81,v56]))::.v (.va (eQ v68))::.v (.va (eQ v83))::.v (.va (eQ v71))::.v (.va (eQ v85))::.v (.va (eQ v71))::.v (.va (eQ v56))::.v (.vc (pS cQ [v83,v85,v71,v56]))::.v (.va (eQ v61))::.v (.va (eQ v74))::.v (.va (eQ v74))::.v (.va (eQ 0))::.v (.vc (pS cQ [v61,v74,v74,0]))::.v (.vc (pS (bJ cQ) [[v71,v68,v79,0],[v68,v71,v81,v56],[v83,v85,v71,v56],[v61,v74,v74,0]]))::.g (fun b _=>.vc (pO b 0 0))::.v (.vc (pS cQ x37))::.v (.vc (pS cQ x89))::.g (fun b c=>.vc (pO b (0+x89.length) c))::.v (.va (eQ 0))::.v (.vc (pS cQ [0]))::.g (fun b c=>.vc (pO b ((0+x89.length)+[0].length) c))::.v (.vc (pS (bJ cQ) [[v71,v68,v79,0],[v68,v71,v81,v56],[v83,v85,v71,v56],[v61,v74,v74,0]]))::.g (fun b c=>.vc (pO b ((0+x89.length)+[0].length) c))::[]) aU ⟨⟨rfl,.run (L:=[0,1,3,7]) ⟨fun G77 A=>gC 1 4 rfl rfl rfl rfl (.agg tyA42),fun G77 A=>gC 2 4 rfl rfl rfl rfl (.agg tyA42),fun G77 A=>gC 2 4 rfl rfl rfl rfl (.agg tyA42),fun G77 A=>gC 2 4 rfl rfl rfl rfl (.agg tyA42),trivial⟩ (fun G77=>zU1)⟩,⟨rfl,.run (L:=[0,1,3,7]) ⟨fun G77 A=>gC 2 4 rfl rfl rfl rfl (.agg tyA42),fun G77 A=>gC 3 4 rfl rfl rfl rfl (.agg tyA42),fun G77 A=>gC 3 4 rfl rfl rfl rfl (.agg tyA42),fun G77 A=>gC 3 4 rfl rfl rfl rfl (.agg tyA42),trivial⟩ (fun G77=>zU1)⟩,⟨rfl,.run (L:=[0,1]) ⟨fun G77 A=>gC 2 4 rfl rfl rfl rfl (.agg tyA42),fun G77 A=>gC 3 4 rfl rfl rfl rfl (.agg tyA42),trivial⟩ (fun G77=>zU1)⟩,⟨rfl,.run (L:=[0,1]) ⟨fun G77 A=>bE rfl h80 rfl,fun G77 A=>bE rfl h80 rfl,trivial⟩ (fun G77=>zU1)⟩,⟨rfl,.run (L:=[0,1,3,7]) ⟨fun G77 A=>gC 5 4 rfl rfl rfl rfl (.agg tyA42),fun G77 A=>gC 6 4 rfl rfl rfl rfl (.agg tyA42),fun G77 A=>gC 6 4 rfl rfl rfl rfl (.agg tyA42),fun G77 A=>gC 6 4 rfl rfl rfl rfl (.agg tyA42),trivial⟩ (fun G77=>zU1)⟩,⟨rfl,.run (L:=[0,1,3,7]) ⟨fun G77 A=>eR (C:=cQ) (xs:=[.tmp 93,.tmp 94,.tmp 96,.tmp 97]) (ps:=[.va (eQ v71),.va (eQ v68),.va (eQ v79),.va (eQ 0)]) (zs:=[v71,v68,v79,0]) rfl tyS24 rfl ⟨⟨trivial,rfl⟩,⟨trivial,rfl⟩,⟨trivial,rfl⟩,⟨trivial,rfl⟩,trivial⟩ rfl,fun G77 A=>eR (C:=cQ) (xs:=[.tmp 93,.tmp 94,.tmp 96,.tmp 97]) (ps:=[.va (eQ v71),.va (eQ v68),.va (eQ v79),.va (eQ 0)]) (zs:=[v71,v68,v79,0]) rfl tyS24 rfl ⟨⟨trivial,rfl⟩,⟨trivial,rfl⟩,⟨trivial,rfl⟩,⟨trivial,rfl⟩,trivial⟩ rfl,fun G77 A=>eR (C:=cQ) (xs:=[.tmp 93,.tmp 94,.tmp 96,.tmp 97]) (ps:=[.va (eQ v71),.va (eQ v68),.va (eQ v79),.va (eQ 0)]) (zs:=[v71,v68,v79,0]) rfl tyS24 rfl ⟨⟨trivial,rfl⟩,⟨trivial,rfl⟩,⟨trivial,rfl⟩,⟨trivial,rfl⟩,trivial⟩ rfl,fun G77 A=>eR (C:=cQ) (xs:=[.tmp 93,.tmp 94,.tmp 96,.tmp 97]) (ps:=[.va (eQ v71),.va (eQ v68),.va (eQ v79),.va (eQ 0)]) (zs:=[v71,v68,v79,0]) rfl tyS24 rfl ⟨⟨trivial,rfl⟩,⟨trivial,rfl⟩,⟨trivial,rfl⟩,⟨trivial,rfl⟩,trivial⟩ rfl,trivial⟩ (fun G77=>⟨rfl,rfl,rfl,rfl,trivial⟩)⟩,⟨rfl,.run (L:=[0,1,3,7]) ⟨fun G77 A=>gC 2 4 rfl rfl rfl rfl (.agg tyA42),fun G77 A=>gC 3 4 rfl rfl rfl rfl (.agg tyA42),fun G77 A=>gC 3 4 rfl rfl rfl rfl (.agg tyA42),fun G77 A=>gC 3 4 rfl rfl rfl rfl (.agg tyA42),trivial⟩ (fun G77=>zU1)⟩,⟨rfl,.run (L:=[0,1,3,7]) ⟨fun G77 A=>gC 1 4 rfl rfl rfl rfl (.agg tyA42),fun G77 A=>gC 2 4 rfl rfl rfl rfl (.agg tyA42),fun G77 A=>gC 2 4 rfl rfl rfl rfl (.agg tyA42),fun G77 A=>gC 2 4 rfl rfl rfl rfl (.agg tyA42),trivial⟩ (fun G77=>zU1)⟩,⟨rfl,.run (L:=[0,1]) ⟨fun G77 A=>gC 1 4 rfl rfl rfl rfl (.agg tyA42),fun G77 A=>gC 2 4 rfl rfl rfl rfl (.agg tyA42),trivial⟩ (fun G77=>zU1)⟩,⟨rfl,.run (L:=[0,1]) ⟨fun G77 A=>bE rfl h82 rfl,fun G77 A=>bE rfl h82 rfl,trivial⟩ (fun G77=>zU1)⟩,⟨rfl,.run (L:=[0,1,3,7]) ⟨fun G77 A=>gC 4 4 rfl rfl rfl rfl (.agg tyA42),fun G77 A=>gC 5 4 rfl rfl rfl rfl (.agg tyA42),fun G77 A=>gC 5 4 rfl rfl rfl rfl (.agg tyA42),fun G77 A=>gC 5 4 rfl rfl rfl rfl (.agg tyA42),trivial⟩ (fun G77=>zU1)⟩,⟨rfl,.run (L:=[0,1,3,7]) ⟨fun G77 A=>eR (C:=cQ) (xs:=[.tmp 99,.tmp 100,.tmp 102,.tmp 103]) (ps:=[.va (eQ v68),.va (eQ v71),.va (eQ v81),.va (eQ v56)]) (zs:=[v68,v71,v81,v56]) rfl tyS24 rfl ⟨⟨trivial,rfl⟩,⟨trivial,rfl⟩,⟨trivial,rfl⟩,⟨trivial,rfl⟩,trivial⟩ rfl,fun G77 A=>eR (C:=cQ) (xs:=[.tmp 99,.tmp 100,.tmp 102,.tmp 103]) (ps:=[.va (eQ v68),.va (eQ v71),.va (eQ v81),.va (eQ v56)]) (zs:=[v68,v71,v81,v56]) rfl tyS24 rfl ⟨⟨trivial,rfl⟩,⟨trivial,rfl⟩,⟨trivial,rfl⟩,⟨trivial,rfl⟩,trivial⟩ rfl,fun G77 A=>eR (C:=cQ) (xs:=[.tmp 99,.tmp 100,.tmp 102,.tmp 103]) (ps:=[.va (eQ v68),.va (eQ v71),.va (eQ v81),.va (eQ v56)]) (zs:=[v68,v71,v81,v56]) rfl tyS24 rfl ⟨⟨trivial,rfl⟩,⟨trivial,rfl⟩,⟨trivial,rfl⟩,⟨trivial,rfl⟩,trivial⟩ rfl,fun G77 A=>eR (C:=cQ) (xs:=[.tmp 99,.tmp 100,.tmp 102,.tmp 103]) (ps:=[.va (eQ v68),.va (eQ v71),.va (eQ v81),.va (eQ v56)]) (zs:=[v68,v71,v81,v56]) rfl tyS24 rfl ⟨⟨trivial,rfl⟩,⟨trivial,rfl⟩,⟨trivial,rfl⟩,⟨trivial,rfl⟩,trivial⟩ rfl,trivial⟩ (fun G77=>⟨rfl,rfl,rfl,rfl,trivial⟩)⟩,⟨rfl,.run (L:=[0,1]) ⟨fun G77 A=>gC 2 4 rfl rfl rfl rfl (.agg tyA42),fun G77 A=>gC 3 4 rfl rfl rfl rfl (.agg tyA42),trivial⟩ (fun G77=>zU1)⟩,⟨rfl,.run (L:=[0,1]) ⟨fun G77 A=>bE rfl h84 rfl,fun G77 A=>bE rfl h84 rfl,trivial⟩ (fun G77=>zU1)⟩,⟨rfl,.run (L:=[0,1]) ⟨fun G77 A=>gC 1 4 rfl rfl rfl rfl (.agg tyA42),fun G77 A=>gC 2 4 rfl rfl rfl rfl (.agg tyA42),trivial⟩ (fun G77=>zU1)⟩,⟨rfl,.run (L:=[0,1]) ⟨fun G77 A=>bE rfl h86 rfl,fun G77 A=>bE rfl h86 rfl,trivial⟩ (fun G77=>zU1)⟩,⟨rfl,.run (L:=[0,1,3,7]) ⟨fun G77 A=>gC 1 4 rfl rfl rfl rfl (.agg tyA42),fun G77 A=>gC 2 4 rfl rfl rfl rfl (.agg tyA42),fun G77 A=>gC 2 4 rfl rfl rfl rfl (.agg tyA42),fun G77 A=>gC 2 4 rfl rfl rfl rfl (.agg tyA42),trivial⟩ (fun G77=>zU1)⟩,⟨rfl,.run (L:=[0,1,3,7]) ⟨fun G77 A=>gC 4 4 rfl rfl rfl rfl (.agg tyA42),fun G77 A=>gC 5 4 rfl rfl rfl rfl (.agg tyA42),fun G77 A=>gC 5 4 rfl rfl rfl rfl (.agg tyA42),fun G77 A=>gC 5 4 rfl rfl rfl rfl (.agg tyA42),trivial⟩ (fun G77=>zU1)⟩,⟨rfl,.run (L:=[0,1,3,7]) ⟨fun G77 A=>eR (C:=cQ) (xs:=[.tmp 106,.tmp 108,.tmp 109,.tmp 110]) (ps:=[.va (eQ v83),.va (eQ v85),.va (eQ v71),.va (eQ v56)]) (zs:=[v83,v85,v71,v56]) rfl tyS24 rfl ⟨⟨trivial,rfl⟩,⟨trivial,rfl⟩,⟨trivial,rfl⟩,⟨trivial,rfl⟩,trivial⟩ rfl,fun G77 A=>eR (C:=cQ) (xs:=[.tmp 106,.tmp 108,.tmp 109,.tmp 110]) (ps:=[.va (eQ v83),.va (eQ v85),.va (eQ v71),.va (eQ v56)]) (zs:=[v83,v85,v71,v56]) rfl tyS24 rfl ⟨⟨trivial,rfl⟩,⟨trivial,rfl⟩,⟨trivial,rfl⟩,⟨trivial,rfl⟩,trivial⟩ rfl,fun G77 A=>eR (C:=cQ) (xs:=[.tmp 106,.tmp 108,.tmp 109,.tmp 110]) (ps:=[.va (eQ v83),.va (eQ v85),.va (eQ v71),.va (eQ v56)]) (zs:=[v83,v85,v71,v56]) rfl tyS24 rfl ⟨⟨trivial,rfl⟩,⟨trivial,rfl⟩,⟨trivial,rfl⟩,⟨trivial,rfl⟩,trivial⟩ rfl,fun G77 A=>eR (C:=cQ) (xs:=[.tmp 106,.tmp 108,.tmp 109,.tmp 110]) (ps:=[.va (eQ v83),.va (eQ v85),.va (eQ v71),.va (eQ v56)]) (zs:=[v83,v85,v71,v56]) rfl tyS24 rfl ⟨⟨trivial,rfl⟩,⟨trivial,rfl⟩,⟨trivial,rfl⟩,⟨trivial,rfl⟩,trivial⟩ rfl,trivial⟩ (fun G77=>⟨rfl,rfl,rfl,rfl,trivial⟩)⟩,⟨rfl,.run (L:=[0,1,3,7]) ⟨fun G77 A=>gC 3 4 rfl rfl rfl rfl (.agg tyA42),fun G77 A=>gC 4 4 rfl rfl rfl rfl (.agg tyA42),fun G77 A=>gC 4 4 rfl rfl rfl rfl (.agg tyA42),fun G77 A=>gC 4 4 rfl rfl rfl rfl (.agg tyA42),trivial⟩ (fun G77=>zU1)⟩,⟨rfl,.run (L:=[0,1,3,7]) ⟨fun G77 A=>gC 0 4 rfl rfl rfl rfl (.agg tyA42),fun G77 A=>gC 1 4 rfl rfl rfl rfl (.agg tyA42),fun G77 A=>gC 1 4 rfl rfl rfl rfl (.agg tyA42),fun G77 A=>gC 1 4 rfl rfl rfl rfl (.agg tyA42),trivial⟩ (fun G77=>zU1)⟩,⟨rfl,.run (L:=[0,1,3,7]) ⟨fun G77 A=>gC 0 4 rfl rfl rfl rfl (.agg tyA42),fun G77 A=>gC 1 4 rfl rfl rfl rfl (.agg tyA42),fun G77 A=>gC 1 4 rfl rfl rfl rfl (.agg tyA42),fun G77 A=>gC 1 4 rfl rfl rfl rfl (.agg tyA42),trivial⟩ (fun G77=>zU1)⟩,⟨rfl,.run (L:=[0,1,3,7]) ⟨fun G77 A=>gC 5 4 rfl rfl rfl rfl (.agg tyA42),fun G77 A=>gC 6 4 rfl rfl rfl rfl (.agg tyA42),fun G77 A=>gC 6 4 rfl rfl rfl rfl (.agg tyA42),fun G77 A=>gC 6 4 rfl rfl rfl rfl (.agg tyA42),trivial⟩ (fun G77=>zU1)⟩,⟨rfl,.run (L:=[0,1,3,7]) ⟨fun G77 A=>eR (C:=cQ) (xs:=[.tmp 112,.tmp 113,.tmp 114,.tmp 115]) (ps:=[.va (eQ v61),.va (eQ v74),.va (eQ v74),.va (eQ 0)]) (zs:=[v61,v74,v74,0]) rfl tyS24 rfl ⟨⟨trivial,rfl⟩,⟨trivial,rfl⟩,⟨trivial,rfl⟩,⟨trivial,rfl⟩,trivial⟩ rfl,fun G77 A=>eR (C:=cQ) (xs:=[.tmp 112,.tmp 113,.tmp 114,.tmp 115]) (ps:=[.va (eQ v61),.va (eQ v74),.va (eQ v74),.va (eQ 0)]) (zs:=[v61,v74,v74,0]) rfl tyS24 rfl ⟨⟨trivial,rfl⟩,⟨trivial,rfl⟩,⟨trivial,rfl⟩,⟨trivial,rfl⟩,trivial⟩ rfl,fun G77 A=>eR (C:=cQ) (xs:=[.tmp 112,.tmp 113,.tmp 114,.tmp 115]) (ps:=[.va (eQ v61),.va (eQ v74),.va (eQ v74),.va (eQ 0)]) (zs:=[v61,v74,v74,0]) rfl tyS24 rfl ⟨⟨trivial,rfl⟩,⟨trivial,rfl⟩,⟨trivial,rfl⟩,⟨trivial,rfl⟩,trivial⟩ rfl,fun G77 A=>eR (C:=cQ) (xs:=[.tmp 112,.tmp 113,.tmp 114,.tmp 115]) (ps:=[.va (eQ v61),.va (eQ v74),.va (eQ v74),.va (eQ 0)]) (zs:=[v61,v74,v74,0]) rfl tyS24 rfl ⟨⟨trivial,rfl⟩,⟨trivial,rfl⟩,⟨trivial,rfl⟩,⟨trivial,rfl⟩,trivial⟩ rfl,trivial⟩ (fun G77=>⟨rfl,rfl,rfl,rfl,trivial⟩)⟩,⟨rfl,.run (L:=[0,1,3,7]) ⟨fun G77 A=>eR (C:=(bJ cQ)) (xs:=[.tmp 98,.tmp 104,.tmp 111,.tmp 116]) (ps:=[.vc (pS cQ [v71,v68,v79,0]),.vc (pS cQ [v68,v71,v81,v56]),.vc (pS cQ [v83,v85,v71,v56]),.vc (pS cQ [v61,v74,v74,0])]) (zs:=[[v71,v68,v79,0],[v68,v71,v81,v56],[v83,v85,v71,v56],[v61,v74,v74,0]]) rfl tyS23 rfl ⟨⟨trivial,rfl⟩,⟨trivial,rfl⟩,⟨trivial,rfl⟩,⟨trivial,rfl⟩,trivial⟩ rfl,fun G77 A=>eR (C:=(bJ cQ)) (xs:=[.tmp 98,.tmp 104,.tmp 111,.tmp 116]) (ps:=[.vc (pS cQ [v71,v68,v79,0]),.vc (pS cQ [v68,v71,v81,v56]),.vc (pS cQ [v83,v85,v71,v56]),.vc (pS cQ [v61,v74,v74,0])]) (zs:=[[v71,v68,v79,0],[v68,v71,v81,v56],[v83,v85,v71,v56],[v61,v74,v74,0]]) rfl tyS23 rfl ⟨⟨trivial,rfl⟩,⟨trivial,rfl⟩,⟨trivial,rfl⟩,⟨trivial,rfl⟩,trivial⟩ rfl,fun G77 A=>eR (C:=(bJ cQ)) (xs:=[.tmp 98,.tmp 104,.tmp 111,.tmp 116]) (ps:=[.vc (pS cQ [v71,v68,v79,0]),.vc (pS cQ [v68,v71,v81,v56]),.vc (pS cQ [v83,v85,v71,v56]),.vc (pS cQ [v61,v74,v74,0])]) (zs:=[[v71,v68,v79,0],[v68,v71,v81,v56],[v83,v85,v71,v56],[v61,v74,v74,0]]) rfl tyS23 rfl ⟨⟨trivial,rfl⟩,⟨trivial,rfl⟩,⟨trivial,rfl⟩,⟨trivial,rfl⟩,trivial⟩ rfl,fun G77 A=>eR (C:=(bJ cQ)) (xs:=[.tmp 98,.tmp 104,.tmp 111,.tmp 116]) (ps:=[.vc (pS cQ [v71,v68,v79,0]),.vc (pS cQ [v68,v71,v81,v56]),.vc (pS cQ [v83,v85,v71,v56]),.vc (pS cQ [v61,v74,v74,0])]) (zs:=[[v71,v68,v79,0],[v68,v71,v81,v56],[v83,v85,v71,v56],[v61,v74,v74,0]]) rfl tyS23 rfl ⟨⟨trivial,rfl⟩,⟨trivial,rfl⟩,⟨trivial,rfl⟩,⟨trivial,rfl⟩,trivial⟩ rfl,trivial⟩ (fun G77=>⟨rfl,rfl,rfl,rfl,trivial⟩)⟩,⟨rfl,.hvy (ins:=fun _=>[]) [0] ⟨fun G77 A=>aF4 (C:=cQ) (xs:=[]) (ps:=[]) (zs:=([]:List Rat)) rfl tyS24 rfl trivial rfl,trivial⟩ (fun G77=>trivial)⟩,⟨rfl,.run (L:=[0,1]) ⟨fun G77 A=>aL (.inl rfl),fun G77 A=>aL (.inl rfl),trivial⟩ (fun G77=>zU1)⟩,⟨rfl,.run (L:=[0,1]) ⟨fun G77 A=>aDK rfl tyS24 h90,fun G77 A=>aDK rfl tyS24 h90,trivial⟩ (fun G77=>⟨rfl,qM _ _,trivial⟩)⟩,⟨rfl,.hvy (ins:=fun G77=>[(.tmp 118,.vc (pO ((G77 25).1) 0 0)),(.tmp 120,.vc (pS cQ x89))]) [1] ⟨fun G77 A=>aBc 0 rfl tyS24 rfl rfl rfl h92,trivial⟩ (fun G77=>zU2)⟩,⟨rfl,.run (L:=[0,1,3]) ⟨fun G77 A=>gC 5 4 rfl rfl rfl rfl (.agg tyA42),fun G77 A=>gC 6 4 rfl rfl rfl rfl (.agg tyA42),fun G77 A=>gC 6 4 rfl rfl rfl rfl (.agg tyA42),trivial⟩ (fun G77=>zU1)⟩,⟨rfl,.run (L:=[0,1,3]) ⟨fun G77 A=>eR (C:=cQ) (xs:=[.tmp 122]) (ps:=[.va (eQ 0)]) (zs:=[0]) rfl tyS24 rfl ⟨⟨trivial,rfl⟩,trivial⟩ rfl,fun G77 A=>eR (C:=cQ) (xs:=[.tmp 122]) (ps:=[.va (eQ 0)]) (zs:=[0]) rfl tyS24 rfl ⟨⟨trivial,rfl⟩,trivial⟩ rfl,fun G77 A=>eR (C:=cQ) (xs:=[.tmp 122]) (ps:=[.va (eQ 0)]) (zs:=[0]) rfl tyS24 rfl ⟨⟨trivial,rfl⟩,trivial⟩ rfl,trivial⟩ (fun G77=>zU1)⟩,⟨rfl,.hvy (ins:=fun G77=>[(.tmp 121,.vc (pO ((G77 28).1) (0+x89.length) ((G77 28).2))),(.tmp 123,.vc (pS cQ [0]))]) [3] ⟨fun G77 A=>aBc (n:=(0+x89.length)) 0 rfl tyS24 rfl rfl (bD h92 rfl) h95,trivial⟩ (fun G77=>zU2)⟩,d1 7 (aL (.inr rfl)) zU1,⟨rfl,.hvy [7] ⟨fun G77 A=>aIU ((G77 31).1) ((G77 31).2) (aL (.inr rfl)),trivial⟩ (fun G77=>zU1)⟩,trivial⟩ (fun bs78 G77=>?_)
    refine aT (aJ (dQ (dL (lF 0 [5] rfl (bD h95 (bD h92 rfl)) zU1 rfl ?_))))
    obtain rfl:=eP hF
    exact eE (.inl rfl) Tryz.results10 (.tmp rfl (.tmp rfl .nil)) rfl rfl
   refine eU (aJ (aC (aH (jP (bJ cQ) 24 rfl ?_))))
   refine go ?_ ?_
   refine aG (aP (fun H E=>∃(x119:List (List Rat)),∃(b120:Option Nat),∃(c121:Nat),∃(n122:Nat),mW K x37 x119=some r∧x119.length=n122∧H=[hO (bJ cQ) b120 c121 24 n122 x119,hO cQ b38 c39 42 n40 x37]∧E=[(9,.vc (pO b38 n40 c39)),(19,.vc (pO b120 n122 c121))]) ?_ (fun Jj126=>?_))
   ·rintro _ _ ⟨x119,b120,c121,n122,hF,q123,rfl,rfl⟩
    unfold mW at hF
    refine go ?_ ?_
    refine dQ (dL (lF 0 [4,19,162] rfl q123 ⟨rfl,rfl,rfl,trivial⟩ rfl ?_))
    refine lF 0 [5,9,163] rfl q41 ⟨rfl,rfl,rfl,trivial⟩ rfl ?_
    obtain rfl:=eP hF
    exact eE (.inl rfl) Tryz.results10 (.tmp rfl (.tmp rfl .nil)) rfl rfl
   obtain⟨x119',hL,hRl125⟩:=aM hF
   refine cA (fun k a w=>∃(x112:List (List Rat)),∃(x118:Int),∃(b113:Option Nat),∃(c114:Nat),∃(n115:Nat),cN K v3 v5 x43 k x112 x118=some x119'∧x112.length=n115∧hs _ [hO (bJ cQ) b113 c114 24 n115 x112,hO cQ b38 c39 42 n40 x37,hO (bJ cQ) b44 c45 24 n46 x43] [(6,.vc (pI .i64 v3)),(7,.vc (pI .i64 v5)),(8,.vc (pO b44 n46 c45)),(9,.vc (pO b38 n40 c39)),(19,.vc (pO b113 n115 c114)),(20,.vc (pI .i64 x118))] a w) K (fun a w ⟨_,_,_,_,_,hF,_,_⟩=>by cases hF) (fun k a w ⟨x112,x118,b113,c114,n115,hF,q116,hh⟩=>b0 ?_ hh) (fun a w hh=>⟨([]:List (List Rat)),0,none,0,0,hL,rfl,dI [0,1,2] hh⟩)
   rw [cN.eq_2] at hF
   refine go ?_ ?_
   refine aB hF rfl (fun h127 hF=>?_) (fun h127 hF=>?_)
   ·refine go ?_ ?_
    refine aG (aC (aH (jP cQ 42 rfl ?_)))
    refine go ?_ ?_
    refine aG (aP (fun H E=>∃(x144:List Rat),∃(b145:Option Nat),∃(c146:Nat),∃(n147:Nat),nC K v5 x112 x118 (cN K v3 v5 x43 k) x144=some x119'∧x144.length=n147∧H=[hO cQ b145 c146 42 n147 x144,hO (bJ cQ) b113 c114 24 n115 x112,hO cQ b38 c39 42 n40 x37,hO (bJ cQ) b44 c45 24 n46 x43]∧E=[(6,.vc (pI .i64 v3)),(7,.vc (pI .i64 v5)),(8,.vc (pO b44 n46 c45)),(9,.vc (pO b38 n40 c39)),(19,.vc (pO b113 n115 c114)),(20,.vc (pI .i64 x118)),(21,.vc (pO b145 n147 c146))]) ?_ (fun Jj151=>?_))
    ·rintro _ _ ⟨x144,b145,c146,n147,hF,q148,rfl,rfl⟩
     unfold nC at hF
     refine go ?_ ?_
     refine aB hF rfl (fun h152 hF=>?_) (fun h152 hF=>?_)
     ·obtain⟨v155,h156,hF⟩:=aM hF
      obtain⟨v157,h158,hF⟩:=aW hF dX
      obtain⟨v159,h160,hF⟩:=aW hF oH
      have hF:=tJ h156 hF
      refine dr [0,0,0,0,12,28,0,124,255,511] 9 1 ?_ (fun bs154 G153=>?_)
      obtain⟨x163,h164,hF⟩:=aM hF
      refine mD (yM 0 rfl rfl h156 h164 tyA42.s) zU2 ?_
      refine aT (aJ (aH (dS ?_)))
      refine dS ?_
      refine tV 0 [21,149,151,159] rfl (bC h164 q148) ⟨rfl,rfl,rfl,rfl,trivial⟩ rfl ?_
      refine aI (eR (C:=(bJ cQ)) (xs:=[.tmp 159]) (ps:=[.vc (pS cQ x163)]) (zs:=[x163]) rfl tyS23 rfl ⟨⟨trivial,rfl⟩,trivial⟩ rfl) zU1 ?_
      obtain⟨x166,h167,hF⟩:=aM hF
      refine iK 0 rfl tyS23 rfl rfl q116 rfl rfl h167 (fun b168 c169 H170 e171=>?_)
      cases e171
      obtain⟨v173,h174,hF⟩:=aM hF
      refine go ?_ ?_
      exact aF (fun a w hh=>⟨x166,v173,b168,c169,(n115+[x163].length),hF,(bD h167 q116),dI [0,1,2] hh⟩)
     refine eU (aJ (aH (dS ?_)))
     refine dS ?_
     refine tV 0 [21,159] rfl q148 zU2 rfl ?_
     refine aI (eR (C:=(bJ cQ)) (xs:=[.tmp 159]) (ps:=[.vc (pS cQ x144)]) (zs:=[x144]) rfl tyS23 rfl ⟨⟨trivial,rfl⟩,trivial⟩ rfl) zU1 ?_
     obtain⟨x175,h176,hF⟩:=aM hF
     refine iK 0 rfl tyS23 rfl rfl q116 rfl rfl h176 (fun b177 c178 H179 e180=>?_)
     cases e180
     obtain⟨v182,h183,hF⟩:=aM hF
     refine go ?_ ?_
     exact aF (fun a w hh=>⟨x175,v182,b177,c178,(n115+[x144].length),hF,(bD h176 q116),dI [0,1,2] hh⟩)
    obtain⟨x144',hL,hRl150⟩:=aM hF
    refine cA (fun k a w=>∃(x137:List Rat),∃(x143:Int),∃(b138:Option Nat),∃(c139:Nat),∃(n140:Nat),fC K v3 x43 x118 k x137 x143=some x144'∧x137.length=n140∧hs _ [hO cQ b138 c139 42 n140 x137,hO (bJ cQ) b113 c114 24 n115 x112,hO cQ b38 c39 42 n40 x37,hO (bJ cQ) b44 c45 24 n46 x43] [(6,.vc (pI .i64 v3)),(7,.vc (pI .i64 v5)),(8,.vc (pO b44 n46 c45)),(9,.vc (pO b38 n40 c39)),(19,.vc (pO b113 n115 c114)),(20,.vc (pI .i64 x118)),(21,.vc (pO b138 n140 c139)),(22,.vc (pI .i64 x143))] a w) K (fun a w ⟨_,_,_,_,_,hF,_,_⟩=>by cases hF) (fun k a w ⟨x137,x143,b138,c139,n140,hF,q141,hh⟩=>b0 ?_ hh) (fun a w hh=>⟨([]:List Rat),0,none,0,0,hL,rfl,dI [0,1,2,3] hh⟩)
    rw [fC.eq_2] at hF
    refine go ?_ ?_
    refine aB hF rfl (fun h184 hF=>?_) (fun h184 hF=>?_)
    ·refine go ?_ ?_
     refine aG ?_
     obtain⟨v187,h188,hF⟩:=aM hF
     obtain⟨v189,h190,hF⟩:=aM hF
     obtain⟨v191,h192,hF⟩:=aW hF xN
     refine iQ [0,0,0,6,14,0,0,96,224,510,1022,2047,4095] 11 2 [.v (.vc (pO b138 n140 c139)),.v (.vc (pO b44 n46 c45)),.v (.vc (pI .i64 x118)),.v (.vc (pE b44 x118 (bJ cQ).n 0)),.v (.vc (pS cQ v187)),.v (.vc (pO b44 n46 c45)),.v (.vc (pI .i64 x143)),.v (.vc (pE b44 x143 (bJ cQ).n 0)),.v (.vc (pS cQ v189)),.v (.va (eQ v191)),.v (.vc (pS cQ [v191]))] aU ⟨d0 (aL (.inl rfl)) zU1,d0 (aL (.inl rfl)) zU1,d0 (aL (.inl rfl)) zU1,d0 (cY (C:=(bJ cQ)) 3 rfl tyS23 rfl q47 (aD h188).1 (aD h188).2.1) zU2,d0 (iD (k:=1) 3 rfl rfl h188 rfl (.one tyO24) rfl) zU1,d0 (aL (.inl rfl)) zU1,d0 (aL (.inl rfl)) zU1,d0 (cY (C:=(bJ cQ)) 3 rfl tyS23 rfl q47 (aD h190).1 (aD h190).2.1) zU2,d0 (iD (k:=1) 3 rfl rfl h190 rfl (.one tyO24) rfl) zU1,d0 (bE rfl h192 rfl) zU2,d0 (eR (C:=cQ) (xs:=[.tmp 144]) (ps:=[.va (eQ v191)]) (zs:=[v191]) rfl tyS24 rfl ⟨⟨trivial,rfl⟩,trivial⟩ rfl) zU1,trivial⟩ (fun bs186 G185=>?_)
     obtain⟨x193,h194,hF⟩:=aM hF
     refine iK 0 rfl tyS24 rfl rfl q141 rfl rfl h194 (fun b195 c196 H197 e198=>?_)
     cases e198
     obtain⟨v200,h201,hF⟩:=aM hF
     refine go ?_ ?_
     exact aF (fun a w hh=>⟨x193,v200,b195,c196,(n140+[v191].length),hF,(bD h194 q141),dI [0,1,2,3] hh⟩)
    refine aV ?_
    obtain rfl:=eP hF
    exact nK Jj151 ⟨x137,b138,c139,n140,hRl150,q141,rfl,rfl⟩ [0,1,2,3]
   refine aV ?_
   obtain rfl:=eP hF
   exact nK Jj126 ⟨x112,b113,c114,n115,hRl125,q116,rfl,rfl⟩ [0,1]
  refine go ?_ ?_
  refine wX rfl ?_
  refine eU (aJ (aC (aH (jP (bJ cQ) 24 rfl ?_))))
  refine go ?_ ?_
  refine aG (aP (fun H E=>∃(x218:List (List Rat)),∃(b219:Option Nat),∃(c220:Nat),∃(n221:Nat),nH K x37 x218=some r∧x218.length=n221∧H=[hO (bJ cQ) b219 c220 24 n221 x218,hO cQ b38 c39 42 n40 x37]∧E=[(9,.vc (pO b38 n40 c39)),(19,.vc (pO b219 n221 c220))]) ?_ (fun Jj225=>?_))
  ·rintro _ _ ⟨x218,b219,c220,n221,hF,q222,rfl,rfl⟩
   unfold nH at hF
   refine go ?_ ?_
   refine dQ (dL (lF 0 [4,19,162] rfl q222 ⟨rfl,rfl,rfl,trivial⟩ rfl ?_))
   refine lF 0 [5,9,163] rfl q41 ⟨rfl,rfl,rfl,trivial⟩ rfl ?_
   obtain rfl:=eP hF
   exact eE (.inl rfl) Tryz.results10 (.tmp rfl (.tmp rfl .nil)) rfl rfl
  obtain⟨x218',hL,hRl224⟩:=aM hF
  refine cA (fun k a w=>∃(x211:List (List Rat)),∃(x217:Int),∃(b212:Option Nat),∃(c213:Nat),∃(n214:Nat),cO K v3 v5 x43 k x211 x217=some x218'∧x211.length=n214∧hs _ [hO (bJ cQ) b212 c213 24 n214 x211,hO cQ b38 c39 42 n40 x37,hO (bJ cQ) b44 c45 24 n46 x43] [(6,.vc (pI .i64 v3)),(7,.vc (pI .i64 v5)),(8,.vc (pO b44 n46 c45)),(9,.vc (pO b38 n40 c39)),(19,.vc (pO b212 n214 c213)),(20,.vc (pI .i64 x217))] a w) K (fun a w ⟨_,_,_,_,_,hF,_,_⟩=>by cases hF) (fun k a w ⟨x211,x217,b212,c213,n214,hF,q215,hh⟩=>b0 ?_ hh) (fun a w hh=>⟨([]:List (List Rat)),0,none,0,0,hL,rfl,dI [0,1,2] hh⟩)
  rw [cO.eq_2] at hF
  refine go ?_ ?_
  refine aB hF rfl (fun h226 hF=>?_) (fun h226 hF=>?_)
  ·refine go ?_ ?_
   refine aG (aC (aH (jP cQ 42 rfl ?_)))
   refine go ?_ ?_
   refine aG (aP (fun H E=>∃(x243:List Rat),∃(b244:Option Nat),∃(c245:Nat),∃(n246:Nat),mT K v5 x211 x217 (cO K v3 v5 x43 k) x243=some x218'∧x243.length=n246∧H=[hO cQ b244 c245 42 n246 x243,hO (bJ cQ) b212 c213 24 n214 x211,hO cQ b38 c39 42 n40 x37,hO (bJ cQ) b44 c45 24 n46 x43]∧E=[(6,.vc (pI .i64 v3)),(7,.vc (pI .i64 v5)),(8,.vc (pO b44 n46 c45)),(9,.vc (pO b38 n40 c39)),(19,.vc (pO b212 n214 c213)),(20,.vc (pI .i64 x217)),(21,.vc (pO b244 n246 c245))]) ?_ (fun Jj250=>?_))
   ·rintro _ _ ⟨x243,b244,c245,n246,hF,q247,rfl,rfl⟩
    unfold mT at hF
    refine go ?_ ?_
    refine aB hF rfl (fun h251 hF=>?_) (fun h251 hF=>?_)
    ·obtain⟨v254,h255,hF⟩:=aM hF
     obtain⟨v256,h257,hF⟩:=aW hF dX
     obtain⟨v258,h259,hF⟩:=aW hF oH
     have hF:=tJ h255 hF
     refine dr [0,0,0,0,12,28,0,124,255,511] 9 1 ?_ (fun bs253 G252=>?_)
     obtain⟨x262,h263,hF⟩:=aM hF
     refine mD (yM 0 rfl rfl h255 h263 tyA42.s) zU2 ?_
     refine aT (aJ (aH (dS ?_)))
     refine dS ?_
     refine tV 0 [21,149,151,159] rfl (bC h263 q247) ⟨rfl,rfl,rfl,rfl,trivial⟩ rfl ?_
     refine aI (eR (C:=(bJ cQ)) (xs:=[.tmp 159]) (ps:=[.vc (pS cQ x262)]) (zs:=[x262]) rfl tyS23 rfl ⟨⟨trivial,rfl⟩,trivial⟩ rfl) zU1 ?_
     obtain⟨x265,h266,hF⟩:=aM hF
     refine iK 0 rfl tyS23 rfl rfl q215 rfl rfl h266 (fun b267 c268 H269 e270=>?_)
     cases e270
     obtain⟨v272,h273,hF⟩:=aM hF
     refine go ?_ ?_
     exact aF (fun a w hh=>⟨x265,v272,b267,c268,(n214+[x262].length),hF,(bD h266 q215),dI [0,1,2] hh⟩)
    refine eU (aJ (aH (dS ?_)))
    refine dS ?_
    refine tV 0 [21,159] rfl q247 zU2 rfl ?_
    refine aI (eR (C:=(bJ cQ)) (xs:=[.tmp 159]) (ps:=[.vc (pS cQ x243)]) (zs:=[x243]) rfl tyS23 rfl ⟨⟨trivial,rfl⟩,trivial⟩ rfl) zU1 ?_
    obtain⟨x274,h275,hF⟩:=aM hF
    refine iK 0 rfl tyS23 rfl rfl q215 rfl rfl h275 (fun b276 c277 H278 e279=>?_)
    cases e279
    obtain⟨v281,h282,hF⟩:=aM hF
    refine go ?_ ?_
    exact aF (fun a w hh=>⟨x274,v281,b276,c277,(n214+[x243].length),hF,(bD h275 q215),dI [0,1,2] hh⟩)
   obtain⟨x243',hL,hRl249⟩:=aM hF
   refine cA (fun k a w=>∃(x236:List Rat),∃(x242:Int),∃(b237:Option Nat),∃(c238:Nat),∃(n239:Nat),fA K v3 x43 x217 k x236 x242=some x243'∧x236.length=n239∧hs _ [hO cQ b237 c238 42 n239 x236,hO (bJ cQ) b212 c213 24 n214 x211,hO cQ b38 c39 42 n40 x37,hO (bJ cQ) b44 c45 24 n46 x43] [(6,.vc (pI .i64 v3)),(7,.vc (pI .i64 v5)),(8,.vc (pO b44 n46 c45)),(9,.vc (pO b38 n40 c39)),(19,.vc (pO b212 n214 c213)),(20,.vc (pI .i64 x217)),(21,.vc (pO b237 n239 c238)),(22,.vc (pI .i64 x242))] a w) K (fun a w ⟨_,_,_,_,_,hF,_,_⟩=>by cases hF) (fun k a w ⟨x236,x242,b237,c238,n239,hF,q240,hh⟩=>b0 ?_ hh) (fun a w hh=>⟨([]:List Rat),0,none,0,0,hL,rfl,dI [0,1,2,3] hh⟩)
   rw [fA.eq_2] at hF
   refine go ?_ ?_
   refine aB hF rfl (fun h283 hF=>?_) (fun h283 hF=>?_)
   ·refine go ?_ ?_
    refine aG ?_
    obtain⟨v286,h287,hF⟩:=aM hF
    obtain⟨v288,h289,hF⟩:=aM hF
    obtain⟨v290,h291,hF⟩:=aW hF xN
    refine iQ [0,0,0,6,14,0,0,96,224,510,1022,2047,4095] 11 2 [.v (.vc (pO b237 n239 c238)),.v (.vc (pO b44 n46 c45)),.v (.vc (pI .i64 x217)),.v (.vc (pE b44 x217 (bJ cQ).n 0)),.v (.vc (pS cQ v286)),.v (.vc (pO b44 n46 c45)),.v (.vc (pI .i64 x242)),.v (.vc (pE b44 x242 (bJ cQ).n 0)),.v (.vc (pS cQ v288)),.v (.va (eQ v290)),.v (.vc (pS cQ [v290]))] aU ⟨d0 (aL (.inl rfl)) zU1,d0 (aL (.inl rfl)) zU1,d0 (aL (.inl rfl)) zU1,d0 (cY (C:=(bJ cQ)) 3 rfl tyS23 rfl q47 (aD h287).1 (aD h287).2.1) zU2,d0 (iD (k:=1) 3 rfl rfl h287 rfl (.one tyO24) rfl) zU1,d0 (aL (.inl rfl)) zU1,d0 (aL (.inl rfl)) zU1,d0 (cY (C:=(bJ cQ)) 3 rfl tyS23 rfl q47 (aD h289).1 (aD h289).2.1) zU2,d0 (iD (k:=1) 3 rfl rfl h289 rfl (.one tyO24) rfl) zU1,d0 (bE rfl h291 rfl) zU2,d0 (eR (C:=cQ) (xs:=[.tmp 144]) (ps:=[.va (eQ v290)]) (zs:=[v290]) rfl tyS24 rfl ⟨⟨trivial,rfl⟩,trivial⟩ rfl) zU1,trivial⟩ (fun bs285 G284=>?_)
    obtain⟨x292,h293,hF⟩:=aM hF
    refine iK 0 rfl tyS24 rfl rfl q240 rfl rfl h293 (fun b294 c295 H296 e297=>?_)
    cases e297
    obtain⟨v299,h300,hF⟩:=aM hF
    refine go ?_ ?_
    exact aF (fun a w hh=>⟨x292,v299,b294,c295,(n239+[v290].length),hF,(bD h293 q240),dI [0,1,2,3] hh⟩)
   refine aV ?_
   obtain rfl:=eP hF
   exact nK Jj250 ⟨x236,b237,c238,n239,hRl249,q240,rfl,rfl⟩ [0,1,2,3]
  refine aV ?_
  obtain rfl:=eP hF
  exact nK Jj225 ⟨x211,b212,c213,n214,hRl224,q215,rfl,rfl⟩ [0,1]
 obtain⟨⟨x37',x43'⟩,hL,hRl49⟩:=aM hF
 refine cA (fun k a w=>∃(x24:List Rat),∃(x30:List (List Rat)),∃(x36:Int),∃(b25:Option Nat),∃(c26:Nat),∃(n27:Nat),∃(b31:Option Nat),∃(c32:Nat),∃(n33:Nat),d9 K a0 v3 k x24 x30 x36=some (x37',x43')∧x24.length=n27∧x30.length=n33∧hs _ [hO cQ b25 c26 42 n27 x24,hO (bJ cQ) b31 c32 24 n33 x30] [(0,.vc (pS cI a0)),(6,.vc (pI .i64 v3)),(7,.vc (pI .i64 v5)),(8,.vc (pO b31 n33 c32)),(9,.vc (pO b25 n27 c26)),(10,.vc (pI .i64 x36))] a w) K (fun a w ⟨_,_,_,_,_,_,_,_,_,hF,_,_,_⟩=>by cases hF) (fun k a w ⟨x24,x30,x36,b25,c26,n27,b31,c32,n33,hF,q28,q34,hh⟩=>b0 ?_ hh) (fun a w hh=>⟨([]:List Rat),([]:List (List Rat)),0,none,0,0,none,0,0,hL,rfl,rfl,dI [0,1] hh⟩)
 rw [d9.eq_2] at hF
 refine go ?_ ?_
 refine aB hF rfl (fun h301 hF=>?_) (fun h301 hF=>?_)
 ·refine go ?_ ?_
  refine aG (aC (aH (jP cQ 42 rfl ?_)))
  refine go ?_ ?_
  refine aG (aP (fun H E=>∃(x318:List Rat),∃(b319:Option Nat),∃(c320:Nat),∃(n321:Nat),mV K a0 x24 x30 x36 (d9 K a0 v3 k) x318=some (x37',x43')∧x318.length=n321∧H=[hO cQ b319 c320 42 n321 x318,hO cQ b25 c26 42 n27 x24,hO (bJ cQ) b31 c32 24 n33 x30]∧E=[(0,.vc (pS cI a0)),(6,.vc (pI .i64 v3)),(7,.vc (pI .i64 v5)),(8,.vc (pO b31 n33 c32)),(9,.vc (pO b25 n27 c26)),(10,.vc (pI .i64 x36)),(11,.vc (pO b319 n321 c320))]) ?_ (fun Jj325=>?_))
  ·rintro _ _ ⟨x318,b319,c320,n321,hF,q322,rfl,rfl⟩
   unfold mV at hF
   refine aJ (aC (aH (dS ?_)))
   refine dS ?_
   refine tV 0 [11,51] rfl q322 zU2 rfl ?_
   refine aI (eR (C:=(bJ cQ)) (xs:=[.tmp 51]) (ps:=[.vc (pS cQ x318)]) (zs:=[x318]) rfl tyS23 rfl ⟨⟨trivial,rfl⟩,trivial⟩ rfl) zU1 ?_
   obtain⟨x326,h327,hF⟩:=aM hF
   refine iK 1 rfl tyS23 rfl rfl q34 rfl rfl h327 (fun b328 c329 H330 e331=>?_)
   cases e331
   obtain⟨v333,h334,hF⟩:=aM hF
   obtain⟨v335,h336,hF⟩:=aW hF nB
   obtain⟨v337,h338,v339,h340,hF⟩:=tW hF
   obtain⟨v341,h342,hF⟩:=aW hF nB
   obtain⟨v343,h344,hF⟩:=aM hF
   obtain⟨v345,h346,hF⟩:=aW hF dX
   refine go ?_ ?_
   refine aI (eR (C:=cQ) (xs:=[.tmp 65]) (ps:=[.va (eQ v345)]) (zs:=[v345]) rfl tyS24 rfl ⟨⟨trivial,rfl⟩,trivial⟩ rfl) zU1 ?_
   obtain⟨x347,h348,hF⟩:=aM hF
   refine iK 0 rfl tyS24 rfl rfl q28 rfl rfl h348 (fun b349 c350 H351 e352=>?_)
   cases e352
   obtain⟨v354,h355,hF⟩:=aM hF
   refine go ?_ ?_
   exact aF (fun a w hh=>⟨x347,x326,v354,b349,c350,(n27+[v345].length),b328,c329,(n33+[x318].length),hF,(bD h348 q28),(bD h327 q34),dI [0,1] hh⟩)
  obtain⟨x318',hL,hRl324⟩:=aM hF
  refine cA (fun k a w=>∃(x311:List Rat),∃(x317:Int),∃(b312:Option Nat),∃(c313:Nat),∃(n314:Nat),fH K a0 v3 x36 k x311 x317=some x318'∧x311.length=n314∧hs _ [hO cQ b312 c313 42 n314 x311,hO cQ b25 c26 42 n27 x24,hO (bJ cQ) b31 c32 24 n33 x30] [(0,.vc (pS cI a0)),(6,.vc (pI .i64 v3)),(7,.vc (pI .i64 v5)),(8,.vc (pO b31 n33 c32)),(9,.vc (pO b25 n27 c26)),(10,.vc (pI .i64 x36)),(11,.vc (pO b312 n314 c313)),(12,.vc (pI .i64 x317))] a w) K (fun a w ⟨_,_,_,_,_,hF,_,_⟩=>by cases hF) (fun k a w ⟨x311,x317,b312,c313,n314,hF,q315,hh⟩=>b0 ?_ hh) (fun a w hh=>⟨([]:List Rat),0,none,0,0,hL,rfl,dI [0,1,2] hh⟩)
  rw [fH.eq_2] at hF
  refine go ?_ ?_
  refine aB hF rfl (fun h356 hF=>?_) (fun h356 hF=>?_)
  ·refine go ?_ ?_
   refine aG ?_
   obtain⟨v357,h358,v359,h360,v361,h362,hF⟩:=bn3 hF
   obtain⟨v363,h364,hF⟩:=aW hF nB
   obtain⟨v365,h366,hF⟩:=aW hF aCf
   refine go ?_ ?_
   refine aI (eR (C:=cQ) (xs:=[.tmp 47]) (ps:=[.va (eQ v365)]) (zs:=[v365]) rfl tyS24 rfl ⟨⟨trivial,rfl⟩,trivial⟩ rfl) zU1 ?_
   obtain⟨x367,h368,hF⟩:=aM hF
   refine iK 0 rfl tyS24 rfl rfl q315 rfl rfl h368 (fun b369 c370 H371 e372=>?_)
   cases e372
   obtain⟨v374,h375,hF⟩:=aM hF
   refine go ?_ ?_
   exact aF (fun a w hh=>⟨x367,v374,b369,c370,(n314+[v365].length),hF,(bD h368 q315),dI [0,1,2] hh⟩)
  refine aV ?_
  obtain rfl:=eP hF
  exact nK Jj325 ⟨x311,b312,c313,n314,hRl324,q315,rfl,rfl⟩ [0,1,2]
 refine aV ?_
 obtain⟨rfl,rfl⟩:=sm2 hF
 exact nK Jj50 ⟨x24,x30,b25,c26,n27,b31,c32,n33,hRl49,q28,q34,rfl,rfl⟩ [0,1]
def s6 (K:Nat):Option Bool:=
 some true
def kL (K:Nat) (a0:List Rat):Nat→Int→Option (LR Bool Unit)
 |0,_=>none
 |k+1,x2=>bif(decide (x2<(a0.length:Int))) then((bF a0 x2).bind fun v6=>(aMF v6).bind fun v9=>bif(!v9) then(some (.ret false)) else((aS (x2+1)).bind fun v12=>kL K a0 k v12)) else(some (.go ()))
def lC (K:Nat) (a0:List Rat):Option Bool:=
 (kL K a0 K 0).bind fun o=>match o with| .ret r=>some r| .go _=>s6 K
theorem uT {K:Nat} {a0:List Rat} {r:Bool} (hF:lC K a0=some r):Ct Tryz.prog 56 [.vc (pS cQ a0)] (.vc (pB r)):=by
 unfold lC at hF
 refine aA Tryz.func56 rfl (by kernel_rfl) Tryz.ntmps56 rfl (fun w0 M0=>?_)
 refine go ?_ ?_
 refine aG (aP (fun H E=>s6 K=some r∧H=[]∧E=[]) ?_ (fun Jj4=>?_))
 ·rintro _ _ ⟨hF,rfl,rfl⟩
  unfold s6 at hF
  exact bI
 obtain⟨ol3,hL,hRl3⟩:=aM hF
 refine cA (fun k a w=>∃(x2:Int),kL K a0 k x2=some ol3∧hs _ [] [(5,.vc (pS cQ a0)),(6,.vc (pI .i64 (a0.length:Int))),(7,.vc (pI .i64 x2))] a w) K (fun a w ⟨_,hF,_⟩=>by cases hF) (fun k a w ⟨x2,hF,hh⟩=>b0 ?_ hh) (fun a w hh=>⟨0,hL,dI [] hh⟩)
 rw [kL.eq_2] at hF
 refine go ?_ ?_
 refine aB hF rfl (fun h5 hF=>?_) (fun h5 hF=>?_)
 ·refine go ?_ ?_
  refine aG ?_
  obtain⟨v6,h7,hF⟩:=aM hF
  refine go ?_ ?_
  refine aN rfl tyZ42q (fun b8=>?_)
  obtain⟨v9,h10,hF⟩:=aW hF aIz
  refine go ?_ ?_
  refine aB hF rfl (fun h11 hF=>?_) (fun h11 hF=>?_)
  ·exact bI
  obtain⟨v12,h13,hF⟩:=aM hF
  refine go ?_ ?_
  exact aF (fun a w hh=>⟨v12,hF,dI [] hh⟩)
 refine aV ?_
 obtain rfl:=eP hF
 exact nK Jj4 ⟨hRl3,rfl,rfl⟩ []
def r7 (K:Nat):Option Bool:=
 some true
def d8 (K:Nat) (a0:List (List Rat)) (a1:List Rat):Nat→Int→Option (LR Bool Unit)
 |0,_=>none
 |k+1,x7=>bif(decide (x7<(a0.length:Int))) then((bF a0 x7).bind fun v11=>bif((v11.length:Int) != (a1.length:Int)) then(some (.ret false)) else((lC K v11).bind fun v14=>bif(!v14) then(some (.ret false)) else((aS (x7+1)).bind fun v17=>d8 K a0 a1 k v17))) else(some (.go ()))
def dC (K:Nat) (a0:List (List Rat)) (a1:List Rat):Option Bool:=
 bif((a0.length:Int) != (a1.length:Int)) then(some false) else(bif(decide (32<(a0.length:Int))) then(some false) else((lC K a1).bind fun v3=>bif(!v3) then(some false) else((d8 K a0 a1 K 0).bind fun o=>match o with| .ret r=>some r| .go _=>r7 K)))
theorem qP {K:Nat} {a0:List (List Rat)} {a1:List Rat} {r:Bool} (hF:dC K a0 a1=some r):Ct Tryz.prog 43 [.vc (pS (bJ cQ) a0),.vc (pS cQ a1)] (.vc (pB r)):=by
 unfold dC at hF
 refine aA Tryz.func43 rfl (by kernel_rfl) Tryz.ntmps43 rfl (fun w0 M0=>?_)
 refine go ?_ ?_
 refine cC hF (fun h1 hF=>?_) (fun h1 hF=>?_)
 ·refine go ?_ ?_
  refine fV rfl ?_
  exact bI
 refine go ?_ ?_
 refine cC hF (fun h2 hF=>?_) (fun h2 hF=>?_)
 ·refine go ?_ ?_
  refine fV rfl ?_
  exact bI
 obtain⟨v3,h4,hF⟩:=aW hF uT
 refine go ?_ ?_
 refine aB hF rfl (fun h5 hF=>?_) (fun h5 hF=>?_)
 ·exact bI
 refine go ?_ ?_
 refine aG (aP (fun H E=>r7 K=some r∧H=[]∧E=[]) ?_ (fun Jj9=>?_))
 ·rintro _ _ ⟨hF,rfl,rfl⟩
  unfold r7 at hF
  exact bI
 obtain⟨ol8,hL,hRl8⟩:=aM hF
 refine cA (fun k a w=>∃(x7:Int),d8 K a0 a1 k x7=some ol8∧hs _ [] [(1,.vc (pS cQ a1)),(22,.vc (pS (bJ cQ) a0)),(23,.vc (pI .i64 (a0.length:Int))),(24,.vc (pI .i64 x7))] a w) K (fun a w ⟨_,hF,_⟩=>by cases hF) (fun k a w ⟨x7,hF,hh⟩=>b0 ?_ hh) (fun a w hh=>⟨0,hL,dI [] hh⟩)
 rw [d8.eq_2] at hF
 refine go ?_ ?_
 refine aB hF rfl (fun h10 hF=>?_) (fun h10 hF=>?_)
 ·refine go ?_ ?_
  refine aG ?_
  obtain⟨v11,h12,hF⟩:=aM hF
  refine go ?_ ?_
  refine cC hF (fun h13 hF=>?_) (fun h13 hF=>?_)
  ·refine go ?_ ?_
   refine fV rfl ?_
   exact bI
  obtain⟨v14,h15,hF⟩:=aW hF uT
  refine go ?_ ?_
  refine aB hF rfl (fun h16 hF=>?_) (fun h16 hF=>?_)
  ·exact bI
  obtain⟨v17,h18,hF⟩:=aM hF
  refine go ?_ ?_
  exact aF (fun a w hh=>⟨v17,hF,dI [] hh⟩)
 refine aV ?_
 obtain rfl:=eP hF
 exact nK Jj9 ⟨hRl8,rfl,rfl⟩ []
def oU (K:Nat):Option Bool:=
 some false
def gR (K:Nat) (a0:List Rat):Nat→Int→Option (LR Bool Unit)
 |0,_=>none
 |k+1,x2=>bif(decide (x2<(a0.length:Int))) then((bF a0 x2).bind fun v6=>(xD v6).bind fun v9=>bif(decide (v9<0)) then(some (.ret true)) else((aS (x2+1)).bind fun v12=>gR K a0 k v12)) else(some (.go ()))
def gX (K:Nat) (a0:List Rat):Option Bool:=
 (gR K a0 K 0).bind fun o=>match o with| .ret r=>some r| .go _=>oU K
theorem qZ {K:Nat} {a0:List Rat} {r:Bool} (hF:gX K a0=some r):Ct Tryz.prog 45 [.vc (pS cQ a0)] (.vc (pB r)):=by
 unfold gX at hF
 refine aA Tryz.func45 rfl (by kernel_rfl) Tryz.ntmps45 rfl (fun w0 M0=>?_)
 refine go ?_ ?_
 refine aG (aP (fun H E=>oU K=some r∧H=[]∧E=[]) ?_ (fun Jj4=>?_))
 ·rintro _ _ ⟨hF,rfl,rfl⟩
  unfold oU at hF
  exact bI
 obtain⟨ol3,hL,hRl3⟩:=aM hF
 refine cA (fun k a w=>∃(x2:Int),gR K a0 k x2=some ol3∧hs _ [] [(5,.vc (pS cQ a0)),(6,.vc (pI .i64 (a0.length:Int))),(7,.vc (pI .i64 x2))] a w) K (fun a w ⟨_,hF,_⟩=>by cases hF) (fun k a w ⟨x2,hF,hh⟩=>b0 ?_ hh) (fun a w hh=>⟨0,hL,dI [] hh⟩)
 rw [gR.eq_2] at hF
 refine go ?_ ?_
 refine aB hF rfl (fun h5 hF=>?_) (fun h5 hF=>?_)
 ·refine go ?_ ?_
  refine aG ?_
  obtain⟨v6,h7,hF⟩:=aM hF
  refine go ?_ ?_
  refine aN rfl tyZ42q (fun b8=>?_)
  obtain⟨v9,h10,hF⟩:=aW hF eS
  refine go ?_ ?_
  refine aB hF rfl (fun h11 hF=>?_) (fun h11 hF=>?_)
  ·exact bI
  obtain⟨v12,h13,hF⟩:=aM hF
  refine go ?_ ?_
  exact aF (fun a w hh=>⟨v12,hF,dI [] hh⟩)
 refine aV ?_
 obtain rfl:=eP hF
 exact nK Jj4 ⟨hRl3,rfl,rfl⟩ []
def aAr (K:Nat) (x7:Rat):Option Rat:=
 some x7
def vH (K:Nat) (a0:List Rat):Nat→Rat→Int→Option Rat
 |0,_,_=>none
 |k+1,x5,x6=>bif(decide (x6<(a0.length:Int))) then((bF a0 x6).bind fun v11=>(aFc x5 v11).bind fun v14=>(aS (x6+1)).bind fun v16=>vH K a0 k v14 v16) else(some x5)
def aC5 (K:Nat) (a0:List Rat):Option Rat:=
 (vH K a0 K 0 0).bind fun x7=>aAr K x7
theorem aKl {K:Nat} {a0:List Rat} {r:Rat} (hF:aC5 K a0=some r):Ct Tryz.prog 126 [.vc (pS cQ a0)] (.va (eQ r)):=by
 unfold aC5 at hF
 refine aA Tryz.func126 rfl (by kernel_rfl) Tryz.ntmps126 rfl (fun w0 M0=>?_)
 refine aC (aH (aN rfl tyZ42q (fun b1=>?_)))
 refine go ?_ ?_
 refine aN rfl tyZ42q (fun b2=>?_)
 refine go ?_ ?_
 refine aG (aP (fun H E=>∃(x7:Rat),aAr K x7=some r∧H=[⟨some b2,1,42,4,1,(eQ x7)⟩,⟨some b1,1,42,4,1,(eQ 0)⟩]∧E=[(2,.vc (pP (some b1) 0)),(3,.vc (pP (some b2) 0))]) ?_ (fun Jj9=>?_))
 ·rintro _ _ ⟨x7,hF,rfl,rfl⟩
  unfold aAr at hF
  exact bI
 obtain⟨x7',hL,hRl8⟩:=aM hF
 refine cA (fun k a w=>∃(x5:Rat),∃(x6:Int),vH K a0 k x5 x6=some x7'∧hs _ [⟨some b2,1,42,4,1,(eQ x5)⟩,⟨some b1,1,42,4,1,(eQ 0)⟩] [(2,.vc (pP (some b1) 0)),(3,.vc (pP (some b2) 0)),(6,.vc (pS cQ a0)),(7,.vc (pI .i64 (a0.length:Int))),(8,.vc (pI .i64 x6))] a w) K (fun a w ⟨_,_,hF,_⟩=>by cases hF) (fun k a w ⟨x5,x6,hF,hh⟩=>b0 ?_ hh) (fun a w hh=>⟨0,0,hL,dI [0,1] hh⟩)
 rw [vH.eq_2] at hF
 refine go ?_ ?_
 refine aB hF rfl (fun h10 hF=>?_) (fun h10 hF=>?_)
 ·refine go ?_ ?_
  refine aG ?_
  obtain⟨v11,h12,hF⟩:=aM hF
  refine go ?_ ?_
  refine aN rfl tyZ42q (fun b13=>?_)
  obtain⟨v14,h15,hF⟩:=aW hF aDL
  obtain⟨v16,h17,hF⟩:=aM hF
  refine go ?_ ?_
  exact aF (fun a w hh=>⟨v14,v16,hF,dI [1,2] hh⟩)
 refine aV ?_
 obtain rfl:=eP hF
 exact nK Jj9 ⟨x5,hRl8,rfl,rfl⟩ [0,1]
def zJ (K:Nat) (x18:List Rat):Option Rat:=
 (aC5 K x18).bind fun v26=>some v26
def tQ (K:Nat) (a0:List Rat) (a1:List Rat):Nat→(List Rat)→Int→Option (List Rat)
 |0,_,_=>none
 |k+1,x11,x17=>bif(decide (x17<(min (a0.length:Int) (a1.length:Int)))) then((bF a0 x17).bind fun v31=>(bF a1 x17).bind fun v33=>(aEr v31 v33).bind fun v35=>(oG x11 [v35]).bind fun x37=>(aS (x17+1)).bind fun v44=>tQ K a0 a1 k x37 v44) else(some x11)
def zI (K:Nat) (a0:List Rat) (a1:List Rat):Option Rat:=
 (tQ K a0 a1 K ([]:List Rat) 0).bind fun x18=>zJ K x18
theorem aDT {K:Nat} {a0:List Rat} {a1:List Rat} {r:Rat} (hF:zI K a0 a1=some r):Ct Tryz.prog 73 [.vc (pS cQ a0),.vc (pS cQ a1)] (.va (eQ r)):=by
 unfold zI at hF
 refine aA Tryz.func73 rfl (by kernel_rfl) Tryz.ntmps73 rfl (fun w0 M0=>?_)
 refine aC (aH (aN rfl tyZ42q (fun b1=>?_)))
 refine aT (aJ (aC (aH (jP cQ 42 rfl ?_))))
 refine go ?_ ?_
 refine aG (aP (fun H E=>∃(x18:List Rat),∃(b19:Option Nat),∃(c20:Nat),∃(n21:Nat),zJ K x18=some r∧x18.length=n21∧H=[hO cQ b19 c20 42 n21 x18,⟨some b1,1,42,4,1,(eQ 0)⟩]∧E=[(4,.vc (pP (some b1) 0)),(5,.vc (pO b19 n21 c20))]) ?_ (fun Jj25=>?_))
 ·rintro _ _ ⟨x18,b19,c20,n21,hF,q22,rfl,rfl⟩
  unfold zJ at hF
  refine aJ (aC (aH (dS ?_)))
  refine tV 0 [5,28] rfl q22 zU2 rfl ?_
  obtain⟨v26,h27,hF⟩:=aW hF aKl
  exact bI
 obtain⟨x18',hL,hRl24⟩:=aM hF
 refine cA (fun k a w=>∃(x11:List Rat),∃(x17:Int),∃(b12:Option Nat),∃(c13:Nat),∃(n14:Nat),tQ K a0 a1 k x11 x17=some x18'∧x11.length=n14∧hs _ [hO cQ b12 c13 42 n14 x11,⟨some b1,1,42,4,1,(eQ 0)⟩] [(0,.vc (pS cQ a0)),(1,.vc (pS cQ a1)),(4,.vc (pP (some b1) 0)),(5,.vc (pO b12 n14 c13)),(11,.vc (pI .i64 (min (a0.length:Int) (a1.length:Int)))),(12,.vc (pI .i64 x17))] a w) K (fun a w ⟨_,_,_,_,_,hF,_,_⟩=>by cases hF) (fun k a w ⟨x11,x17,b12,c13,n14,hF,q15,hh⟩=>b0 ?_ hh) (fun a w hh=>⟨([]:List Rat),0,none,0,0,hL,rfl,dI [0,1] hh⟩)
 rw [tQ.eq_2] at hF
 refine go ?_ ?_
 refine aB hF rfl (fun h28 hF=>?_) (fun h28 hF=>?_)
 ·refine go ?_ ?_
  refine aG ?_
  obtain⟨v31,h32,v33,h34,hF⟩:=tW hF
  obtain⟨v35,h36,hF⟩:=aW hF xR
  refine go ?_ ?_
  refine iQ [0,0,0,6,14,0,0,96,224,510,1022,2047,4095] 11 2 [.v (.vc (pO b12 n14 c13)),.v (.vc (pS cQ a0)),.v (.vc (pI .i64 x17)),.v (.vc (pM (cQ.e v31))),.v (.va (eQ v31)),.v (.vc (pS cQ a1)),.v (.vc (pI .i64 x17)),.v (.vc (pM (cQ.e v33))),.v (.va (eQ v33)),.v (.va (eQ v35)),.v (.vc (pS cQ [v35]))] aU ⟨d0 (aL (.inl rfl)) zU1,d0 (aL (.inl rfl)) zU1,d0 (aL (.inl rfl)) zU1,d0 (zS rfl tyS24 h32) zU2,d0 (x0 4 rfl rfl (.agg tyA42)) zU1,d0 (aL (.inl rfl)) zU1,d0 (aL (.inl rfl)) zU1,d0 (zS rfl tyS24 h34) zU2,d0 (x0 4 rfl rfl (.agg tyA42)) zU1,d0 (bE rfl h36 rfl) zU2,d0 (eR (C:=cQ) (xs:=[.tmp 24]) (ps:=[.va (eQ v35)]) (zs:=[v35]) rfl tyS24 rfl ⟨⟨trivial,rfl⟩,trivial⟩ rfl) zU1,trivial⟩ (fun bs30 G29=>?_)
  obtain⟨x37,h38,hF⟩:=aM hF
  refine iK 0 rfl tyS24 rfl rfl q15 rfl rfl h38 (fun b39 c40 H41 e42=>?_)
  cases e42
  obtain⟨v44,h45,hF⟩:=aM hF
  refine go ?_ ?_
  exact aF (fun a w hh=>⟨x37,v44,b39,c40,(n14+[v35].length),hF,(bD h38 q15),dI [0,1] hh⟩)
 refine aV ?_
 obtain rfl:=eP hF
 exact nK Jj25 ⟨x11,b12,c13,n14,hRl24,q15,rfl,rfl⟩ [0,1]
def p9 (K:Nat) (x20:List Rat):Option (List Rat):=
 some x20
def iE (K:Nat) (a0:List (List Rat)) (a1:List Rat) (a2:List Rat):Nat→(List Rat)→Int→Option (List Rat)
 |0,_,_=>none
 |k+1,x13,x19=>bif(decide (x19<(a0.length:Int))) then((bF a0 x19).bind fun v29=>(zI K v29 a2).bind fun v33=>(bF a1 x19).bind fun v35=>(aFc v33 v35).bind fun v37=>(bF x13 x19).bind fun v39=>(qL x13 x19 v37).bind fun x41=>(aS (x19+1)).bind fun v44=>iE K a0 a1 a2 k x41 v44) else(some x13)
def t5 (K:Nat) (a0:List (List Rat)) (a1:List Rat) (a2:List Rat):Option (List Rat):=
 (mkL (a1.length:Int) 0).bind fun x1=>(iE K a0 a1 a2 K x1 0).bind fun x20=>p9 K x20
theorem aCH {K:Nat} {a0:List (List Rat)} {a1:List Rat} {a2:List Rat} {r:List Rat} (hF:t5 K a0 a1 a2=some r):Ct Tryz.prog 57 [.vc (pS (bJ cQ) a0),.vc (pS cQ a1),.vc (pS cQ a2)] (.vc (pS cQ r)):=by
 unfold t5 at hF
 refine aA Tryz.func57 rfl (by kernel_rfl) Tryz.ntmps57 rfl (fun w0 M0=>?_)
 refine aC (aH (aI (aL (.inr rfl)) ⟨cD cQ,trivial⟩ ?_))
 obtain⟨x1,h2,hF⟩:=aM hF
 refine go ?_ ?_
 refine nN (C:=cQ) rfl tyS24 rfl tyZ42q rfl h2 (fun b3=>?_)
 refine go ?_ ?_
 refine aG (aP (fun H E=>∃(x20:List Rat),p9 K x20=some r∧x20.length=x1.length∧H=[hO cQ b3 x1.length 42 x1.length x20]∧E=[(7,.vc (pO b3 x1.length x1.length))]) ?_ (fun Jj27=>?_))
 ·rintro _ _ ⟨x20,hF,q24,rfl,rfl⟩
  unfold p9 at hF
  refine go ?_ ?_
  refine dQ (dL (lF 0 [6,7,32] rfl q24 ⟨rfl,rfl,rfl,trivial⟩ rfl ?_))
  obtain rfl:=eP hF
  exact eE (.inl rfl) Tryz.results57 (.tmp rfl .nil) rfl rfl
 obtain⟨x20',hL,hRl26⟩:=aM hF
 refine cA (fun k a w=>∃(x13:List Rat),∃(x19:Int),iE K a0 a1 a2 k x13 x19=some x20'∧x13.length=x1.length∧hs _ [hO cQ b3 x1.length 42 x1.length x13] [(1,.vc (pS cQ a1)),(2,.vc (pS cQ a2)),(7,.vc (pO b3 x1.length x1.length)),(13,.vc (pS (bJ cQ) a0)),(14,.vc (pI .i64 (a0.length:Int))),(15,.vc (pI .i64 x19))] a w) K (fun a w ⟨_,_,hF,_,_⟩=>by cases hF) (fun k a w ⟨x13,x19,hF,q17,hh⟩=>b0 ?_ hh) (fun a w hh=>⟨x1,0,hL,rfl,dI [0] hh⟩)
 rw [iE.eq_2] at hF
 refine go ?_ ?_
 refine aB hF rfl (fun h28 hF=>?_) (fun h28 hF=>?_)
 ·refine go ?_ ?_
  refine aG ?_
  obtain⟨v29,h30,hF⟩:=aM hF
  obtain⟨v33,h34,hF⟩:=aW hF aDT
  obtain⟨v35,h36,hF⟩:=aM hF
  obtain⟨v37,h38,hF⟩:=aW hF aDL
  obtain⟨v39,h40,hF⟩:=aM hF
  refine go ?_ ?_
  refine dr [0,0,0,0,12,0,0,96,224,508,1023,2047] 11 1 ?_ (fun bs32 G31=>?_)
  obtain⟨x41,h42,v44,h45,hF⟩:=tW hF
  refine go ?_ ?_
  exact aF (fun a w hh=>⟨x41,v44,hF,(bC h42 q17),dI [0] hh⟩)
 refine aV ?_
 obtain rfl:=eP hF
 exact nK Jj27 ⟨x13,hRl26,q17,rfl,rfl⟩ [0]
def rC (K:Nat) (v11:List Rat):Option Bool:=
 (gX K v11).bind fun v17=>some (!v17)
def gF (K:Nat) (a2:List Rat) (v11:List Rat):Nat→Int→Option (LR Bool Unit)
 |0,_=>none
 |k+1,x14=>bif(decide (x14<(a2.length:Int))) then((bF a2 x14).bind fun v20=>(xD v20).bind fun v22=>bif(decide (0<v22)) then((bF v11 x14).bind fun v25=>(xD v25).bind fun v27=>bif(v27 != 0) then(some (.ret false)) else((aS (x14+1)).bind fun v30=>gF K a2 v11 k v30)) else((aS (x14+1)).bind fun v32=>gF K a2 v11 k v32)) else(some (.go ()))
def l4 (K:Nat) (a0:List (List Rat)) (a1:List Rat) (a2:List Rat):Option Bool:=
 (dC K a0 a1).bind fun v1=>bif(!v1) then(some false) else(bif((a2.length:Int) != (a1.length:Int)) then(some false) else((lC K a2).bind fun v5=>bif(!v5) then(some false) else((gX K a2).bind fun v8=>bif v8 then(some false) else((t5 K a0 a1 a2).bind fun v11=>(gF K a2 v11 K 0).bind fun o=>match o with| .ret r=>some r| .go _=>rC K v11))))
theorem w4 {K:Nat} {a0:List (List Rat)} {a1:List Rat} {a2:List Rat} {r:Bool} (hF:l4 K a0 a1 a2=some r):Ct Tryz.prog 16 [.vc (pS (bJ cQ) a0),.vc (pS cQ a1),.vc (pS cQ a2)] (.vc (pB r)):=by
 unfold l4 at hF
 refine aA Tryz.func16 rfl (by kernel_rfl) Tryz.ntmps16 rfl (fun w0 M0=>?_)
 obtain⟨v1,h2,hF⟩:=aW hF qP
 refine go ?_ ?_
 refine cC hF (fun h3 hF=>?_) (fun h3 hF=>?_)
 ·refine go ?_ ?_
  refine fV rfl ?_
  exact bI
 refine go ?_ ?_
 refine cC hF (fun h4 hF=>?_) (fun h4 hF=>?_)
 ·refine go ?_ ?_
  refine fV rfl ?_
  exact bI
 obtain⟨v5,h6,hF⟩:=aW hF uT
 refine go ?_ ?_
 refine cC hF (fun h7 hF=>?_) (fun h7 hF=>?_)
 ·refine go ?_ ?_
  refine fV rfl ?_
  exact bI
 obtain⟨v8,h9,hF⟩:=aW hF qZ
 refine go ?_ ?_
 refine aB hF rfl (fun h10 hF=>?_) (fun h10 hF=>?_)
 ·exact bI
 obtain⟨v11,h12,hF⟩:=aW hF aCH
 refine go ?_ ?_
 refine aG (aP (fun H E=>rC K v11=some r∧H=[]∧E=[(7,.vc (pS cQ v11))]) ?_ (fun Jj16=>?_))
 ·rintro _ _ ⟨hF,rfl,rfl⟩
  unfold rC at hF
  obtain⟨v17,h18,hF⟩:=aW hF qZ
  exact bI
 obtain⟨ol15,hL,hRl15⟩:=aM hF
 refine cA (fun k a w=>∃(x14:Int),gF K a2 v11 k x14=some ol15∧hs _ [] [(2,.vc (pS cQ a2)),(7,.vc (pS cQ v11)),(34,.vc (pI .i64 (a2.length:Int))),(35,.vc (pI .i64 x14))] a w) K (fun a w ⟨_,hF,_⟩=>by cases hF) (fun k a w ⟨x14,hF,hh⟩=>b0 ?_ hh) (fun a w hh=>⟨0,hL,dI [] hh⟩)
 rw [gF.eq_2] at hF
 refine go ?_ ?_
 refine aB hF rfl (fun h19 hF=>?_) (fun h19 hF=>?_)
 ·refine go ?_ ?_
  refine aG ?_
  obtain⟨v20,h21,hF⟩:=aM hF
  obtain⟨v22,h23,hF⟩:=aW hF eS
  refine go ?_ ?_
  refine cC hF (fun h24 hF=>?_) (fun h24 hF=>?_)
  ·obtain⟨v25,h26,hF⟩:=aM hF
   obtain⟨v27,h28,hF⟩:=aW hF eS
   refine go ?_ ?_
   refine aB hF rfl (fun h29 hF=>?_) (fun h29 hF=>?_)
   ·exact bI
   obtain⟨v30,h31,hF⟩:=aM hF
   refine go ?_ ?_
   exact aF (fun a w hh=>⟨v30,hF,dI [] hh⟩)
  refine go ?_ ?_
  refine wX rfl ?_
  obtain⟨v32,h33,hF⟩:=aM hF
  refine go ?_ ?_
  exact aF (fun a w hh=>⟨v32,hF,dI [] hh⟩)
 refine aV ?_
 obtain rfl:=eP hF
 exact nK Jj16 ⟨hRl15,rfl,rfl⟩ []
def sF (K:Nat) (a1:List Rat) (x59:List Int) (x65:List Nat) (x71:List (List Rat)):Option (Int×(List Nat)×(List Int)×(List (List Rat))):=
 some ((a1.length:Int),x65,x59,x71)
def rR (K:Nat) (a1:List Rat) (x40:List Int) (x46:List Nat) (x52:List (List Rat)) (x58:Int) (recl77:(List Int)→(List Nat)→(List (List Rat))→Int→Option ((List Int)×(List Nat)×(List (List Rat)))) (x110:List Rat):Option ((List Int)×(List Nat)×(List (List Rat))):=
 (aS (2*(a1.length:Int))).bind fun v118=>(qof (-1) 1).bind fun v120=>(bF x110 v118).bind fun v122=>(qL x110 v118 v120).bind fun x124=>(aS (2*(a1.length:Int))).bind fun v127=>(aS (v127+1)).bind fun v129=>(bF a1 x58).bind fun v131=>(bF x124 v129).bind fun v133=>(qL x124 v129 v131).bind fun x135=>(oG x46 [x52.length]).bind fun x139=>(oG x40 [x58]).bind fun x146=>(aS (x58+1)).bind fun v153=>recl77 x146 x139 (x52++[x135]) v153
def mZ (K:Nat) (a0:List (List Rat)) (a1:List Rat) (x58:Int):Nat→(List Rat)→Int→Option (List Rat)
 |0,_,_=>none
 |k+1,x103,x109=>bif(decide (x109<(a1.length:Int))) then((aS ((a1.length:Int)+x109)).bind fun v156=>(bF a0 x58).bind fun v158=>(bF v158 x109).bind fun v160=>(aCh v160).bind fun v162=>(bF x103 v156).bind fun v164=>(qL x103 v156 v162).bind fun x166=>(aS (x109+1)).bind fun v169=>mZ K a0 a1 x58 k x166 v169) else(some x103)
def kR (K:Nat) (a0:List (List Rat)) (a1:List Rat):Nat→(List Int)→(List Nat)→(List (List Rat))→Int→Option ((List Int)×(List Nat)×(List (List Rat)))
 |0,_,_,_,_=>none
 |k+1,x40,x46,x52,x58=>bif(decide (x58<(a1.length:Int))) then((aS (2*(a1.length:Int))).bind fun v80=>(aS (v80+2)).bind fun v82=>(mkL v82 0).bind fun x84=>(qof 1 1).bind fun v89=>(bF x84 x58).bind fun v91=>(qL x84 x58 v89).bind fun x93=>(mZ K a0 a1 x58 K x93 0).bind fun x110=>rR K a1 x40 x46 x52 x58 (kR K a0 a1 k) x110) else(some (x40,x46,x52))
def vO (K:Nat) (a0:List (List Rat)) (a1:List Rat):Option (Int×(List Nat)×(List Int)×(List (List Rat))):=
 (kR K a0 a1 K ([]:List Int) ([]:List Nat) ([]:List (List Rat)) 0).bind fun(x59,x65,x71)=>sF K a1 x59 x65 x71
theorem aBs {K:Nat} {a0:List (List Rat)} {a1:List Rat} {r:Int×(List Nat)×(List Int)×(List (List Rat))} (hF:vO K a0 a1=some r):CtO Tryz.prog 44 [] [.vc (pS (bJ cQ) a0),.vc (pS cQ a1)] (fun Ho q=>∃b1171 b1175 c1176 n1177 b1180 c1181 n1182 g1185 N1186,r.2.1.length=n1177∧r.2.2.1.length=n1182∧r.2.2.2.length=N1186∧cJ g1185 r.2.2.2∧(∀k∈r.2.1,k<N1186)∧Ho=([⟨some b1171,1,72,3,1,([pI .i64 r.1]++[pO b1175 n1177 c1176]++[pO b1180 n1182 c1181])⟩,hO (cH g1185) b1175 c1176 24 n1177 r.2.1,hO cI b1180 c1181 3 n1182 r.2.2.1]++eD cQ 42 g1185 r.2.2.2)∧q=.vc (pP (some b1171) 0)):=by
 unfold vO at hF
 refine aA Tryz.func44 rfl (by kernel_rfl) Tryz.ntmps44 rfl (fun w0 M0=>?_)
 refine aC (aH (aI (aL (p:=.any) (.inr rfl)) ⟨fun _=>trivial,trivial⟩ ?_))
 refine aT (aJ (aC (aH (dS ?_))))
 refine aI (aJs rfl tyS24) zU1 ?_
 refine zP ?_
 refine aT (aJ (aC (aH (dS ?_))))
 refine aFF cQ 42 ?_
 refine aBa (cH ([]:List rK)) 24 ?_
 refine aBa cI 3 ?_
 refine aI (gU (is:=[0]) (xs:=[.tmp 12]) (ps:=[.vc (pI .i64 (a1.length:Int))]) rfl tyB72_o1_o2q rfl rfl ⟨trivial,trivial⟩ rfl) zU1 ?_
 refine bV rfl rfl trivial (fun b20=>?_)
 refine go ?_ ?_
 refine aG (aP (fun H E=>∃(x59:List Int),∃(x65:List Nat),∃(x71:List (List Rat)),∃(b60:Option Nat),∃(c61:Nat),∃(n62:Nat),∃(b66:Option Nat),∃(c67:Nat),∃(n68:Nat),∃(g72:List rK),∃(N73:Nat),sF K a1 x59 x65 x71=some r∧x59.length=n62∧x65.length=n68∧x71.length=N73∧cJ g72 x71∧(∀k∈x65,k<N73)∧H=([⟨some b20,1,72,3,1,([pI .i64 (a1.length:Int)]++[pO b66 n68 c67]++[pO b60 n62 c61])⟩,hO cI b60 c61 3 n62 x59,hO (cH g72) b66 c67 24 n68 x65]++eD cQ 42 g72 x71)∧E=[(6,.vc (pP (some b20) 0))]) ?_ (fun Jj78=>?_))
 ·rintro _ _ ⟨x59,x65,x71,b60,c61,n62,b66,c67,n68,g72,N73,hF,q63,q69,q74,q75,q76,rfl,rfl⟩
  unfold sF at hF
  refine go ?_ ?_
  refine dQ (dL ?_)
  obtain rfl:=eP hF
  exact jT (.inl rfl) Tryz.results44 (.tmp rfl .nil) rfl 3 [0,2,1] rfl rfl (by decide) ⟨b20,b66,c67,n68,b60,c61,n62,g72,N73,q69,q63,q74,q75,q76,rfl,rfl⟩
 obtain⟨⟨x59',x65',x71'⟩,hL,hRl77⟩:=aM hF
 refine cA (fun k a w=>∃(x40:List Int),∃(x46:List Nat),∃(x52:List (List Rat)),∃(x58:Int),∃(b41:Option Nat),∃(c42:Nat),∃(n43:Nat),∃(b47:Option Nat),∃(c48:Nat),∃(n49:Nat),∃(g53:List rK),∃(N54:Nat),kR K a0 a1 k x40 x46 x52 x58=some (x59',x65',x71')∧x40.length=n43∧x46.length=n49∧x52.length=N54∧cJ g53 x52∧(∀k∈x46,k<N54)∧hs _ ([⟨some b20,1,72,3,1,([pI .i64 (a1.length:Int)]++[pO b47 n49 c48]++[pO b41 n43 c42])⟩,hO cI b41 c42 3 n43 x40,hO (cH g53) b47 c48 24 n49 x46]++eD cQ 42 g53 x52) [(0,.vc (pS (bJ cQ) a0)),(1,.vc (pS cQ a1)),(5,.vc (pI .i64 (a1.length:Int))),(6,.vc (pP (some b20) 0)),(15,.vc (pI .i64 (a1.length:Int))),(16,.vc (pI .i64 x58))] a w) K (fun a w ⟨_,_,_,_,_,_,_,_,_,_,_,_,hF,_,_,_,_,_,_⟩=>by cases hF) (fun k a w ⟨x40,x46,x52,x58,b41,c42,n43,b47,c48,n49,g53,N54,hF,q44,q50,q55,q56,q57,hh⟩=>b0 ?_ hh) (fun a w hh=>⟨([]:List Int),([]:List Nat),([]:List (List Rat)),0,none,0,0,none,0,0,([]:List rK),0,hL,rfl,rfl,(rfl),aDa,(by simp),aR 3 [0,1,2] rfl rfl (by decide) (by exact⟨rfl,rfl,rfl,rfl,rfl,rfl,trivial⟩) hh⟩)
 rw [kR.eq_2] at hF
 refine go ?_ ?_
 refine aB hF rfl (fun h79 hF=>?_) (fun h79 hF=>?_)
 ·refine go ?_ ?_
  refine aG ?_
  obtain⟨v80,h81,v82,h83,x84,h85,hF⟩:=bn3 hF
  refine go ?_ ?_
  refine nN (C:=cQ) rfl tyS24 rfl tyZ42q rfl h85 (fun b86=>?_)
  obtain⟨v89,h90,hF⟩:=aW hF uH
  obtain⟨v91,h92,x93,h94,hF⟩:=tW hF
  refine go ?_ ?_
  refine aG (aP (fun H E=>∃(x110:List Rat),rR K a1 x40 x46 x52 x58 (kR K a0 a1 k) x110=some (x59',x65',x71')∧x110.length=x84.length∧H=([hO cQ b86 x84.length 42 x84.length x110,⟨some b20,1,72,3,1,([pI .i64 (a1.length:Int)]++[pO b47 n49 c48]++[pO b41 n43 c42])⟩,hO cI b41 c42 3 n43 x40,hO (cH g53) b47 c48 24 n49 x46]++eD cQ 42 g53 x52)∧E=[(0,.vc (pS (bJ cQ) a0)),(1,.vc (pS cQ a1)),(5,.vc (pI .i64 (a1.length:Int))),(6,.vc (pP (some b20) 0)),(7,.vc (pI .i64 x58)),(8,.vc (pO b86 x84.length x84.length)),(15,.vc (pI .i64 (a1.length:Int))),(16,.vc (pI .i64 x58))]) ?_ (fun Jj117=>?_))
  ·rintro _ _ ⟨x110,hF,q114,rfl,rfl⟩
   unfold rR at hF
   have hF:=tJ h81 hF
   obtain⟨v120,h121,hF⟩:=aW hF uH
   obtain⟨v122,h123,x124,h125,hF⟩:=tW hF
   have hF:=tJ h81 hF
   obtain⟨v129,h130,v131,h132,v133,h134,x135,h136,hF⟩:=bn4 hF
   refine go ?_ ?_
   refine aI (aLG (rs:=x52) rfl tyS23 q56.1 (show([hO cQ b86 x84.length 42 x84.length x135,⟨some b20,1,72,3,1,([pI .i64 (a1.length:Int)]++[pO b47 n49 c48]++[pO b41 n43 c42])⟩,hO cI b41 c42 3 n43 x40,hO (cH (g53++[(b86,x84.length,x84.length)])) b47 c48 24 n49 x46]++eD cQ 42 g53 x52)=([hO cQ b86 x84.length 42 x84.length x135,⟨some b20,1,72,3,1,([pI .i64 (a1.length:Int)]++[pO b47 n49 c48]++[pO b41 n43 c42])⟩,hO cI b41 c42 3 n43 x40,hO (cH g53) b47 c48 24 n49 x46]++eD cQ 42 g53 x52) from by rw [aGo (N:=x52.length) (b86,x84.length,x84.length) q56.1 (yI q55 q57)])) zU1 ?_
   refine aEq (g:=(b86,x84.length,x84.length)) 0 4 rfl rfl rfl q56 ?_
   refine aPF 8 rfl (aOn (N:=x52.length) (b86,x84.length,x84.length) q56.1) ?_
   obtain⟨x139,h140,hF⟩:=aM hF
   refine iK 2 rfl tyS23 rfl rfl q50 rfl rfl h140 (fun b141 c142 H143 e144=>?_)
   cases e144
   refine go ?_ ?_
   refine aI (eR (C:=cI) (xs:=[.tmp 74]) (ps:=[.vc (pI .i64 x58)]) (zs:=[x58]) rfl tyS22 rfl ⟨⟨trivial,rfl⟩,trivial⟩ rfl) zU1 ?_
   obtain⟨x146,h147,hF⟩:=aM hF
   refine iK 1 rfl tyS22 rfl rfl q44 rfl rfl h147 (fun b148 c149 H150 e151=>?_)
   cases e151
   obtain⟨v153,h154,hF⟩:=aM hF
   refine go ?_ ?_
   exact aF (fun a w hh=>⟨x146,x139,(x52++[x135]),v153,b148,c149,(n43+[x58].length),b141,c142,(n49+[x52.length].length),(g53++[(b86,x84.length,x84.length)]),(N54+1),hF,(bD h147 q44),(bD h140 q50),(aCM q55),(aAB q56 (bC h136 (bC h125 q114))),(aIw q57 q55 h140),aR 3 [0,1,2] rfl rfl (by decide) (by exact⟨rfl,rfl,rfl,rfl,rfl,rfl,trivial⟩) hh⟩)
  obtain⟨x110',hL,hRl116⟩:=aM hF
  refine cA (fun k a w=>∃(x103:List Rat),∃(x109:Int),mZ K a0 a1 x58 k x103 x109=some x110'∧x103.length=x84.length∧hs _ ([hO cQ b86 x84.length 42 x84.length x103,⟨some b20,1,72,3,1,([pI .i64 (a1.length:Int)]++[pO b47 n49 c48]++[pO b41 n43 c42])⟩,hO cI b41 c42 3 n43 x40,hO (cH g53) b47 c48 24 n49 x46]++eD cQ 42 g53 x52) [(0,.vc (pS (bJ cQ) a0)),(1,.vc (pS cQ a1)),(5,.vc (pI .i64 (a1.length:Int))),(6,.vc (pP (some b20) 0)),(7,.vc (pI .i64 x58)),(8,.vc (pO b86 x84.length x84.length)),(15,.vc (pI .i64 (a1.length:Int))),(16,.vc (pI .i64 x58)),(27,.vc (pI .i64 (a1.length:Int))),(28,.vc (pI .i64 x109))] a w) K (fun a w ⟨_,_,hF,_,_⟩=>by cases hF) (fun k a w ⟨x103,x109,hF,q107,hh⟩=>b0 ?_ hh) (fun a w hh=>⟨x93,0,hL,(bC h94 rfl),aR 4 [0,1,2,3] rfl rfl (by decide) (by exact⟨rfl,rfl,rfl,rfl,rfl,rfl,rfl,rfl,rfl,rfl,trivial⟩) hh⟩)
  rw [mZ.eq_2] at hF
  refine go ?_ ?_
  refine aB hF rfl (fun h155 hF=>?_) (fun h155 hF=>?_)
  ·refine go ?_ ?_
   refine aG ?_
   obtain⟨v156,h157,v158,h159,v160,h161,hF⟩:=bn3 hF
   obtain⟨v162,h163,hF⟩:=aW hF wK
   obtain⟨v164,h165,x166,h167,v169,h170,hF⟩:=bn3 hF
   refine go ?_ ?_
   exact aF (fun a w hh=>⟨x166,v169,hF,(bC h167 q107),aR 4 [0,1,2,3] rfl rfl (by decide) (by exact⟨rfl,rfl,rfl,rfl,rfl,rfl,rfl,rfl,rfl,rfl,trivial⟩) hh⟩)
  refine aV ?_
  obtain rfl:=eP hF
  exact eJ Jj117 ⟨x103,hRl116,q107,rfl,rfl⟩ 4 [0,1,2,3] rfl rfl ⟨rfl,rfl,rfl,rfl,rfl,rfl,rfl,rfl,trivial⟩
 refine aV ?_
 obtain⟨rfl,rfl,rfl⟩:=sm3 hF
 exact eJ Jj78 ⟨x40,x46,x52,b41,c42,n43,b47,c48,n49,g53,N54,hRl77,q44,q50,q55,q56,q57,rfl,rfl⟩ 3 [0,1,2] rfl rfl zU1
def l6 (K:Nat) (x69:List Rat) (x75:List Rat):Option bQ:=
 some (⟨x75,x69,0⟩:bQ)
def dE (K:Nat) (a0:Int) (a1:List Nat) (a2:List Int) (a3:List (List Rat)):Nat→(List Rat)→(List Rat)→Int→Option ((List Rat)×(List Rat))
 |0,_,_,_=>none
 |k+1,x56,x62,x68=>bif(decide (x68<(a2.length:Int))) then((bF a2 x68).bind fun v84=>(bF a1 x68).bind fun v88=>(aS (2*a0)).bind fun v90=>(aS (v90+1)).bind fun v92=>(bF (a3.getD v88 []) v92).bind fun v94=>bif(decide (v84<a0)) then((bF x56 v84).bind fun v97=>(qL x56 v84 v94).bind fun x99=>(aS (x68+1)).bind fun v102=>dE K a0 a1 a2 a3 k x99 x62 v102) else((aS (2*a0)).bind fun v104=>bif(decide (v84<v104)) then((aS (v84-a0)).bind fun v109=>(bF x62 v109).bind fun v111=>(qL x62 v109 v94).bind fun x113=>(aS (x68+1)).bind fun v116=>dE K a0 a1 a2 a3 k x56 x113 v116) else((aS (x68+1)).bind fun v118=>dE K a0 a1 a2 a3 k x56 x62 v118))) else(some (x56,x62))
def kP (K:Nat) (a0:Int) (a1:List Nat) (a2:List Int) (a3:List (List Rat)):Option bQ:=
 (mkL a0 0).bind fun x23=>(mkL a0 0).bind fun x27=>(dE K a0 a1 a2 a3 K x27 x23 0).bind fun(x69,x75)=>l6 K x69 x75
theorem tI {K:Nat} {a0:Int} {a1:List Nat} {a2:List Int} {a3:List (List Rat)} {r:bQ} (hF:kP K a0 a1 a2 a3=some r) {p0:Nat} {b4:Option Nat} {c5 n6:Nat} {b9:Option Nat} {c10 n11:Nat} {g14:List rK} {N15:Nat} (q7:a1.length=n6) (q12:a2.length=n11) (q16:a3.length=N15) (q17:cJ g14 a3) (q18:∀k∈a1,k<N15):CtO Tryz.prog 46 ([⟨some p0,1,72,3,1,([pI .i64 a0]++[pO b4 n6 c5]++[pO b9 n11 c10])⟩,hO (cH g14) b4 c5 24 n6 a1,hO cI b9 c10 3 n11 a2]++eD cQ 42 g14 a3) [.vc (pP (some p0) 0)] (fun Ho q=>Ho=([⟨some p0,1,72,3,1,([pI .i64 a0]++[pO b4 n6 c5]++[pO b9 n11 c10])⟩,hO (cH g14) b4 c5 24 n6 a1,hO cI b9 c10 3 n11 a2]++eD cQ 42 g14 a3)∧q=.va (bQ.enc r)):=by
 unfold kP at hF
 refine aA Tryz.func46 rfl (by kernel_rfl) Tryz.ntmps46 rfl (fun w0 M0=>?_)
 refine aC (aH (aN rfl tyZ30q (fun b20=>?_)))
 obtain⟨x23,h24,hF⟩:=aM hF
 have hF:=tJ h24 hF
 refine go ?_ ?_
 refine r6 (HsM [(0,fun G21=>([⟨some b20,1,30,3,1,([pS cQ ([]:List Rat)]++[pS cQ ([]:List Rat)]++[pI .i64 0])⟩,⟨some p0,1,72,3,1,([pI .i64 a0]++[pO b4 n6 c5]++[pO b9 n11 c10])⟩,hO (cH g14) b4 c5 24 n6 a1,hO cI b9 c10 3 n11 a2]++eD cQ 42 g14 a3)),(1,fun G21=>([hO cQ ((G21 4).1) x23.length 42 x23.length x23,⟨some b20,1,30,3,1,([pS cQ ([]:List Rat)]++[pS cQ ([]:List Rat)]++[pI .i64 0])⟩,⟨some p0,1,72,3,1,([pI .i64 a0]++[pO b4 n6 c5]++[pO b9 n11 c10])⟩,hO (cH g14) b4 c5 24 n6 a1,hO cI b9 c10 3 n11 a2]++eD cQ 42 g14 a3)),(2,fun G21=>([hO cQ ((G21 9).1) x23.length 42 x23.length x23,⟨some b20,1,30,3,1,([pS cQ ([]:List Rat)]++[pS cQ ([]:List Rat)]++[pI .i64 0])⟩,⟨some p0,1,72,3,1,([pI .i64 a0]++[pO b4 n6 c5]++[pO b9 n11 c10])⟩,hO (cH g14) b4 c5 24 n6 a1,hO cI b9 c10 3 n11 a2]++eD cQ 42 g14 a3)),(3,fun G21=>([hO cQ ((G21 9).1) x23.length 42 x23.length x23,hO cQ ((G21 4).1) x23.length 42 x23.length x23,⟨some b20,1,30,3,1,([pS cQ ([]:List Rat)]++[pS cQ ([]:List Rat)]++[pI .i64 0])⟩,⟨some p0,1,72,3,1,([pI .i64 a0]++[pO b4 n6 c5]++[pO b9 n11 c10])⟩,hO (cH g14) b4 c5 24 n6 a1,hO cI b9 c10 3 n11 a2]++eD cQ 42 g14 a3)),(7,fun G21=>([hO cQ (dB (G21 10).2) x23.length 42 x23.length x23,hO cQ ((G21 10).1) x23.length 42 x23.length x23,⟨some b20,1,30,3,1,([pS cQ ([]:List Rat)]++[pS cQ ([]:List Rat)]++[pI .i64 0])⟩,⟨some p0,1,72,3,1,([pI .i64 a0]++[pO b4 n6 c5]++[pO b9 n11 c10])⟩,hO (cH g14) b4 c5 24 n6 a1,hO cI b9 c10 3 n11 a2]++eD cQ 42 g14 a3))]) [4,9,10] [0,1,3,7,15,0,32,96,224,480,1023,0,4095] 12 1 [.v (.vc (pP (some p0) 0)),.v (.vc (pP (some p0) 0)),.v (.vc (pP (some p0) 0)),.v (.vc (pI .i64 a0)),.g (fun b _=>.vc (pO b x23.length x23.length)),.v (.vc (pP (some p0) 0)),.v (.vc (pP (some p0) 0)),.v (.vc (pP (some p0) 0)),.v (.vc (pI .i64 a0)),.g (fun b _=>.vc (pO b x23.length x23.length)),.g (fun b c=>.va ([pO b x23.length x23.length]++[pO (dB c) x23.length x23.length]++[pI .i64 0])),.a 30 ([pS cQ ([]:List Rat)]++[pS cQ ([]:List Rat)]++[pI .i64 0])] aU ⟨⟨rfl,.run (L:=[0,2]) ⟨fun G21 A=>aL (.inl rfl),fun G21 A=>aL (.inl rfl),trivial⟩ (fun G21=>zU1)⟩,⟨rfl,.run (L:=[0,2]) ⟨fun G21 A=>s9 rfl,fun G21 A=>s9 rfl,trivial⟩ (fun G21=>zU1)⟩,⟨rfl,.run (L:=[0,2]) ⟨fun G21 A=>gV (off:=0) (k:=0) rfl tyF72_0,fun G21 A=>gV (off:=0) (k:=0) rfl tyF72_0,trivial⟩ (fun G21=>zU1)⟩,⟨rfl,.run (L:=[0,2]) ⟨fun G21 A=>gC 1 1 rfl rfl rfl rfl (.one tyO3),fun G21 A=>gC 2 1 rfl rfl rfl rfl (.one tyO3),trivial⟩ (fun G21=>zU1)⟩,⟨rfl,.hvy [0,2] ⟨fun G21 A=>aEe (C:=cQ) rfl tyS24 rfl tyZ42q h24,fun G21 A=>aQR (R:=eD cQ 42 g14 a3) [1,0,2,3,4,5] (aEe (C:=cQ) rfl tyS24 rfl tyZ42q h24) (fun b_ c_=>⟨[hO cQ (b_) x23.length 42 x23.length x23,hO cQ ((G21 9).1) x23.length 42 x23.length x23,⟨some b20,1,30,3,1,([pS cQ ([]:List Rat)]++[pS cQ ([]:List Rat)]++[pI .i64 0])⟩,⟨some p0,1,72,3,1,([pI .i64 a0]++[pO b4 n6 c5]++[pO b9 n11 c10])⟩,hO (cH g14) b4 c5 24 n6 a1,hO cI b9 c10 3 n11 a2],_,rfl,rfl,rfl⟩),trivial⟩ (fun G21=>zU1)⟩,⟨rfl,.run (L:=[0,1]) ⟨fun G21 A=>aL (.inl rfl),fun G21 A=>aL (.inl rfl),trivial⟩ (fun G21=>zU1)⟩,⟨rfl,.run (L:=[0,1]) ⟨fun G21 A=>s9 rfl,fun G21 A=>s9 rfl,trivial⟩ (fun G21=>zU1)⟩,⟨rfl,.run (L:=[0,1]) ⟨fun G21 A=>gV (off:=0) (k:=0) rfl tyF72_0,fun G21 A=>gV (off:=0) (k:=0) rfl tyF72_0,trivial⟩ (fun G21=>zU1)⟩,⟨rfl,.run (L:=[0,1]) ⟨fun G21 A=>gC 1 1 rfl rfl rfl rfl (.one tyO3),fun G21 A=>gC 2 1 rfl rfl rfl rfl (.one tyO3),trivial⟩ (fun G21=>zU1)⟩,⟨rfl,.hvy [0,1] ⟨fun G21 A=>aEe (C:=cQ) rfl tyS24 rfl tyZ42q h24,fun G21 A=>aEe (C:=cQ) rfl tyS24 rfl tyZ42q h24,trivial⟩ (fun G21=>zU1)⟩,⟨rfl,.hvy [3] ⟨fun G21 A=>aRs (Post:=fun b_ x_=>([hO cQ x_ x23.length 42 x23.length x23,hO cQ b_ x23.length 42 x23.length x23,⟨some b20,1,30,3,1,([pS cQ ([]:List Rat)]++[pS cQ ([]:List Rat)]++[pI .i64 0])⟩,⟨some p0,1,72,3,1,([pI .i64 a0]++[pO b4 n6 c5]++[pO b9 n11 c10])⟩,hO (cH g14) b4 c5 24 n6 a1,hO cI b9 c10 3 n11 a2]++eD cQ 42 g14 a3)++A) (out:=fun b_ x_=>.va ([pO b_ x23.length x23.length]++[pO x_ x23.length x23.length]++[pI .i64 0])) ((G21 4).1) ((G21 9).1) (gU (is:=[0,1]) (xs:=[.tmp 11,.tmp 16]) (ps:=[.vc (pO ((G21 4).1) x23.length x23.length),.vc (pO ((G21 9).1) x23.length x23.length)]) rfl tyB30q rfl rfl ⟨trivial,trivial,trivial⟩ rfl),trivial⟩ (fun G21=>zU2)⟩,⟨rfl,.alc tyZ30q⟩,trivial⟩ (fun bs22 G21=>?_)
 refine go ?_ ?_
 refine aG (aP (fun H E=>∃(x69:List Rat),∃(x75:List Rat),l6 K x69 x75=some r∧x69.length=x23.length∧x75.length=x23.length∧H=([⟨some (bs22 11),1,30,3,1,([pO ((G21 10).1) x23.length x23.length]++[pO (dB (G21 10).2) x23.length x23.length]++[pI .i64 0])⟩,hO cQ (dB (G21 10).2) x23.length 42 x23.length x69,hO cQ ((G21 10).1) x23.length 42 x23.length x75,⟨some b20,1,30,3,1,([pS cQ ([]:List Rat)]++[pS cQ ([]:List Rat)]++[pI .i64 0])⟩,⟨some p0,1,72,3,1,([pI .i64 a0]++[pO b4 n6 c5]++[pO b9 n11 c10])⟩,hO (cH g14) b4 c5 24 n6 a1,hO cI b9 c10 3 n11 a2]++eD cQ 42 g14 a3)∧E=[(2,.vc (pP (some b20) 0)),(3,.vc (pP (some (bs22 11)) 0))]) ?_ (fun Jj82=>?_))
 ·rintro _ _ ⟨x69,x75,hF,q73,q79,rfl,rfl⟩
  unfold l6 at hF
  refine aJ (aC (aH (aFj 2 0 0 rfl q79 rfl rfl rfl rfl rfl ?_)))
  refine aFj 1 0 1 rfl q73 rfl rfl rfl rfl rfl ?_
  refine go ?_ ?_
  refine dQ (dL ?_)
  obtain rfl:=eP hF
  exact jT (.inl rfl) Tryz.results46 (yL 1 3 rfl rfl rfl rfl (.agg tyA30) .nil) rfl 5 [2,3,4] rfl rfl (by decide) ⟨rfl,rfl⟩
 obtain⟨⟨x69',x75'⟩,hL,hRl81⟩:=aM hF
 refine cA (fun k a w=>∃(x56:List Rat),∃(x62:List Rat),∃(x68:Int),dE K a0 a1 a2 a3 k x56 x62 x68=some (x69',x75')∧x56.length=x23.length∧x62.length=x23.length∧hs _ ([⟨some (bs22 11),1,30,3,1,([pO ((G21 10).1) x23.length x23.length]++[pO (dB (G21 10).2) x23.length x23.length]++[pI .i64 0])⟩,hO cQ (dB (G21 10).2) x23.length 42 x23.length x56,hO cQ ((G21 10).1) x23.length 42 x23.length x62,⟨some b20,1,30,3,1,([pS cQ ([]:List Rat)]++[pS cQ ([]:List Rat)]++[pI .i64 0])⟩,⟨some p0,1,72,3,1,([pI .i64 a0]++[pO b4 n6 c5]++[pO b9 n11 c10])⟩,hO (cH g14) b4 c5 24 n6 a1,hO cI b9 c10 3 n11 a2]++eD cQ 42 g14 a3) [(0,.vc (pP (some p0) 0)),(2,.vc (pP (some b20) 0)),(3,.vc (pP (some (bs22 11)) 0)),(21,.vc (pO b9 n11 c10)),(22,.vc (pI .i64 (a2.length:Int))),(23,.vc (pI .i64 x68))] a w) K (fun a w ⟨_,_,_,hF,_,_,_⟩=>by cases hF) (fun k a w ⟨x56,x62,x68,hF,q60,q66,hh⟩=>b0 ?_ hh) (fun a w hh=>⟨x23,x23,0,hL,rfl,rfl,aR 7 [0,1,2,3,4,5,6] rfl rfl (by decide) (by exact⟨rfl,rfl,rfl,rfl,rfl,rfl,trivial⟩) hh⟩)
 rw [dE.eq_2] at hF
 refine go ?_ ?_
 refine aB hF rfl (fun h83 hF=>?_) (fun h83 hF=>?_)
 ·refine go ?_ ?_
  refine aG ?_
  obtain⟨v84,h85,v88,h89,v90,h91,v92,h93,hF⟩:=bn4 hF
  obtain⟨v94,h95,hF⟩:=aM hF
  refine go ?_ ?_
  refine iQ [0,1,3,7,0,31,63,0,128,384,896,1920,3968,8191,16383,0,65535] 16 1 [.v (.vc (pP (some p0) 0)),.v (.vc (pP (some p0) 0)),.v (.vc (pP (some p0) 1)),.v (.vc (pO b4 n6 c5)),.v (.vc (pI .i64 x68)),.v (.vc (pE b4 x68 (cH g14).n 0)),.v (.vc (pO (gA g14 v88).1 (gA g14 v88).2.1 (gA g14 v88).2.2)),.v (.vc (pP (some p0) 0)),.v (.vc (pP (some p0) 0)),.v (.vc (pP (some p0) 0)),.v (.vc (pI .i64 a0)),.v (.vc (pI .i64 v90)),.v (.vc (pI .i64 v92)),.v (.vc (pE (gA g14 v88).1 v92 cQ.n 0)),.v (.va (eQ v94)),.a 42 (eQ 0)] aU ⟨d0 (aL (.inl rfl)) zU1,d0 (s9 rfl) zU1,d0 (gV (off:=0) (k:=1) rfl tyF72_1) zU1,d0 (gC 4 1 rfl rfl rfl rfl (.one tyO23)) zU1,d0 (aL (.inl rfl)) zU1,d0 (cY (C:=(cH g14)) 5 rfl tyS23 rfl q7 (aD h89).1 (aD h89).2.1) zU2,d0 (iD (C:=(cH g14)) (k:=1) 5 rfl rfl h89 rfl (.one tyO24) rfl) zU1,d0 (aL (.inl rfl)) zU1,d0 (s9 rfl) zU1,d0 (gV (off:=0) (k:=0) rfl tyF72_0) zU1,d0 (gC 4 1 rfl rfl rfl rfl (.one tyO3)) zU1,d0 (aFP rfl h91) ⟨qM _ _,rfl,trivial⟩,d0 (yK rfl h93) ⟨rfl,qM _ _,trivial⟩,d0 (cY (7+v88) rfl tyS24 (gW 7 rfl q17 q16 (q18 _ (aO h89))) (cR q17 q16 (q18 _ (aO h89))) (aD h95).1 (aD h95).2.1) zU2,d0 (iD (k:=4) (7+v88) rfl (gW 7 rfl q17 q16 (q18 _ (aO h89))) h95 rfl (.agg tyA42) rfl) zU1,⟨rfl,.alc tyZ42q⟩,trivial⟩ (fun bs87 G86=>?_)
  refine go ?_ ?_
  refine aG (go ?_ ?_)
  refine aB hF rfl (fun h96 hF=>?_) (fun h96 hF=>?_)
  ·obtain⟨v97,h98,x99,h100,v102,h103,hF⟩:=bn3 hF
   refine go ?_ ?_
   exact aF (fun a w hh=>⟨x99,x62,v102,hF,(bC h100 q60),q66,aR 8 [1,2,3,4,5,6,7] rfl rfl (by decide) (by exact⟨rfl,rfl,rfl,rfl,rfl,rfl,trivial⟩) hh⟩)
  have hF:=tJ h91 hF
  refine go ?_ ?_
  refine aB hF rfl (fun h106 hF=>?_) (fun h106 hF=>?_)
  ·obtain⟨v109,h110,hF⟩:=aM hF
   obtain⟨v111,h112,hF⟩:=aM hF
   refine dr [0,1,0,0,8,24,56,124,0,511,1023] 10 1 ?_ (fun bs108 G107=>?_)
   obtain⟨x113,h114,v116,h117,hF⟩:=tW hF
   refine go ?_ ?_
   exact aF (fun a w hh=>⟨x56,x113,v116,hF,q60,(bC h114 q66),aR 8 [1,2,3,4,5,6,7] rfl rfl (by decide) (by exact⟨rfl,rfl,rfl,rfl,rfl,rfl,trivial⟩) hh⟩)
  obtain⟨v118,h119,hF⟩:=aM hF
  refine go ?_ ?_
  exact aF (fun a w hh=>⟨x56,x62,v118,hF,q60,q66,aR 8 [1,2,3,4,5,6,7] rfl rfl (by decide) (by exact⟨rfl,rfl,rfl,rfl,rfl,rfl,trivial⟩) hh⟩)
 refine aV ?_
 obtain⟨rfl,rfl⟩:=sm2 hF
 exact eJ Jj82 ⟨x56,x62,hRl81,q60,q66,rfl,rfl⟩ 7 [0,1,2,3,4,5,6] rfl rfl zU2
def mX (K:Nat):Option Bool:=
 some false
def jU (K:Nat) (a0:Int) (a1:Rat) (a2:Int) (a3:Rat) (a5:List Nat) (a7:List (List Rat)) (x23:Int) (recl24:Int→Option (LR Bool Unit)) (x28:Int):Option (LR Bool Unit):=
 (bF a5 a0).bind fun v32=>(bF (a7.getD v32 []) x28).bind fun v34=>(aGv v34 a1).bind fun v36=>(bF a5 a2).bind fun v38=>(bF (a7.getD v38 []) x28).bind fun v40=>(aGv v40 a3).bind fun v42=>(aQW v36 v42).bind fun v44=>bif(v44 != 0) then(some (.ret (decide (v44<0)))) else((aS (x23+1)).bind fun v47=>recl24 v47)
def dW (K:Nat) (a0:Int) (a1:Rat) (a2:Int) (a3:Rat) (a4:Int) (a5:List Nat) (a7:List (List Rat)):Nat→Int→Option (LR Bool Unit)
 |0,_=>none
 |k+1,x23=>bif(decide (x23<a4)) then(bif(decide (x23<0)) then((aS (2*a4)).bind fun v50=>(aS (v50+1)).bind fun v52=>jU K a0 a1 a2 a3 a5 a7 x23 (dW K a0 a1 a2 a3 a4 a5 a7 k) v52) else(jU K a0 a1 a2 a3 a5 a7 x23 (dW K a0 a1 a2 a3 a4 a5 a7 k) x23)) else(some (.go ()))
def lP (K:Nat) (a0:Int) (a1:Rat) (a2:Int) (a3:Rat) (a4:Int) (a5:List Nat) (a6:List Int) (a7:List (List Rat)):Option Bool:=
 (dW K a0 a1 a2 a3 a4 a5 a7 K (-1)).bind fun o=>match o with| .ret r=>some r| .go _=>mX K
theorem uG {K:Nat} {a0:Int} {a1:Rat} {a2:Int} {a3:Rat} {a4:Int} {a5:List Nat} {a6:List Int} {a7:List (List Rat)} {r:Bool} (hF:lP K a0 a1 a2 a3 a4 a5 a6 a7=some r) {p0:Nat} {b4:Option Nat} {c5 n6:Nat} {b9:Option Nat} {c10 n11:Nat} {g14:List rK} {N15:Nat} (q7:a5.length=n6) (q12:a6.length=n11) (q16:a7.length=N15) (q17:cJ g14 a7) (q18:∀k∈a5,k<N15):CtO Tryz.prog 48 ([⟨some p0,1,72,3,1,([pI .i64 a4]++[pO b4 n6 c5]++[pO b9 n11 c10])⟩,hO (cH g14) b4 c5 24 n6 a5,hO cI b9 c10 3 n11 a6]++eD cQ 42 g14 a7) [.vc (pP (some p0) 0),.vc (pI .i64 a0),.va (eQ a1),.vc (pI .i64 a2),.va (eQ a3)] (fun Ho q=>Ho=([⟨some p0,1,72,3,1,([pI .i64 a4]++[pO b4 n6 c5]++[pO b9 n11 c10])⟩,hO (cH g14) b4 c5 24 n6 a5,hO cI b9 c10 3 n11 a6]++eD cQ 42 g14 a7)∧q=.vc (pB r)):=by
 unfold lP at hF
 refine aA Tryz.func48 rfl (by kernel_rfl) Tryz.ntmps48 rfl (fun w0 M0=>?_)
 refine aC (aH (bV rfl rfl trivial (fun b20=>?_)))
 refine bV rfl rfl trivial (fun b21=>?_)
 refine go ?_ ?_
 refine aG (aP (fun H E=>mX K=some r∧H=([⟨some p0,1,72,3,1,([pI .i64 a4]++[pO b4 n6 c5]++[pO b9 n11 c10])⟩,hO (cH g14) b4 c5 24 n6 a5,hO cI b9 c10 3 n11 a6]++eD cQ 42 g14 a7)∧E=[]) ?_ (fun Jj25=>?_))
 ·rintro _ _ ⟨hF,rfl,rfl⟩
  unfold mX at hF
  refine go ?_ ?_
  refine dQ (dL ?_)
  obtain rfl:=eP hF
  exact jT (.inl rfl) Tryz.results48 (.tmp rfl .nil) rfl 3 [0,1,2] rfl rfl (by decide) ⟨rfl,rfl⟩
 obtain⟨ol24,hL,hRl24⟩:=aM hF
 refine cA (fun k a w=>∃(x23:Int),dW K a0 a1 a2 a3 a4 a5 a7 k x23=some ol24∧hs _ ([⟨some b21,1,42,4,1,(eQ a3)⟩,⟨some b20,1,42,4,1,(eQ a1)⟩,⟨some p0,1,72,3,1,([pI .i64 a4]++[pO b4 n6 c5]++[pO b9 n11 c10])⟩,hO (cH g14) b4 c5 24 n6 a5,hO cI b9 c10 3 n11 a6]++eD cQ 42 g14 a7) [(0,.vc (pP (some p0) 0)),(1,.vc (pI .i64 a0)),(3,.vc (pI .i64 a2)),(7,.vc (pP (some b20) 0)),(9,.vc (pP (some b21) 0)),(11,.vc (pI .i64 x23))] a w) K (fun a w ⟨_,hF,_⟩=>by cases hF) (fun k a w ⟨x23,hF,hh⟩=>b0 ?_ hh) (fun a w hh=>⟨(-1),hL,aR 5 [0,1,2,3,4] rfl rfl (by decide) (by exact⟨rfl,rfl,rfl,rfl,rfl,rfl,trivial⟩) hh⟩)
 rw [dW.eq_2] at hF
 refine go ?_ ?_
 refine aB hF rfl (fun h26 hF=>?_) (fun h26 hF=>?_)
 ·refine go ?_ ?_
  refine aG (aC (aH (dS ?_)))
  refine zP ?_
  refine aT (aJ (aC (aAa (fun H E=>∃(x28:Int),jU K a0 a1 a2 a3 a5 a7 x23 (dW K a0 a1 a2 a3 a4 a5 a7 k) x28=some ol24∧H=([⟨some b21,1,42,4,1,(eQ a3)⟩,⟨some b20,1,42,4,1,(eQ a1)⟩,⟨some p0,1,72,3,1,([pI .i64 a4]++[pO b4 n6 c5]++[pO b9 n11 c10])⟩,hO (cH g14) b4 c5 24 n6 a5,hO cI b9 c10 3 n11 a6]++eD cQ 42 g14 a7)∧E=[(0,.vc (pP (some p0) 0)),(1,.vc (pI .i64 a0)),(3,.vc (pI .i64 a2)),(7,.vc (pP (some b20) 0)),(9,.vc (pP (some b21) 0)),(11,.vc (pI .i64 x23)),(12,.vc (pI .i64 x28))]) ?_ (fun Jj29=>?_))))
  ·rintro _ _ ⟨x28,hF,rfl,rfl⟩
   unfold jU at hF
   refine aC ?_
   obtain⟨v32,h33,hF⟩:=aM hF
   obtain⟨v34,h35,hF⟩:=aM hF
   obtain⟨v36,h37,hF⟩:=aW hF y9
   obtain⟨v38,h39,hF⟩:=aM hF
   obtain⟨v40,h41,hF⟩:=aM hF
   obtain⟨v42,h43,hF⟩:=aW hF y9
   obtain⟨v44,h45,hF⟩:=aW hF aCn
   refine iQ (0::1::3::7::0::31::63::0::255::511::0::2047::0::4096::12288::28672::0::126976::258048::0::1044480::2093056::0::8388607::16777215::33554431::[]) 26 0 (.v (.vc (pP (some p0) 0))::.v (.vc (pP (some p0) 0))::.v (.vc (pP (some p0) 1))::.v (.vc (pO b4 n6 c5))::.v (.vc (pI .i64 a0))::.v (.vc (pE b4 a0 (cH g14).n 0))::.v (.vc (pO (gA g14 v32).1 (gA g14 v32).2.1 (gA g14 v32).2.2))::.v (.vc (pI .i64 x28))::.v (.vc (pE (gA g14 v32).1 x28 cQ.n 0))::.v (.va (eQ v34))::.v (.va (eQ a1))::.v (.va (eQ v36))::.v (.vc (pP (some p0) 0))::.v (.vc (pP (some p0) 0))::.v (.vc (pP (some p0) 1))::.v (.vc (pO b4 n6 c5))::.v (.vc (pI .i64 a2))::.v (.vc (pE b4 a2 (cH g14).n 0))::.v (.vc (pO (gA g14 v38).1 (gA g14 v38).2.1 (gA g14 v38).2.2))::.v (.vc (pI .i64 x28))::.v (.vc (pE (gA g14 v38).1 x28 cQ.n 0))::.v (.va (eQ v40))::.v (.va (eQ a3))::.v (.va (eQ v42))::.v (.vc (pI .i64 v44))::.v (.vc (pI .i64 v44))::[]) aU ⟨d0 (aL (.inl rfl)) zU1,d0 (s9 rfl) zU1,d0 (gV (off:=0) (k:=1) rfl tyF72_1) zU1,d0 (gC 2 1 rfl rfl rfl rfl (.one tyO23)) zU1,d0 (aL (.inl rfl)) zU1,d0 (cY (C:=(cH g14)) 3 rfl tyS23 rfl q7 (aD h33).1 (aD h33).2.1) zU2,d0 (iD (C:=(cH g14)) (k:=1) 3 rfl rfl h33 rfl (.one tyO24) rfl) zU1,d0 (aL (.inl rfl)) zU1,d0 (cY (5+v32) rfl tyS24 (gW 5 rfl q17 q16 (q18 _ (aO h33))) (cR q17 q16 (q18 _ (aO h33))) (aD h35).1 (aD h35).2.1) zU2,d0 (iD (k:=4) (5+v32) rfl (gW 5 rfl q17 q16 (q18 _ (aO h33))) h35 rfl (.agg tyA42) rfl) zU1,d0 (gC 1 4 rfl rfl rfl rfl (.agg tyA42)) zU1,d0 (bE rfl h37 rfl) zU2,d0 (aL (.inl rfl)) zU1,d0 (s9 rfl) zU1,d0 (gV (off:=0) (k:=1) rfl tyF72_1) zU1,d0 (gC 2 1 rfl rfl rfl rfl (.one tyO23)) zU1,d0 (aL (.inl rfl)) zU1,d0 (cY (C:=(cH g14)) 3 rfl tyS23 rfl q7 (aD h39).1 (aD h39).2.1) zU2,d0 (iD (C:=(cH g14)) (k:=1) 3 rfl rfl h39 rfl (.one tyO24) rfl) zU1,d0 (aL (.inl rfl)) zU1,d0 (cY (5+v38) rfl tyS24 (gW 5 rfl q17 q16 (q18 _ (aO h39))) (cR q17 q16 (q18 _ (aO h39))) (aD h41).1 (aD h41).2.1) zU2,d0 (iD (k:=4) (5+v38) rfl (gW 5 rfl q17 q16 (q18 _ (aO h39))) h41 rfl (.agg tyA42) rfl) zU1,d0 (gC 0 4 rfl rfl rfl rfl (.agg tyA42)) zU1,d0 (bE rfl h43 rfl) zU2,d0 (bE rfl h45 rfl) zU2,d0 (aL (.inr rfl)) zU1,trivial⟩ (fun bs31 G30=>?_)
   refine go ?_ ?_
   refine aB hF rfl (fun h46 hF=>?_) (fun h46 hF=>?_)
   ·refine go ?_ ?_
    refine dQ (dL ?_)
    obtain rfl:=eP hF
    obtain rfl:=eP hRl24
    exact jT (.inl rfl) Tryz.results48 (.tmp rfl .nil) rfl 5 [2,3,4] rfl rfl (by decide) ⟨rfl,rfl⟩
   obtain⟨v47,h48,hF⟩:=aM hF
   refine go ?_ ?_
   exact aF (fun a w hh=>⟨v47,hF,aR 5 [0,1,2,3,4] rfl rfl (by decide) (by exact⟨rfl,rfl,rfl,rfl,rfl,rfl,trivial⟩) hh⟩)
  refine go ?_ ?_
  refine aB hF rfl (fun h49 hF=>?_) (fun h49 hF=>?_)
  ·refine aH (dS ?_)
   refine aI (s9 rfl) zU1 ?_
   refine aI (gV (off:=0) (k:=0) rfl tyF72_0) zU1 ?_
   refine aI (gC 2 1 rfl rfl rfl rfl (.one tyO3)) zU1 ?_
   obtain⟨v50,h51,hF⟩:=aM hF
   refine aI (aFP rfl h51) ⟨qM _ _,rfl,trivial⟩ ?_
   obtain⟨v52,h53,hF⟩:=aM hF
   refine aI (yK rfl h53) ⟨rfl,qM _ _,trivial⟩ ?_
   refine zP ?_
   refine aT ?_
   exact eJ Jj29 ⟨v52,hF,rfl,rfl⟩ 5 [0,1,2,3,4] rfl rfl ⟨rfl,rfl,rfl,rfl,rfl,rfl,rfl,trivial⟩
  refine eU ?_
  exact eJ Jj29 ⟨x23,hF,rfl,rfl⟩ 5 [0,1,2,3,4] rfl rfl ⟨rfl,rfl,rfl,rfl,rfl,rfl,rfl,trivial⟩
 refine aV ?_
 obtain rfl:=eP hF
 exact eJ Jj25 ⟨hRl24,rfl,rfl⟩ 5 [2,3,4] rfl rfl trivial
def mN (K:Nat) (a0:Int) (a1:Int) (a4:List Int) (x57:List Nat) (x71:List (List Rat)):Option (Int×(List Nat)×(List Int)×(List (List Rat))):=
 (bF a4 a0).bind fun v77=>(bF a4 a0).bind fun v79=>(qL a4 a0 a1).bind fun x81=>some (v77,x57,x81,x71)
def mB (K:Nat) (x70:Int) (recl75:(List (List Rat))→Int→Option (List (List Rat))) (x108:List (List Rat)):Option (List (List Rat)):=
 (aS (x70+1)).bind fun v114=>recl75 x108 v114
def iY (K:Nat) (a5:List (List Rat)) (x66:List (List Rat)) (v85:Nat) (v87:Rat):Nat→(List (List Rat))→Int→Option (List (List Rat))
 |0,_,_=>none
 |k+1,x103,x107=>bif(decide (x107<((x66.getD v85 []).length:Int))) then((bF (x103.getD v85 []) x107).bind fun v119=>(bF (x103.getD a5.length []) x107).bind fun v121=>(aEr v87 v121).bind fun v123=>(aGr v119 v123).bind fun v125=>(bF (x103.getD v85 []) x107).bind fun v127=>(qL (x103.getD v85 []) x107 v125).bind fun x129=>(aS (x107+1)).bind fun v132=>iY K a5 x66 v85 v87 k (x103.set v85 x129) v132) else(some x103)
def cK (K:Nat) (a0:Int) (a1:Int) (a5:List (List Rat)) (x57:List Nat):Nat→(List (List Rat))→Int→Option (List (List Rat))
 |0,_,_=>none
 |k+1,x66,x70=>bif(decide (x70<(x57.length:Int))) then((bF x57 x70).bind fun v85=>(bF (x66.getD v85 []) a1).bind fun v87=>bif(x70==a0) then((aS (x70+1)).bind fun v91=>cK K a0 a1 a5 x57 k x66 v91) else((xD v87).bind fun v93=>bif(v93==0) then((aS (x70+1)).bind fun v96=>cK K a0 a1 a5 x57 k x66 v96) else((iY K a5 x66 v85 v87 K x66 0).bind fun x108=>mB K x70 (cK K a0 a1 a5 x57 k) x108))) else(some x66)
def mO (K:Nat) (a0:Int) (a1:Int) (a3:List Nat) (a4:List Int) (a5:List (List Rat)) (x47:List Rat):Option (Int×(List Nat)×(List Int)×(List (List Rat))):=
 (bF a3 a0).bind fun v55=>(qL a3 a0 a5.length).bind fun x57=>(cK K a0 a1 a5 x57 K (a5++[x47]) 0).bind fun x71=>mN K a0 a1 a4 x57 x71
def jH (K:Nat) (a5:List (List Rat)) (x22:List Rat) (v27:Nat) (v30:Rat):Nat→(List Rat)→Int→Option (List Rat)
 |0,_,_=>none
 |k+1,x40,x46=>bif(decide (x46<((cpL x22 (a5.getD v27 [])).length:Int))) then((bF x40 x46).bind fun v137=>(aGv v137 v30).bind fun v139=>(bF x40 x46).bind fun v141=>(qL x40 x46 v139).bind fun x143=>(aS (x46+1)).bind fun v146=>jH K a5 x22 v27 v30 k x143 v146) else(some x40)
def pH (K:Nat) (a0:Int) (a1:Int) (a2:Int) (a3:List Nat) (a4:List Int) (a5:List (List Rat)):Option (Int×(List Nat)×(List Int)×(List (List Rat))):=
 (bF a3 a0).bind fun v20=>(mkL ((a5.getD v20 []).length:Int) 0).bind fun x22=>(bF a3 a0).bind fun v27=>(bF (cpL x22 (a5.getD v27 [])) a1).bind fun v30=>(jH K a5 x22 v27 v30 K (cpL x22 (a5.getD v27 [])) 0).bind fun x47=>mO K a0 a1 a3 a4 a5 x47
theorem yZ {K:Nat} {a0:Int} {a1:Int} {a2:Int} {a3:List Nat} {a4:List Int} {a5:List (List Rat)} {r:Int×(List Nat)×(List Int)×(List (List Rat))} (hF:pH K a0 a1 a2 a3 a4 a5=some r) {p0:Nat} {b4:Option Nat} {c5 n6:Nat} {b9:Option Nat} {c10 n11:Nat} {g14:List rK} {N15:Nat} (q7:a3.length=n6) (q12:a4.length=n11) (q16:a5.length=N15) (q17:cJ g14 a5) (q18:∀k∈a3,k<N15):CtO Tryz.prog 49 ([⟨some p0,1,72,3,1,([pI .i64 a2]++[pO b4 n6 c5]++[pO b9 n11 c10])⟩,hO (cH g14) b4 c5 24 n6 a3,hO cI b9 c10 3 n11 a4]++eD cQ 42 g14 a5) [.vc (pP (some p0) 0),.vc (pI .i64 a0),.vc (pI .i64 a1)] (fun Ho q=>∃b1148 c1149 n1150 g1155 N1156,r.2.1.length=n1150∧r.2.2.1.length=n11∧r.2.2.2.length=N1156∧cJ g1155 r.2.2.2∧(∀k∈r.2.1,k<N1156)∧Ho=([⟨some p0,1,72,3,1,([pI .i64 a2]++[pO b1148 n1150 c1149]++[pO b9 n11 c10])⟩,hO (cH g1155) b1148 c1149 24 n1150 r.2.1,hO cI b9 c10 3 n11 r.2.2.1]++eD cQ 42 g1155 r.2.2.2)∧q=.vc (pI .i64 r.1)):=by
 unfold pH at hF
 refine aA Tryz.func49 rfl (by kernel_rfl) Tryz.ntmps49 rfl (fun w0 M0=>?_)
 obtain⟨v20,h21,hF⟩:=aM hF
 refine go ?_ ?_
 refine aI (aB3 (C:=cQ) (xs:=(a5.getD v20 [])) (T:=42) rfl tyS24 (cR q17 q16 (q18 _ (aO h21)))) zU1 ?_
 obtain⟨x22,h23,hF⟩:=aM hF
 refine nN (C:=cQ) rfl tyS24 rfl tyZ42q rfl h23 (fun b24=>?_)
 have hF:=tJ h21 hF
 refine go ?_ ?_
 refine aI (aRO 0 (4+v20) rfl tyS24 rfl rfl (rV 4 rfl q17 q16 (q18 _ (aO h21))) (cR q17 q16 (q18 _ (aO h21))) rfl) zU2 ?_
 obtain⟨v30,h31,hF⟩:=aM hF
 refine go ?_ ?_
 refine aI (cY (C:=cQ) 0 rfl tyS24 rfl (aEo rfl) (aD h31).1 (aD h31).2.1) zU2 ?_
 refine aI (iD (k:=4) 0 rfl rfl h31 rfl (.agg tyA42) rfl) zU1 ?_
 refine aN rfl tyZ42q (fun b32=>?_)
 refine go ?_ ?_
 refine aI (aB3 (C:=cQ) (xs:=(cpL x22 (a5.getD v20 []))) (T:=42) rfl tyS24 (aEo rfl)) zU1 ?_
 refine go ?_ ?_
 refine aG (aP (fun H E=>∃(x47:List Rat),mO K a0 a1 a3 a4 a5 x47=some r∧x47.length=x22.length∧H=([hO cQ b24 x22.length 42 x22.length x47,⟨some p0,1,72,3,1,([pI .i64 a2]++[pO b4 n6 c5]++[pO b9 n11 c10])⟩,hO (cH g14) b4 c5 24 n6 a3,hO cI b9 c10 3 n11 a4]++eD cQ 42 g14 a5)∧E=[(0,.vc (pP (some p0) 0)),(1,.vc (pI .i64 a0)),(2,.vc (pI .i64 a1)),(7,.vc (pO b24 x22.length x22.length))]) ?_ (fun Jj54=>?_))
 ·rintro _ _ ⟨x47,hF,q51,rfl,rfl⟩
  unfold mO at hF
  refine aJ (aC (aH (dS ?_)))
  refine aI (s9 rfl) zU1 ?_
  refine aI (gV (off:=0) (k:=1) rfl tyF72_1) zU1 ?_
  refine aI (gC 1 1 rfl rfl rfl rfl (.one tyO23)) zU1 ?_
  refine dS ?_
  refine dS ?_
  have hF:=tJ h21 hF
  refine aI (cY (C:=(cH g14)) 2 rfl tyS23 rfl q7 (aD h21).1 (aD h21).2.1) zU2 ?_
  obtain⟨x57,h58,hF⟩:=aM hF
  refine aSc (show([hO cQ b24 x22.length 42 x22.length x47,⟨some p0,1,72,3,1,([pI .i64 a2]++[pO b4 n6 c5]++[pO b9 n11 c10])⟩,hO (cH (g14++[(b24,x22.length,x22.length)])) b4 c5 24 n6 a3,hO cI b9 c10 3 n11 a4]++eD cQ 42 g14 a5)=([hO cQ b24 x22.length 42 x22.length x47,⟨some p0,1,72,3,1,([pI .i64 a2]++[pO b4 n6 c5]++[pO b9 n11 c10])⟩,hO (cH g14) b4 c5 24 n6 a3,hO cI b9 c10 3 n11 a4]++eD cQ 42 g14 a5) from by rw [aGo (N:=a5.length) (b24,x22.length,x22.length) q17.1 (yI q16 q18)]) ?_
  refine mD (yM (C:=cH (g14++[(b24,x22.length,x22.length)])) (z':=a5.length) 2 rfl rfl h21 h58 tyO24.s (hq:=aNI (b24,x22.length,x22.length) q17.1)) zU2 ?_
  refine aEq (g:=(b24,x22.length,x22.length)) 0 4 rfl rfl rfl q17 ?_
  refine aPF 7 rfl (aOn (N:=a5.length) (b24,x22.length,x22.length) q17.1) ?_
  refine go ?_ ?_
  refine aG (aP (fun H E=>∃(x71:List (List Rat)),mN K a0 a1 a4 x57 x71=some r∧x71.length=(N15+1)∧cJ (g14++[(b24,x22.length,x22.length)]) x71∧H=([⟨some p0,1,72,3,1,([pI .i64 a2]++[pO b4 n6 c5]++[pO b9 n11 c10])⟩,hO (cH (g14++[(b24,x22.length,x22.length)])) b4 c5 24 n6 x57,hO cI b9 c10 3 n11 a4]++eD cQ 42 (g14++[(b24,x22.length,x22.length)]) x71)∧E=[(0,.vc (pP (some p0) 0)),(1,.vc (pI .i64 a0)),(2,.vc (pI .i64 a1))]) ?_ (fun Jj76=>?_))
  ·rintro _ _ ⟨x71,hF,q72,q73,rfl,rfl⟩
   unfold mN at hF
   obtain⟨v77,h78,hF⟩:=aM hF
   have hF:=tJ h78 hF
   obtain⟨x81,h82,hF⟩:=aM hF
   refine go ?_ ?_
   refine dQ (dL ?_)
   obtain rfl:=eP hF
   exact jT (.inl rfl) Tryz.results49 (.tmp rfl .nil) rfl 3 [0,1,2] rfl rfl (by decide) ⟨b4,c5,n6,(g14++[(b24,x22.length,x22.length)]),(N15+1),(bC h58 q7),(bC h82 q12),q72,q73,(wU q18 h58 q16),rfl,rfl⟩
  obtain⟨x71',hL,hRl75⟩:=aM hF
  refine cA (fun k a w=>∃(x66:List (List Rat)),∃(x70:Int),cK K a0 a1 a5 x57 k x66 x70=some x71'∧x66.length=(N15+1)∧cJ (g14++[(b24,x22.length,x22.length)]) x66∧hs _ ([⟨some p0,1,72,3,1,([pI .i64 a2]++[pO b4 n6 c5]++[pO b9 n11 c10])⟩,hO (cH (g14++[(b24,x22.length,x22.length)])) b4 c5 24 n6 x57,hO cI b9 c10 3 n11 a4]++eD cQ 42 (g14++[(b24,x22.length,x22.length)]) x66) [(0,.vc (pP (some p0) 0)),(1,.vc (pI .i64 a0)),(2,.vc (pI .i64 a1)),(7,.vc (pO (gA (g14++[(b24,x22.length,x22.length)]) a5.length).1 (gA (g14++[(b24,x22.length,x22.length)]) a5.length).2.1 (gA (g14++[(b24,x22.length,x22.length)]) a5.length).2.2)),(62,.vc (pO b4 n6 c5)),(63,.vc (pI .i64 (x57.length:Int))),(64,.vc (pI .i64 x70))] a w) K (fun a w ⟨_,_,hF,_,_,_⟩=>by cases hF) (fun k a w ⟨x66,x70,hF,q67,q68,hh⟩=>b0 ?_ hh) (fun a w hh=>⟨(a5++[x47]),0,hL,(aCM q16),(aAB q17 q51),aR 3 [0,1,2] rfl rfl (by decide) (by exact⟨rfl,rfl,rfl,rfl,rfl,rfl,rfl,trivial⟩) hh⟩)
  rw [cK.eq_2] at hF
  refine go ?_ ?_
  refine aB hF rfl (fun h84 hF=>?_) (fun h84 hF=>?_)
  ·refine go ?_ ?_
   refine aG ?_
   obtain⟨v85,h86,v87,h88,hF⟩:=tW hF
   refine go ?_ ?_
   refine aI (cY (3+v85) rfl tyS24 (rV 3 rfl q68 q67 ((wU q18 h58 q16) _ (aO h86))) (cR q68 q67 ((wU q18 h58 q16) _ (aO h86))) (aD h88).1 (aD h88).2.1) zU2 ?_
   refine aI (iD (k:=4) (3+v85) rfl (rV 3 rfl q68 q67 ((wU q18 h58 q16) _ (aO h86))) h88 rfl (.agg tyA42) rfl) zU1 ?_
   refine aN rfl tyZ42q (fun b89=>?_)
   refine go ?_ ?_
   refine cC hF (fun h90 hF=>?_) (fun h90 hF=>?_)
   ·refine go ?_ ?_
    refine fV rfl ?_
    refine aV ?_
    obtain⟨v91,h92,hF⟩:=aM hF
    refine go ?_ ?_
    exact aF (fun a w hh=>⟨x66,v91,hF,q67,q68,aR 4 [1,2,3] rfl rfl (by decide) (by exact⟨rfl,rfl,rfl,rfl,rfl,rfl,rfl,trivial⟩) hh⟩)
   obtain⟨v93,h94,hF⟩:=aW hF eS
   refine go ?_ ?_
   refine aB hF rfl (fun h95 hF=>?_) (fun h95 hF=>?_)
   ·refine aV ?_
    obtain⟨v96,h97,hF⟩:=aM hF
    refine go ?_ ?_
    exact aF (fun a w hh=>⟨x66,v96,hF,q67,q68,aR 4 [1,2,3] rfl rfl (by decide) (by exact⟨rfl,rfl,rfl,rfl,rfl,rfl,rfl,trivial⟩) hh⟩)
   refine go ?_ ?_
   refine aI (aB3 (C:=cQ) (xs:=(x66.getD v85 [])) (T:=42) rfl tyS24 (cR q68 q67 ((wU q18 h58 q16) _ (aO h86)))) zU1 ?_
   refine go ?_ ?_
   refine aG (aP (fun H E=>∃(x108:List (List Rat)),mB K x70 (cK K a0 a1 a5 x57 k) x108=some x71'∧x108.length=(N15+1)∧cJ (g14++[(b24,x22.length,x22.length)]) x108∧H=([⟨some p0,1,72,3,1,([pI .i64 a2]++[pO b4 n6 c5]++[pO b9 n11 c10])⟩,hO (cH (g14++[(b24,x22.length,x22.length)])) b4 c5 24 n6 x57,hO cI b9 c10 3 n11 a4]++eD cQ 42 (g14++[(b24,x22.length,x22.length)]) x108)∧E=[(0,.vc (pP (some p0) 0)),(1,.vc (pI .i64 a0)),(2,.vc (pI .i64 a1)),(7,.vc (pO (gA (g14++[(b24,x22.length,x22.length)]) a5.length).1 (gA (g14++[(b24,x22.length,x22.length)]) a5.length).2.1 (gA (g14++[(b24,x22.length,x22.length)]) a5.length).2.2)),(62,.vc (pO b4 n6 c5)),(63,.vc (pI .i64 (x57.length:Int))),(64,.vc (pI .i64 x70)),(77,.va (eQ v87)),(78,.vc (pI .i64 v93)),(79,.vc (pB (v93==0)))]) ?_ (fun Jj113=>?_))
   ·rintro _ _ ⟨x108,hF,q109,q110,rfl,rfl⟩
    unfold mB at hF
    obtain⟨v114,h115,hF⟩:=aM hF
    refine go ?_ ?_
    exact aF (fun a w hh=>⟨x108,v114,hF,q109,q110,aR 3 [0,1,2] rfl rfl (by decide) (by exact⟨rfl,rfl,rfl,rfl,rfl,rfl,rfl,trivial⟩) hh⟩)
   obtain⟨x108',hL,hRl112⟩:=aM hF
   refine cA (fun k a w=>∃(x103:List (List Rat)),∃(x107:Int),iY K a5 x66 v85 v87 k x103 x107=some x108'∧x103.length=(N15+1)∧cJ (g14++[(b24,x22.length,x22.length)]) x103∧hs _ ([⟨some b89,1,42,4,1,(eQ v87)⟩,⟨some p0,1,72,3,1,([pI .i64 a2]++[pO b4 n6 c5]++[pO b9 n11 c10])⟩,hO (cH (g14++[(b24,x22.length,x22.length)])) b4 c5 24 n6 x57,hO cI b9 c10 3 n11 a4]++eD cQ 42 (g14++[(b24,x22.length,x22.length)]) x103) [(0,.vc (pP (some p0) 0)),(1,.vc (pI .i64 a0)),(2,.vc (pI .i64 a1)),(7,.vc (pO (gA (g14++[(b24,x22.length,x22.length)]) a5.length).1 (gA (g14++[(b24,x22.length,x22.length)]) a5.length).2.1 (gA (g14++[(b24,x22.length,x22.length)]) a5.length).2.2)),(11,.vc (pO (gA (g14++[(b24,x22.length,x22.length)]) v85).1 (gA (g14++[(b24,x22.length,x22.length)]) v85).2.1 (gA (g14++[(b24,x22.length,x22.length)]) v85).2.2)),(12,.vc (pP (some b89) 0)),(62,.vc (pO b4 n6 c5)),(63,.vc (pI .i64 (x57.length:Int))),(64,.vc (pI .i64 x70)),(77,.va (eQ v87)),(78,.vc (pI .i64 v93)),(79,.vc (pB (v93==0))),(82,.vc (pI .i64 ((x66.getD v85 []).length:Int))),(83,.vc (pI .i64 x107))] a w) K (fun a w ⟨_,_,hF,_,_,_⟩=>by cases hF) (fun k a w ⟨x103,x107,hF,q104,q105,hh⟩=>b0 ?_ hh) (fun a w hh=>⟨x66,0,hL,q67,q68,aR 4 [0,1,2,3] rfl rfl (by decide) (by exact⟨rfl,rfl,rfl,rfl,rfl,rfl,rfl,rfl,rfl,rfl,rfl,rfl,rfl,rfl,trivial⟩) hh⟩)
   rw [iY.eq_2] at hF
   refine go ?_ ?_
   refine aB hF rfl (fun h116 hF=>?_) (fun h116 hF=>?_)
   ·refine go ?_ ?_
    refine aG ?_
    obtain⟨v119,h120,v121,h122,hF⟩:=tW hF
    obtain⟨v123,h124,hF⟩:=aW hF xR
    obtain⟨v125,h126,hF⟩:=aW hF zD
    have hF:=tJ h120 hF
    refine go ?_ ?_
    refine iQ [0,0,0,0,12,28,0,0,0,384,896,1984,4092,8191,16383] 14 1 [.v (.vc (pO (gA (g14++[(b24,x22.length,x22.length)]) v85).1 (gA (g14++[(b24,x22.length,x22.length)]) v85).2.1 (gA (g14++[(b24,x22.length,x22.length)]) v85).2.2)),.v (.vc (pI .i64 x107)),.v (.vc (pO (gA (g14++[(b24,x22.length,x22.length)]) v85).1 (gA (g14++[(b24,x22.length,x22.length)]) v85).2.1 (gA (g14++[(b24,x22.length,x22.length)]) v85).2.2)),.v (.vc (pI .i64 x107)),.v (.vc (pE (gA (g14++[(b24,x22.length,x22.length)]) v85).1 x107 cQ.n 0)),.v (.va (eQ v119)),.v (.va (eQ v87)),.v (.vc (pO (gA (g14++[(b24,x22.length,x22.length)]) a5.length).1 (gA (g14++[(b24,x22.length,x22.length)]) a5.length).2.1 (gA (g14++[(b24,x22.length,x22.length)]) a5.length).2.2)),.v (.vc (pI .i64 x107)),.v (.vc (pE (gA (g14++[(b24,x22.length,x22.length)]) a5.length).1 x107 cQ.n 0)),.v (.va (eQ v121)),.v (.va (eQ v123)),.v (.va (eQ v125)),.v (.vc (pE (gA (g14++[(b24,x22.length,x22.length)]) v85).1 x107 cQ.n 0))] aU ⟨d0 (aL (.inl rfl)) zU1,d0 (aL (.inl rfl)) zU1,d0 (aL (.inl rfl)) zU1,d0 (aL (.inl rfl)) zU1,d0 (cY (4+v85) rfl tyS24 (gW 4 rfl q105 q104 ((wU q18 h58 q16) _ (aO h86))) (cR q105 q104 ((wU q18 h58 q16) _ (aO h86))) (aD h120).1 (aD h120).2.1) zU2,d0 (iD (k:=4) (4+v85) rfl (gW 4 rfl q105 q104 ((wU q18 h58 q16) _ (aO h86))) h120 rfl (.agg tyA42) rfl) zU1,d0 (gC 0 4 rfl rfl rfl rfl (.agg tyA42)) zU1,d0 (aL (.inl rfl)) zU1,d0 (aL (.inl rfl)) zU1,d0 (cY (4+a5.length) rfl tyS24 (gW 4 rfl q105 q104 (aIG q16)) (cR q105 q104 (aIG q16)) (aD h122).1 (aD h122).2.1) zU2,d0 (iD (k:=4) (4+a5.length) rfl (gW 4 rfl q105 q104 (aIG q16)) h122 rfl (.agg tyA42) rfl) zU1,d0 (bE rfl h124 rfl) zU2,d0 (bE rfl h126 rfl) zU2,d0 (cY (4+v85) rfl tyS24 (gW 4 rfl q105 q104 ((wU q18 h58 q16) _ (aO h86))) (cR q105 q104 ((wU q18 h58 q16) _ (aO h86))) (aD h120).1 (aD h120).2.1) zU2,trivial⟩ (fun bs118 G117=>?_)
    obtain⟨x129,h130,hF⟩:=aM hF
    refine mD (yM (H':=([⟨some b89,1,42,4,1,(eQ v87)⟩,⟨some p0,1,72,3,1,([pI .i64 a2]++[pO b4 n6 c5]++[pO b9 n11 c10])⟩,hO (cH (g14++[(b24,x22.length,x22.length)])) b4 c5 24 n6 x57,hO cI b9 c10 3 n11 a4]++eD cQ 42 (g14++[(b24,x22.length,x22.length)]) (x103.set v85 x129))) (4+v85) rfl (rV 4 rfl q105 q104 ((wU q18 h58 q16) _ (aO h86))) h120 h130 tyA42.s (hH:=stN 4 rfl q105 q104 ((wU q18 h58 q16) _ (aO h86)))) zU2 ?_
    obtain⟨v132,h133,hF⟩:=aM hF
    refine go ?_ ?_
    exact aF (fun a w hh=>⟨(x103.set v85 x129),v132,hF,(aBR q104),(aDI q105 q104 ((wU q18 h58 q16) _ (aO h86)) (bC h130 rfl)),aR 4 [0,1,2,3] rfl rfl (by decide) (by exact⟨rfl,rfl,rfl,rfl,rfl,rfl,rfl,rfl,rfl,rfl,rfl,rfl,rfl,rfl,trivial⟩) hh⟩)
   refine aV ?_
   obtain rfl:=eP hF
   exact eJ Jj113 ⟨x103,hRl112,q104,q105,rfl,rfl⟩ 4 [1,2,3] rfl rfl ⟨rfl,rfl,rfl,rfl,rfl,rfl,rfl,rfl,rfl,rfl,trivial⟩
  refine aV ?_
  obtain rfl:=eP hF
  exact eJ Jj76 ⟨x66,hRl75,q67,q68,rfl,rfl⟩ 3 [0,1,2] rfl rfl ⟨rfl,rfl,rfl,trivial⟩
 obtain⟨x47',hL,hRl53⟩:=aM hF
 refine cA (fun k a w=>∃(x40:List Rat),∃(x46:Int),jH K a5 x22 v20 v30 k x40 x46=some x47'∧x40.length=x22.length∧hs _ ([⟨some b32,1,42,4,1,(eQ v30)⟩,hO cQ b24 x22.length 42 x22.length x40,⟨some p0,1,72,3,1,([pI .i64 a2]++[pO b4 n6 c5]++[pO b9 n11 c10])⟩,hO (cH g14) b4 c5 24 n6 a3,hO cI b9 c10 3 n11 a4]++eD cQ 42 g14 a5) [(0,.vc (pP (some p0) 0)),(1,.vc (pI .i64 a0)),(2,.vc (pI .i64 a1)),(7,.vc (pO b24 x22.length x22.length)),(8,.vc (pP (some b32) 0)),(38,.vc (pI .i64 ((cpL x22 (a5.getD v20 [])).length:Int))),(39,.vc (pI .i64 x46))] a w) K (fun a w ⟨_,_,hF,_,_⟩=>by cases hF) (fun k a w ⟨x40,x46,hF,q44,hh⟩=>b0 ?_ hh) (fun a w hh=>⟨(cpL x22 (a5.getD v20 [])),0,hL,(aEo rfl),aR 5 [0,1,2,3,4] rfl rfl (by decide) (by exact⟨rfl,rfl,rfl,rfl,rfl,rfl,rfl,trivial⟩) hh⟩)
 rw [jH.eq_2] at hF
 refine go ?_ ?_
 refine aB hF rfl (fun h134 hF=>?_) (fun h134 hF=>?_)
 ·refine go ?_ ?_
  refine aG ?_
  obtain⟨v137,h138,hF⟩:=aM hF
  obtain⟨v139,h140,hF⟩:=aW hF y9
  have hF:=tJ h138 hF
  refine go ?_ ?_
  refine dr [0,0,0,0,12,28,0,124,255,511] 9 1 ?_ (fun bs136 G135=>?_)
  obtain⟨x143,h144,v146,h147,hF⟩:=tW hF
  refine go ?_ ?_
  exact aF (fun a w hh=>⟨x143,v146,hF,(bC h144 q44),aR 5 [0,1,2,3,4] rfl rfl (by decide) (by exact⟨rfl,rfl,rfl,rfl,rfl,rfl,rfl,trivial⟩) hh⟩)
 refine aV ?_
 obtain rfl:=eP hF
 exact eJ Jj54 ⟨x40,hRl53,q44,rfl,rfl⟩ 5 [1,2,3,4] rfl rfl ⟨rfl,rfl,rfl,rfl,trivial⟩
def uZ (K:Nat):Option (bQ×Int):=
 none
def uB (K:Nat) (x86:Int) (v90:Int×(List Nat)×(List Int)×(List (List Rat))) (x116:Int) (recl87:(List Nat)→(List Int)→(List (List Rat))→Int→Int→Int→Option (LR (bQ×Int) Unit)) (x122:Int):Option (LR (bQ×Int) Unit):=
 bif(decide (x122<0)) then(some (.ret ((⟨([]:List Rat),([]:List Rat),0⟩:bQ),15))) else((aS (x86+1)).bind fun v126=>recl87 v90.2.1 v90.2.2.1 v90.2.2.2 x122 x116 v126)
def iN (K:Nat) (v6:Int×(List Nat)×(List Int)×(List (List Rat))) (v90:Int×(List Nat)×(List Int)×(List (List Rat))) (x116:Int):Nat→Int→Int→Option Int
 |0,_,_=>none
 |k+1,x120,x121=>bif(decide (x121<(v90.2.1.length:Int))) then((bF v90.2.1 x121).bind fun v129=>(bF (v90.2.2.2.getD v129 []) x116).bind fun v133=>(xD v133).bind fun v135=>bif(decide (0<v135)) then(bif(decide (x120<0)) then((aS (x121+1)).bind fun v139=>iN K v6 v90 x116 k x121 v139) else((bF (v90.2.2.2.getD v129 []) x116).bind fun v141=>(bF v90.2.1 x120).bind fun v143=>(bF (v90.2.2.2.getD v143 []) x116).bind fun v145=>(lP K x121 v141 x120 v145 v6.1 v90.2.1 v90.2.2.1 v90.2.2.2).bind fun v147=>bif v147 then((aS (x121+1)).bind fun v150=>iN K v6 v90 x116 k x121 v150) else((aS (x121+1)).bind fun v152=>iN K v6 v90 x116 k x120 v152))) else((aS (x121+1)).bind fun v154=>iN K v6 v90 x116 k x120 v154)) else(some x120)
def pW (K:Nat) (v6:Int×(List Nat)×(List Int)×(List (List Rat))) (x86:Int) (v90:Int×(List Nat)×(List Int)×(List (List Rat))) (recl87:(List Nat)→(List Int)→(List (List Rat))→Int→Int→Int→Option (LR (bQ×Int) Unit)) (x116:Int):Option (LR (bQ×Int) Unit):=
 (iN K v6 v90 x116 K (-1) 0).bind fun x122=>uB K x86 v90 x116 recl87 x122
def iV (K:Nat) (a2:Int) (v6:Int×(List Nat)×(List Int)×(List (List Rat))):Nat→(List Nat)→(List Int)→(List (List Rat))→Int→Int→Int→Option (LR (bQ×Int) Unit)
 |0,_,_,_,_,_,_=>none
 |k+1,x66,x72,x78,x84,x85,x86=>bif(x86==a2) then(some (.ret ((⟨([]:List Rat),([]:List Rat),0⟩:bQ),16))) else((pH K x84 x85 v6.1 x66 x72 x78).bind fun v90=>(aS (2*v6.1)).bind fun v105=>bif(v90.1==v105) then((kP K v6.1 v90.2.1 v90.2.2.1 v90.2.2.2).bind fun v108=>(aS (x86+1)).bind fun v111=>some (.ret ((⟨v108.z,v108.w,v111⟩:bQ),0))) else((aS (v90.1+v6.1)).bind fun v113=>bif(decide (v6.1≤v90.1)) then((aS (v90.1-v6.1)).bind fun v157=>pW K v6 x86 v90 (iV K a2 v6 k) v157) else(pW K v6 x86 v90 (iV K a2 v6 k) v113)))
def vA (K:Nat) (a2:Int) (v6:Int×(List Nat)×(List Int)×(List (List Rat))) (x40:Int):Option (bQ×Int):=
 (aS (2*v6.1)).bind fun v43=>(iV K a2 v6 K v6.2.1 v6.2.2.1 v6.2.2.2 x40 v43 0).bind fun o=>match o with| .ret r=>some r| .go _=>uZ K
def mP (K:Nat) (v6:Int×(List Nat)×(List Int)×(List (List Rat))) (v33:Rat):Nat→Int→Int→Option Int
 |0,_,_=>none
 |k+1,x38,x39=>bif(decide (x39<v6.1)) then((lP K x39 v33 x38 v33 v6.1 v6.2.1 v6.2.2.1 v6.2.2.2).bind fun v160=>bif v160 then((aS (x39+1)).bind fun v163=>mP K v6 v33 k x39 v163) else((aS (x39+1)).bind fun v165=>mP K v6 v33 k x38 v165)) else(some x38)
def oM (K:Nat) (a0:List (List Rat)) (a1:List Rat) (a2:Int):Option (bQ×Int):=
 (dC K a0 a1).bind fun v2=>bif(!v2) then(some ((⟨([]:List Rat),([]:List Rat),0⟩:bQ),1)) else(bif(decide (a2<0)) then(some ((⟨([]:List Rat),([]:List Rat),0⟩:bQ),1)) else((vO K a0 a1).bind fun v6=>(gX K a1).bind fun v28=>bif(!v28) then((kP K v6.1 v6.2.1 v6.2.2.1 v6.2.2.2).bind fun v31=>some (v31,0)) else((qof 1 1).bind fun v33=>(mP K v6 v33 K 0 0).bind fun x40=>vA K a2 v6 x40)))
theorem wZ {K:Nat} {a0:List (List Rat)} {a1:List Rat} {a2:Int} {r:bQ×Int} (hF:oM K a0 a1 a2=some r):Ct Tryz.prog 13 [.vc (pS (bJ cQ) a0),.vc (pS cQ a1),.vc (pI .i64 a2)] (.t2 (.va (bQ.enc r.1)) (.vc (pI .i64 r.2))):=by
 unfold oM at hF
 refine aA Tryz.func13 rfl (by kernel_rfl) Tryz.ntmps13 rfl (fun w0 M0=>?_)
 refine aC (aH (aN rfl tyZ30q (fun b1=>?_)))
 obtain⟨v2,h3,hF⟩:=aW hF qP
 refine go ?_ ?_
 refine cC hF (fun h4 hF=>?_) (fun h4 hF=>?_)
 ·refine go ?_ ?_
  refine fV rfl ?_
  refine aC (aH (aI (gU (is:=[]) (xs:=[]) (ps:=[]) rfl tyB30q rfl rfl trivial rfl) trivial ?_))
  exact bI
 refine go ?_ ?_
 refine aB hF rfl (fun h5 hF=>?_) (fun h5 hF=>?_)
 ·refine aC (aH (aI (gU (is:=[]) (xs:=[]) (ps:=[]) rfl tyB30q rfl rfl trivial rfl) trivial ?_))
  exact bI
 obtain⟨v6,h7,hF⟩:=aM hF
 refine go ?_ ?_
 refine aFC [] [0] rfl (aBs h7) zU2 rfl rfl (by decide) ?_
 rintro _ _ ⟨b8,b12,c13,n14,b17,c18,n19,g22,N23,q15,q20,q24,q25,q26,rfl,rfl⟩
 refine mM (jS [⟨some b8,1,72,3,1,([pI .i64 v6.1]++[pO b12 n14 c13]++[pO b17 n19 c18])⟩,hO (cH g22) b12 c13 24 n14 v6.2.1,hO cI b17 c18 3 n19 v6.2.2.1] (eD cQ 42 g22 v6.2.2.2) [⟨some b1,1,30,3,1,([pS cQ ([]:List Rat)]++[pS cQ ([]:List Rat)]++[pI .i64 0])⟩]) ?_
 obtain⟨v28,h29,hF⟩:=aW hF qZ
 refine go ?_ ?_
 refine aB hF rfl (fun h30 hF=>?_) (fun h30 hF=>?_)
 ·obtain⟨v31,h32,hF⟩:=aM hF
  refine go ?_ ?_
  refine o7 4 [0,1,2] [3] rfl (tI h32 q15 q20 q24 q25 q26) zU1 rfl rfl rfl (by decide) ?_
  rintro _ _ ⟨rfl,rfl⟩
  refine mM (jS [⟨some b8,1,72,3,1,([pI .i64 v6.1]++[pO b12 n14 c13]++[pO b17 n19 c18])⟩,hO (cH g22) b12 c13 24 n14 v6.2.1,hO cI b17 c18 3 n19 v6.2.2.1] (eD cQ 42 g22 v6.2.2.2) [⟨some b1,1,30,3,1,([pS cQ ([]:List Rat)]++[pS cQ ([]:List Rat)]++[pI .i64 0])⟩]) ?_
  exact bI
 obtain⟨v33,h34,hF⟩:=aW hF uH
 refine go ?_ ?_
 refine aN rfl tyZ42q (fun b35=>?_)
 refine go ?_ ?_
 refine aG (aP (fun H E=>∃(x40:Int),vA K a2 v6 x40=some r∧H=([⟨some b8,1,72,3,1,([pI .i64 v6.1]++[pO b12 n14 c13]++[pO b17 n19 c18])⟩,hO (cH g22) b12 c13 24 n14 v6.2.1,hO cI b17 c18 3 n19 v6.2.2.1,⟨some b1,1,30,3,1,([pS cQ ([]:List Rat)]++[pS cQ ([]:List Rat)]++[pI .i64 0])⟩]++eD cQ 42 g22 v6.2.2.2)∧E=[(2,.vc (pI .i64 a2)),(6,.vc (pP (some b1) 0)),(8,.vc (pP (some b8) 0)),(10,.vc (pI .i64 x40))]) ?_ (fun Jj42=>?_))
 ·rintro _ _ ⟨x40,hF,rfl,rfl⟩
  unfold vA at hF
  obtain⟨v43,h44,hF⟩:=aM hF
  refine go ?_ ?_
  refine aG (aP (fun H E=>uZ K=some r∧H=[]∧E=[]) ?_ (fun Jj88=>?_))
  ·rintro _ _ ⟨hF,rfl,rfl⟩
   unfold uZ at hF
   cases hF
  obtain⟨ol87,hL,hRl87⟩:=aM hF
  refine cA (fun k a w=>∃(x66:List Nat),∃(x72:List Int),∃(x78:List (List Rat)),∃(x84:Int),∃(x85:Int),∃(x86:Int),∃(b67:Option Nat),∃(c68:Nat),∃(n69:Nat),∃(g79:List rK),∃(N80:Nat),iV K a2 v6 k x66 x72 x78 x84 x85 x86=some ol87∧x66.length=n69∧x72.length=n19∧x78.length=N80∧cJ g79 x78∧(∀k∈x66,k<N80)∧hs _ ([⟨some b8,1,72,3,1,([pI .i64 v6.1]++[pO b67 n69 c68]++[pO b17 n19 c18])⟩,hO (cH g79) b67 c68 24 n69 x66,hO cI b17 c18 3 n19 x72,⟨some b1,1,30,3,1,([pS cQ ([]:List Rat)]++[pS cQ ([]:List Rat)]++[pI .i64 0])⟩]++eD cQ 42 g79 x78) [(2,.vc (pI .i64 a2)),(6,.vc (pP (some b1) 0)),(8,.vc (pP (some b8) 0)),(10,.vc (pI .i64 x84)),(12,.vc (pI .i64 x85)),(13,.vc (pI .i64 x86))] a w) K (fun a w ⟨_,_,_,_,_,_,_,_,_,_,_,hF,_,_,_,_,_,_⟩=>by cases hF) (fun k a w ⟨x66,x72,x78,x84,x85,x86,b67,c68,n69,g79,N80,hF,q70,q76,q81,q82,q83,hh⟩=>b0 ?_ hh) (fun a w hh=>⟨v6.2.1,v6.2.2.1,v6.2.2.2,x40,v43,0,b12,c13,n14,g22,N23,hL,q15,q20,q24,q25,q26,aR 4 [0,1,2,3] rfl rfl (by decide) (by exact⟨rfl,rfl,rfl,rfl,rfl,rfl,trivial⟩) hh⟩)
  rw [iV.eq_2] at hF
  refine aC (aG (go ?_ ?_))
  refine aB hF rfl (fun h89 hF=>?_) (fun h89 hF=>?_)
  ·refine aC (aH (aI (gU (is:=[]) (xs:=[]) (ps:=[]) rfl tyB30q rfl rfl trivial rfl) trivial ?_))
   exact bI
  obtain⟨v90,h91,hF⟩:=aM hF
  refine go ?_ ?_
  refine o7 4 [0,1,2] [3] rfl (yZ h91 q70 q76 q81 q82 q83) ⟨rfl,rfl,rfl,trivial⟩ rfl rfl rfl (by decide) ?_
  rintro _ _ ⟨b92,c93,n94,g99,N100,q95,q97,q101,q102,q103,rfl,rfl⟩
  refine mM (jS [⟨some b8,1,72,3,1,([pI .i64 v6.1]++[pO b92 n94 c93]++[pO b17 n19 c18])⟩,hO (cH g99) b92 c93 24 n94 v90.2.1,hO cI b17 c18 3 n19 v90.2.2.1] (eD cQ 42 g99 v90.2.2.2) [⟨some b1,1,30,3,1,([pS cQ ([]:List Rat)]++[pS cQ ([]:List Rat)]++[pI .i64 0])⟩]) ?_
  have hF:=tJ h44 hF
  refine go ?_ ?_
  refine aB hF rfl (fun h107 hF=>?_) (fun h107 hF=>?_)
  ·obtain⟨v108,h109,hF⟩:=aM hF
   refine go ?_ ?_
   refine o7 4 [0,1,2] [3] rfl (tI h109 q95 q97 q101 q102 q103) zU1 rfl rfl rfl (by decide) ?_
   rintro _ _ ⟨rfl,rfl⟩
   refine mM (jS [⟨some b8,1,72,3,1,([pI .i64 v6.1]++[pO b92 n94 c93]++[pO b17 n19 c18])⟩,hO (cH g99) b92 c93 24 n94 v90.2.1,hO cI b17 c18 3 n19 v90.2.2.1] (eD cQ 42 g99 v90.2.2.2) [⟨some b1,1,30,3,1,([pS cQ ([]:List Rat)]++[pS cQ ([]:List Rat)]++[pI .i64 0])⟩]) ?_
   refine aN rfl tyZ30q (fun b110=>?_)
   obtain⟨v111,h112,hF⟩:=aM hF
   exact bI
  refine eU (aJ (aC (aH (dS ?_))))
  refine dS ?_
  refine aI (s9 rfl) zU1 ?_
  refine aI (gV (off:=0) (k:=0) rfl tyF72_0) zU1 ?_
  refine aI (gC 0 1 rfl rfl rfl rfl (.one tyO3)) zU1 ?_
  obtain⟨v113,h114,hF⟩:=aM hF
  refine aI (yK rfl h114) zU2 ?_
  refine zP ?_
  refine aT (aJ (aC (aAa (fun H E=>∃(x116:Int),pW K v6 x86 v90 (iV K a2 v6 k) x116=some ol87∧H=([⟨some b8,1,72,3,1,([pI .i64 v6.1]++[pO b92 n94 c93]++[pO b17 n19 c18])⟩,hO (cH g99) b92 c93 24 n94 v90.2.1,hO cI b17 c18 3 n19 v90.2.2.1,⟨some b1,1,30,3,1,([pS cQ ([]:List Rat)]++[pS cQ ([]:List Rat)]++[pI .i64 0])⟩]++eD cQ 42 g99 v90.2.2.2)∧E=[(2,.vc (pI .i64 a2)),(6,.vc (pP (some b1) 0)),(8,.vc (pP (some b8) 0)),(12,.vc (pI .i64 x116)),(13,.vc (pI .i64 x86))]) ?_ (fun Jj117=>?_))))
  ·rintro _ _ ⟨x116,hF,rfl,rfl⟩
   unfold pW at hF
   refine go ?_ ?_
   refine aG (aP (fun H E=>∃(x122:Int),uB K x86 v90 x116 (iV K a2 v6 k) x122=some ol87∧H=([⟨some b8,1,72,3,1,([pI .i64 v6.1]++[pO b92 n94 c93]++[pO b17 n19 c18])⟩,hO (cH g99) b92 c93 24 n94 v90.2.1,hO cI b17 c18 3 n19 v90.2.2.1,⟨some b1,1,30,3,1,([pS cQ ([]:List Rat)]++[pS cQ ([]:List Rat)]++[pI .i64 0])⟩]++eD cQ 42 g99 v90.2.2.2)∧E=[(2,.vc (pI .i64 a2)),(6,.vc (pP (some b1) 0)),(8,.vc (pP (some b8) 0)),(10,.vc (pI .i64 x122)),(12,.vc (pI .i64 x116)),(13,.vc (pI .i64 x86))]) ?_ (fun Jj124=>?_))
   ·rintro _ _ ⟨x122,hF,rfl,rfl⟩
    unfold uB at hF
    refine go ?_ ?_
    refine aB hF rfl (fun h125 hF=>?_) (fun h125 hF=>?_)
    ·refine aC (aH (aI (gU (is:=[]) (xs:=[]) (ps:=[]) rfl tyB30q rfl rfl trivial rfl) trivial ?_))
     exact bI
    obtain⟨v126,h127,hF⟩:=aM hF
    refine go ?_ ?_
    exact aF (fun a w hh=>⟨v90.2.1,v90.2.2.1,v90.2.2.2,x122,x116,v126,b92,c93,n94,g99,N100,hF,q95,q97,q101,q102,q103,aR 4 [0,1,2,3] rfl rfl (by decide) (by exact⟨rfl,rfl,rfl,rfl,rfl,rfl,trivial⟩) hh⟩)
   obtain⟨x122',hL,hRl123⟩:=aM hF
   refine cA (fun k a w=>∃(x120:Int),∃(x121:Int),iN K v6 v90 x116 k x120 x121=some x122'∧hs _ ([⟨some b8,1,72,3,1,([pI .i64 v6.1]++[pO b92 n94 c93]++[pO b17 n19 c18])⟩,hO (cH g99) b92 c93 24 n94 v90.2.1,hO cI b17 c18 3 n19 v90.2.2.1,⟨some b1,1,30,3,1,([pS cQ ([]:List Rat)]++[pS cQ ([]:List Rat)]++[pI .i64 0])⟩]++eD cQ 42 g99 v90.2.2.2) [(2,.vc (pI .i64 a2)),(6,.vc (pP (some b1) 0)),(8,.vc (pP (some b8) 0)),(10,.vc (pI .i64 x120)),(12,.vc (pI .i64 x116)),(13,.vc (pI .i64 x86)),(100,.vc (pO b92 n94 c93)),(101,.vc (pI .i64 (v90.2.1.length:Int))),(102,.vc (pI .i64 x121))] a w) K (fun a w ⟨_,_,hF,_⟩=>by cases hF) (fun k a w ⟨x120,x121,hF,hh⟩=>b0 ?_ hh) (fun a w hh=>⟨(-1),0,hL,aR 4 [0,1,2,3] rfl rfl (by decide) (by exact⟨rfl,rfl,rfl,rfl,rfl,rfl,rfl,rfl,rfl,trivial⟩) hh⟩)
   rw [iN.eq_2] at hF
   refine go ?_ ?_
   refine aB hF rfl (fun h128 hF=>?_) (fun h128 hF=>?_)
   ·refine go ?_ ?_
    refine aG ?_
    obtain⟨v129,h130,v133,h134,hF⟩:=tW hF
    obtain⟨v135,h136,hF⟩:=aW hF eS
    refine go ?_ ?_
    rcases Bool.eq_false_or_eq_true (decide (0<v135)) with h137|h137
    ·have hF:=vK h137 hF
     rcases Bool.eq_false_or_eq_true (decide (x120<0)) with h138|h138
     ·have hF:=vK h138 hF
      refine iQ (0::0::3::7::15::31::63::127::255::511::1023::1023::1023::1023::13311::29695::1023::1023::132095::394239::918527::1023::4064255::8258559::1023::33424383::66978815::134217727::268435455::536870911::[]) 27 3 (.v (.vc (pO (gA g99 v129).1 (gA g99 v129).2.1 (gA g99 v129).2.2))::.v (.vc (pI .i64 x116))::.v (.vc (pE (gA g99 v129).1 x116 cQ.n 0))::.v (.va (eQ v133))::.v (.vc (pI .i64 v135))::.v (.vc (pB (decide (0<v135))))::.v (.vc (pB true))::.v (.vc (pI .i64 x120))::.v (.vc (pB (decide (x120<0))))::.v (.vc (pB true))::.v .un::.v .un::.v .un::.v .un::.v .un::.v .un::.v .un::.v .un::.v .un::.v .un::.v .un::.v .un::.v .un::.v .un::.v .un::.v .un::.v .un::[]) aU ⟨d0 (aL (.inl rfl)) zU1,d0 (aL (.inl rfl)) zU1,d0 (cY (4+v129) rfl tyS24 (gW 4 rfl q102 q101 (q103 _ (aO h130))) (cR q102 q101 (q103 _ (aO h130))) (aD h134).1 (aD h134).2.1) zU2,d0 (iD (k:=4) (4+v129) rfl (gW 4 rfl q102 q101 (q103 _ (aO h130))) h134 rfl (.agg tyA42) rfl) zU1,d0 (bE rfl h136 rfl) zU1,d0 (aMd rfl) ⟨rfl,qM _ _,trivial⟩,d0 (nW (aL (.inl rfl)) h137) zU1,g0 (aL (.inl rfl)) zU1,g0 (aHL rfl) ⟨rfl,qM _ _,trivial⟩,g0 (nW (aL (.inl rfl)) h138) zU1,⟨rfl,.skipN⟩,⟨rfl,.skipN⟩,⟨rfl,.skipN⟩,⟨rfl,.skipN⟩,⟨rfl,.skipN⟩,⟨rfl,.skipN⟩,⟨rfl,.skipN⟩,⟨rfl,.skipN⟩,⟨rfl,.skipN⟩,⟨rfl,.skipN⟩,⟨rfl,.skipN⟩,⟨rfl,.skipN⟩,⟨rfl,.skipN⟩,⟨rfl,.skipN⟩,⟨rfl,.skipN⟩,⟨rfl,.skipN⟩,⟨rfl,.skipN⟩,trivial⟩ (fun bs132 G131=>?_)
      refine go ?_ ?_
      refine fV rfl ?_
      obtain⟨v139,h140,hF⟩:=aM hF
      refine go ?_ ?_
      exact aF (fun a w hh=>⟨x121,v139,hF,aR 4 [0,1,2,3] rfl rfl (by decide) (by exact⟨rfl,rfl,rfl,rfl,rfl,rfl,rfl,rfl,rfl,trivial⟩) hh⟩)
     have hF:=tU h138 hF
     have hF:=tJ h134 hF
     obtain⟨v143,h144,hF⟩:=aM hF
     obtain⟨v145,h146,hF⟩:=aM hF
     refine iQ (0::0::3::7::15::31::63::127::255::511::1023::1023::1023::1023::13311::29695::1023::1023::132095::394239::918527::1023::4064255::8258559::1023::33424383::66978815::134217727::268435455::536870911::[]) 27 3 (.v (.vc (pO (gA g99 v129).1 (gA g99 v129).2.1 (gA g99 v129).2.2))::.v (.vc (pI .i64 x116))::.v (.vc (pE (gA g99 v129).1 x116 cQ.n 0))::.v (.va (eQ v133))::.v (.vc (pI .i64 v135))::.v (.vc (pB (decide (0<v135))))::.v (.vc (pB true))::.v (.vc (pI .i64 x120))::.v (.vc (pB (decide (x120<0))))::.v (.vc (pB false))::.v (.vc (pP (some b8) 0))::.v (.vc (pI .i64 x121))::.v (.vc (pO (gA g99 v129).1 (gA g99 v129).2.1 (gA g99 v129).2.2))::.v (.vc (pI .i64 x116))::.v (.vc (pE (gA g99 v129).1 x116 cQ.n 0))::.v (.va (eQ v133))::.v (.vc (pI .i64 x120))::.v (.vc (pP (some b8) 0))::.v (.vc (pP (some b8) 0))::.v (.vc (pP (some b8) 1))::.v (.vc (pO b92 n94 c93))::.v (.vc (pI .i64 x120))::.v (.vc (pE b92 x120 (cH g99).n 0))::.v (.vc (pO (gA g99 v143).1 (gA g99 v143).2.1 (gA g99 v143).2.2))::.v (.vc (pI .i64 x116))::.v (.vc (pE (gA g99 v143).1 x116 cQ.n 0))::.v (.va (eQ v145))::[]) aU ⟨d0 (aL (.inl rfl)) zU1,d0 (aL (.inl rfl)) zU1,d0 (cY (4+v129) rfl tyS24 (gW 4 rfl q102 q101 (q103 _ (aO h130))) (cR q102 q101 (q103 _ (aO h130))) (aD h134).1 (aD h134).2.1) zU2,d0 (iD (k:=4) (4+v129) rfl (gW 4 rfl q102 q101 (q103 _ (aO h130))) h134 rfl (.agg tyA42) rfl) zU1,d0 (bE rfl h136 rfl) zU1,d0 (aMd rfl) ⟨rfl,qM _ _,trivial⟩,d0 (nW (aL (.inl rfl)) h137) zU1,g0 (aL (.inl rfl)) zU1,g0 (aHL rfl) ⟨rfl,qM _ _,trivial⟩,g0 (nW (aL (.inl rfl)) h138) zU1,g0 (aL (.inl rfl)) zU1,g0 (aL (.inl rfl)) zU1,g0 (aL (.inl rfl)) zU1,g0 (aL (.inl rfl)) zU1,g0 (cY (4+v129) rfl tyS24 (gW 4 rfl q102 q101 (q103 _ (aO h130))) (cR q102 q101 (q103 _ (aO h130))) (aD h134).1 (aD h134).2.1) zU2,g0 (iD (k:=4) (4+v129) rfl (gW 4 rfl q102 q101 (q103 _ (aO h130))) h134 rfl (.agg tyA42) rfl) zU1,g0 (aL (.inl rfl)) zU1,g0 (aL (.inl rfl)) zU1,g0 (s9 rfl) zU1,g0 (gV (off:=0) (k:=1) rfl tyF72_1) zU1,g0 (gC 0 1 rfl rfl rfl rfl (.one tyO23)) zU1,g0 (aL (.inl rfl)) zU1,g0 (cY (C:=(cH g99)) 1 rfl tyS23 rfl q95 (aD h144).1 (aD h144).2.1) zU2,g0 (iD (C:=(cH g99)) (k:=1) 1 rfl rfl h144 rfl (.one tyO24) rfl) zU1,g0 (aL (.inl rfl)) zU1,g0 (cY (4+v143) rfl tyS24 (gW 4 rfl q102 q101 (q103 _ (aO h144))) (cR q102 q101 (q103 _ (aO h144))) (aD h146).1 (aD h146).2.1) zU2,g0 (iD (k:=4) (4+v143) rfl (gW 4 rfl q102 q101 (q103 _ (aO h144))) h146 rfl (.agg tyA42) rfl) zU1,trivial⟩ (fun bs132 G131=>?_)
     obtain⟨v147,h148,hF⟩:=aM hF
     refine w8 (aMs 4 [0,1,2] [3] [0,1,2,3] rfl (uG h148 q95 q97 q101 q102 q103) rfl rfl rfl rfl (by decide) (by decide) rfl) ⟨rfl,rfl,rfl,rfl,rfl,trivial⟩ ?_
     refine go ?_ ?_
     refine aB hF rfl (fun h149 hF=>?_) (fun h149 hF=>?_)
     ·obtain⟨v150,h151,hF⟩:=aM hF
      refine go ?_ ?_
      exact aF (fun a w hh=>⟨x121,v150,hF,aR 4 [0,1,2,3] rfl rfl (by decide) (by exact⟨rfl,rfl,rfl,rfl,rfl,rfl,rfl,rfl,rfl,trivial⟩) hh⟩)
     obtain⟨v152,h153,hF⟩:=aM hF
     refine go ?_ ?_
     exact aF (fun a w hh=>⟨x120,v152,hF,aR 4 [0,1,2,3] rfl rfl (by decide) (by exact⟨rfl,rfl,rfl,rfl,rfl,rfl,rfl,rfl,rfl,trivial⟩) hh⟩)
    have hF:=tU h137 hF
    refine iQ (0::0::3::7::15::31::63::127::255::511::1023::1023::1023::1023::13311::29695::1023::1023::132095::394239::918527::1023::4064255::8258559::1023::33424383::66978815::134217727::268435455::536870911::[]) 27 3 (.v (.vc (pO (gA g99 v129).1 (gA g99 v129).2.1 (gA g99 v129).2.2))::.v (.vc (pI .i64 x116))::.v (.vc (pE (gA g99 v129).1 x116 cQ.n 0))::.v (.va (eQ v133))::.v (.vc (pI .i64 v135))::.v (.vc (pB (decide (0<v135))))::.v (.vc (pB false))::.v .un::.v .un::.v .un::.v .un::.v .un::.v .un::.v .un::.v .un::.v .un::.v .un::.v .un::.v .un::.v .un::.v .un::.v .un::.v .un::.v .un::.v .un::.v .un::.v .un::[]) aU ⟨d0 (aL (.inl rfl)) zU1,d0 (aL (.inl rfl)) zU1,d0 (cY (4+v129) rfl tyS24 (gW 4 rfl q102 q101 (q103 _ (aO h130))) (cR q102 q101 (q103 _ (aO h130))) (aD h134).1 (aD h134).2.1) zU2,d0 (iD (k:=4) (4+v129) rfl (gW 4 rfl q102 q101 (q103 _ (aO h130))) h134 rfl (.agg tyA42) rfl) zU1,d0 (bE rfl h136 rfl) zU1,d0 (aMd rfl) ⟨rfl,qM _ _,trivial⟩,d0 (nW (aL (.inl rfl)) h137) zU1,⟨rfl,.skipN⟩,⟨rfl,.skipN⟩,⟨rfl,.skipN⟩,⟨rfl,.skipU⟩,⟨rfl,.skipU⟩,⟨rfl,.skipU⟩,⟨rfl,.skipU⟩,⟨rfl,.skipU⟩,⟨rfl,.skipU⟩,⟨rfl,.skipU⟩,⟨rfl,.skipU⟩,⟨rfl,.skipU⟩,⟨rfl,.skipU⟩,⟨rfl,.skipU⟩,⟨rfl,.skipU⟩,⟨rfl,.skipU⟩,⟨rfl,.skipU⟩,⟨rfl,.skipU⟩,⟨rfl,.skipU⟩,⟨rfl,.skipU⟩,trivial⟩ (fun bs132 G131=>?_)
    refine go ?_ ?_
    refine wX rfl ?_
    obtain⟨v154,h155,hF⟩:=aM hF
    refine go ?_ ?_
    exact aF (fun a w hh=>⟨x120,v154,hF,aR 4 [0,1,2,3] rfl rfl (by decide) (by exact⟨rfl,rfl,rfl,rfl,rfl,rfl,rfl,rfl,rfl,trivial⟩) hh⟩)
   refine aV ?_
   obtain rfl:=eP hF
   exact eJ Jj124 ⟨x120,hRl123,rfl,rfl⟩ 4 [0,1,2,3] rfl rfl ⟨rfl,rfl,rfl,rfl,rfl,rfl,trivial⟩
  refine go ?_ ?_
  refine aB hF rfl (fun h156 hF=>?_) (fun h156 hF=>?_)
  ·refine aH (dS ?_)
   refine dS ?_
   refine aI (s9 rfl) zU1 ?_
   refine aI (gV (off:=0) (k:=0) rfl tyF72_0) zU1 ?_
   refine aI (gC 0 1 rfl rfl rfl rfl (.one tyO3)) zU1 ?_
   obtain⟨v157,h158,hF⟩:=aM hF
   refine aI (aLC rfl h158) zU2 ?_
   refine zP ?_
   refine aT ?_
   exact eJ Jj117 ⟨v157,hF,rfl,rfl⟩ 4 [0,1,2,3] rfl rfl ⟨rfl,rfl,rfl,rfl,rfl,trivial⟩
  refine eU ?_
  exact eJ Jj117 ⟨v113,hF,rfl,rfl⟩ 4 [0,1,2,3] rfl rfl ⟨rfl,rfl,rfl,rfl,rfl,trivial⟩
 obtain⟨x40',hL,hRl41⟩:=aM hF
 refine cA (fun k a w=>∃(x38:Int),∃(x39:Int),mP K v6 v33 k x38 x39=some x40'∧hs _ ([⟨some b35,1,42,4,1,(eQ v33)⟩,⟨some b8,1,72,3,1,([pI .i64 v6.1]++[pO b12 n14 c13]++[pO b17 n19 c18])⟩,hO (cH g22) b12 c13 24 n14 v6.2.1,hO cI b17 c18 3 n19 v6.2.2.1,⟨some b1,1,30,3,1,([pS cQ ([]:List Rat)]++[pS cQ ([]:List Rat)]++[pI .i64 0])⟩]++eD cQ 42 g22 v6.2.2.2) [(2,.vc (pI .i64 a2)),(6,.vc (pP (some b1) 0)),(8,.vc (pP (some b8) 0)),(9,.vc (pP (some b35) 0)),(10,.vc (pI .i64 x38)),(39,.vc (pI .i64 v6.1)),(40,.vc (pI .i64 x39))] a w) K (fun a w ⟨_,_,hF,_⟩=>by cases hF) (fun k a w ⟨x38,x39,hF,hh⟩=>b0 ?_ hh) (fun a w hh=>⟨0,0,hL,aR 5 [0,1,2,3,4] rfl rfl (by decide) (by exact⟨rfl,rfl,rfl,rfl,rfl,rfl,rfl,trivial⟩) hh⟩)
 rw [mP.eq_2] at hF
 refine go ?_ ?_
 refine aB hF rfl (fun h159 hF=>?_) (fun h159 hF=>?_)
 ·refine go ?_ ?_
  refine aG ?_
  obtain⟨v160,h161,hF⟩:=aM hF
  refine go ?_ ?_
  refine o7 5 [1,2,3] [0,4] rfl (uG h161 q15 q20 q24 q25 q26) ⟨rfl,rfl,rfl,rfl,rfl,trivial⟩ rfl rfl rfl (by decide) ?_
  rintro _ _ ⟨rfl,rfl⟩
  refine mM (jS [⟨some b8,1,72,3,1,([pI .i64 v6.1]++[pO b12 n14 c13]++[pO b17 n19 c18])⟩,hO (cH g22) b12 c13 24 n14 v6.2.1,hO cI b17 c18 3 n19 v6.2.2.1] (eD cQ 42 g22 v6.2.2.2) [⟨some b35,1,42,4,1,(eQ v33)⟩,⟨some b1,1,30,3,1,([pS cQ ([]:List Rat)]++[pS cQ ([]:List Rat)]++[pI .i64 0])⟩]) ?_
  refine aT (aJ (aB hF rfl (fun h162 hF=>?_) (fun h162 hF=>?_)))
  ·obtain⟨v163,h164,hF⟩:=aM hF
   refine go ?_ ?_
   exact aF (fun a w hh=>⟨x39,v163,hF,aR 5 [3,0,1,2,4] rfl rfl (by decide) (by exact⟨rfl,rfl,rfl,rfl,rfl,rfl,rfl,trivial⟩) hh⟩)
  obtain⟨v165,h166,hF⟩:=aM hF
  refine go ?_ ?_
  exact aF (fun a w hh=>⟨x38,v165,hF,aR 5 [3,0,1,2,4] rfl rfl (by decide) (by exact⟨rfl,rfl,rfl,rfl,rfl,rfl,rfl,trivial⟩) hh⟩)
 refine aV ?_
 obtain rfl:=eP hF
 exact eJ Jj42 ⟨x38,hRl41,rfl,rfl⟩ 5 [1,2,3,4] rfl rfl ⟨rfl,rfl,rfl,rfl,trivial⟩
def oD (K:Nat):Option Bool:=
 some true
def d7 (K:Nat) (a0:List Rat) (a1:List Rat):Nat→Int→Option (LR Bool Unit)
 |0,_=>none
 |k+1,x3=>bif(decide (x3<(a0.length:Int))) then((bF a0 x3).bind fun v9=>(bF a1 x3).bind fun v11=>(aHE v9 v11).bind fun v13=>bif(!v13) then(some (.ret false)) else((aS (x3+1)).bind fun v16=>d7 K a0 a1 k v16)) else(some (.go ()))
def fI (K:Nat) (a0:List Rat) (a1:List Rat):Option Bool:=
 bif((a0.length:Int) != (a1.length:Int)) then(some false) else((d7 K a0 a1 K 0).bind fun o=>match o with| .ret r=>some r| .go _=>oD K)
theorem qV {K:Nat} {a0:List Rat} {a1:List Rat} {r:Bool} (hF:fI K a0 a1=some r):Ct Tryz.prog 15 [.vc (pS cQ a0),.vc (pS cQ a1)] (.vc (pB r)):=by
 unfold fI at hF
 refine aA Tryz.func15 rfl (by kernel_rfl) Tryz.ntmps15 rfl (fun w0 M0=>?_)
 refine go ?_ ?_
 refine aB hF rfl (fun h1 hF=>?_) (fun h1 hF=>?_)
 ·exact bI
 refine go ?_ ?_
 refine aG (aP (fun H E=>oD K=some r∧H=[]∧E=[]) ?_ (fun Jj5=>?_))
 ·rintro _ _ ⟨hF,rfl,rfl⟩
  unfold oD at hF
  exact bI
 obtain⟨ol4,hL,hRl4⟩:=aM hF
 refine cA (fun k a w=>∃(x3:Int),d7 K a0 a1 k x3=some ol4∧hs _ [] [(0,.vc (pS cQ a0)),(1,.vc (pS cQ a1)),(5,.vc (pI .i64 x3))] a w) K (fun a w ⟨_,hF,_⟩=>by cases hF) (fun k a w ⟨x3,hF,hh⟩=>b0 ?_ hh) (fun a w hh=>⟨0,hL,dI [] hh⟩)
 rw [d7.eq_2] at hF
 refine go ?_ ?_
 refine aB hF rfl (fun h6 hF=>?_) (fun h6 hF=>?_)
 ·refine go ?_ ?_
  refine aG (aC ?_)
  obtain⟨v9,h10,hF⟩:=aM hF
  obtain⟨v11,h12,hF⟩:=aM hF
  obtain⟨v13,h14,hF⟩:=aW hF aDd
  refine dr [0,0,3,7,0,0,48,112,255,511] 10 0 ?_ (fun bs8 G7=>?_)
  refine aT (aJ (aB hF rfl (fun h15 hF=>?_) (fun h15 hF=>?_)))
  ·exact bI
  obtain⟨v16,h17,hF⟩:=aM hF
  refine go ?_ ?_
  exact aF (fun a w hh=>⟨v16,hF,dI [] hh⟩)
 refine aV ?_
 obtain rfl:=eP hF
 exact nK Jj5 ⟨hRl4,rfl,rfl⟩ []
def rZ (K:Nat):Option Int:=
 some (-1)
def mS (K:Nat) (a0:List aQ) (a1:(aQ→Option Bool)):Nat→Int→Option (LR Int Unit)
 |0,_=>none
 |k+1,x2=>bif(decide (x2<(a0.length:Int))) then((bF a0 x2).bind fun v6=>(a1 v6).bind fun v8=>bif v8 then(some (.ret x2)) else((aS (x2+1)).bind fun v11=>mS K a0 a1 k v11)) else(some (.go ()))
def uI (K:Nat) (a0:List aQ) (a1:(aQ→Option Bool)):Option Int:=
 (mS K a0 a1 K 0).bind fun o=>match o with| .ret r=>some r| .go _=>rZ K
theorem aBf {K:Nat} {a0:List aQ} {a1:(aQ→Option Bool)} {r:Int} (hF:uI K a0 a1=some r):Ct Tryz.prog 168 [.vc (pS aQ.cod a0),.vc (pFn Tryz.prog (fun x:aQ=>[.va (aQ.enc x)]) (fun r:Bool=>.vc (pB r)) a1)] (.vc (pI .i64 r)):=by
 unfold uI at hF
 refine aA Tryz.func168 rfl (by kernel_rfl) Tryz.ntmps168 rfl (fun w0 M0=>?_)
 refine go ?_ ?_
 refine aG (aP (fun H E=>rZ K=some r∧H=[]∧E=[]) ?_ (fun Jj4=>?_))
 ·rintro _ _ ⟨hF,rfl,rfl⟩
  unfold rZ at hF
  exact bI
 obtain⟨ol3,hL,hRl3⟩:=aM hF
 refine cA (fun k a w=>∃(x2:Int),mS K a0 a1 k x2=some ol3∧hs _ [] [(0,.vc (pS aQ.cod a0)),(1,.vc (pFn Tryz.prog (fun x:aQ=>[.va (aQ.enc x)]) (fun r:Bool=>.vc (pB r)) a1)),(7,.vc (pI .i64 (a0.length:Int))),(8,.vc (pI .i64 x2))] a w) K (fun a w ⟨_,hF,_⟩=>by cases hF) (fun k a w ⟨x2,hF,hh⟩=>b0 ?_ hh) (fun a w hh=>⟨0,hL,dI [] hh⟩)
 rw [mS.eq_2] at hF
 refine go ?_ ?_
 refine aB hF rfl (fun h5 hF=>?_) (fun h5 hF=>?_)
 ·refine go ?_ ?_
  refine aG ?_
  obtain⟨v6,h7,v8,h9,hF⟩:=tW hF
  refine go ?_ ?_
  refine aI (aEC (pre:=fun x:aQ=>[.va (aQ.enc x)]) (post:=fun r:Bool=>.vc (pB r)) (x:=v6) (r:=v8) rfl h9 rfl) zU2 ?_
  refine aT (aJ (aB hF rfl (fun h10 hF=>?_) (fun h10 hF=>?_)))
  ·exact bI
  obtain⟨v11,h12,hF⟩:=aM hF
  refine go ?_ ?_
  exact aF (fun a w hh=>⟨v11,hF,dI [] hh⟩)
 refine aV ?_
 obtain rfl:=eP hF
 exact nK Jj4 ⟨hRl3,rfl,rfl⟩ []
def rP (K:Nat) (a0:List aQ) (a1:(aQ→Option Bool)):Option Bool:=
 (uI K a0 a1).bind fun v1=>some (decide (0≤v1))
theorem aAk {K:Nat} {a0:List aQ} {a1:(aQ→Option Bool)} {r:Bool} (hF:rP K a0 a1=some r):Ct Tryz.prog 145 [.vc (pS aQ.cod a0),.vc (pFn Tryz.prog (fun x:aQ=>[.va (aQ.enc x)]) (fun r:Bool=>.vc (pB r)) a1)] (.vc (pB r)):=by
 unfold rP at hF
 refine aA Tryz.func145 rfl (by kernel_rfl) Tryz.ntmps145 rfl (fun w0 M0=>?_)
 obtain⟨v1,h2,hF⟩:=aW hF aBf
 exact bI
def vZ (c0:aX) (a0:aQ):Option Bool:=
 some ((a0.a.length:Int) != c0.vars)
theorem aDA {c0:aX} {a0:aQ} {r:Bool} (hF:vZ c0 a0=some r):Ct Tryz.prog 146 [.va (aQ.enc a0),.vc (pM (aX.cod.e c0))] (.vc (pB r)):=by
 unfold vZ at hF
 refine aA Tryz.func146 rfl (by kernel_rfl) Tryz.ntmps146 rfl (fun w0 M0=>?_)
 refine aC (aH (bV rfl rfl trivial (fun b1=>?_)))
 exact bI
def z6 (K:Nat) (a0:aX):Option Int:=
 bif(decide (32<a0.vars)) then(some 4) else(bif(decide (64<(a0.lines.length:Int))) then(some 4) else(bif(decide (a0.vars<0)) then(some 1) else(bif((a0.goal.length:Int) != a0.vars) then(some 1) else((rP K a0.lines (vZ a0)).bind fun v6=>bif v6 then(some 1) else(some 0)))))
theorem aE2 {K:Nat} {a0:aX} {r:Int} (hF:z6 K a0=some r):Ct Tryz.prog 110 [.va (aX.enc a0)] (.vc (pI .i64 r)):=by
 unfold z6 at hF
 refine aA Tryz.func110 rfl (by kernel_rfl) Tryz.ntmps110 rfl (fun w0 M0=>?_)
 refine aC (aH (bV rfl rfl trivial (fun b1=>?_)))
 refine go ?_ ?_
 refine aG (go ?_ ?_)
 refine cC hF (fun h2 hF=>?_) (fun h2 hF=>?_)
 ·refine go ?_ ?_
  refine fV rfl ?_
  exact bI
 refine go ?_ ?_
 refine aB hF rfl (fun h3 hF=>?_) (fun h3 hF=>?_)
 ·exact bI
 refine go ?_ ?_
 refine cC hF (fun h4 hF=>?_) (fun h4 hF=>?_)
 ·refine go ?_ ?_
  refine fV rfl ?_
  exact bI
 refine go ?_ ?_
 refine cC hF (fun h5 hF=>?_) (fun h5 hF=>?_)
 ·refine go ?_ ?_
  refine fV rfl ?_
  exact bI
 refine w8 (gV (off:=0) (k:=1) rfl tyF90_1) zU1 ?_
 refine w8 (gC 0 1 rfl rfl rfl rfl (.one tyO88)) zU1 ?_
 refine aFV 0 [(1,0),(4,0),(8,1),(14,0),(18,2),(21,0),(26,1)] rfl ⟨rfl,rfl,rfl,rfl,rfl,rfl,rfl,trivial⟩ rfl ?_
 refine w8 (aJf (φ:=(vZ a0)) (pre:=fun x:aQ=>[.va (aQ.enc x)]) (post:=fun r:Bool=>.vc (pB r)) (xs:=[.tmp 1]) (cs:=[pM (aX.cod.e a0)]) rfl rfl (fun x r h=>aDA h)) zU1 ?_
 obtain⟨v6,h7,hF⟩:=aW hF aAk
 refine go ?_ ?_
 refine aB hF rfl (fun h8 hF=>?_) (fun h8 hF=>?_)
 ·exact bI
 exact bI
def rN (c0:Bool) (c1:List Rat) (a0:Int) (a1:Rat):Option (List Rat):=
 bif c0 then((aCh a1).bind fun v9=>(bF c1 a0).bind fun v11=>(qL c1 a0 v9).bind fun x13=>some x13) else((bF c1 a0).bind fun v16=>(qL c1 a0 a1).bind fun x18=>some x18)
theorem uR {c0:Bool} {c1:List Rat} {a0:Int} {a1:Rat} {r:List Rat} (hF:rN c0 c1 a0 a1=some r) {p1:Nat} {b3:Option Nat} {c4 n2:Nat} (q5:c1.length=n2):CtO Tryz.prog 147 [⟨some p1,1,24,1,1,[pO b3 n2 c4]⟩,hO cQ b3 c4 42 n2 c1] [.vc (pI .i64 a0),.va (eQ a1),.vc (pM (cB.e c0)),.vc (pP (some p1) 0)] (fun Ho q=>∃b23 c24 n22,r.length=n22∧Ho=[⟨some p1,1,24,1,1,[pO b23 n22 c24]⟩,hO cQ b23 c24 42 n22 r]∧q=.any):=by
 unfold rN at hF
 refine aA Tryz.func147 rfl (by kernel_rfl) Tryz.ntmps147 rfl (fun w0 M0=>?_)
 refine aC (aH (bV rfl rfl trivial (fun b7=>?_)))
 refine go ?_ ?_
 refine aB hF rfl (fun h8 hF=>?_) (fun h8 hF=>?_)
 ·obtain⟨v9,h10,hF⟩:=aW hF wK
  obtain⟨v11,h12,x13,h14,hF⟩:=tW hF
  obtain rfl:=eP hF
  refine go ?_ ?_
  exact aCq (.inr rfl) Tryz.results147 .nil rfl [1,2] rfl (by decide) ⟨b3,c4,n2,(bC h14 q5),rfl,rfl⟩
 obtain⟨v16,h17,x18,h19,hF⟩:=tW hF
 obtain rfl:=eP hF
 refine go ?_ ?_
 exact aCq (.inr rfl) Tryz.results147 .nil rfl [1,2] rfl (by decide) ⟨b3,c4,n2,(bC h19 q5),rfl,rfl⟩
def wC (c0:Int) (a0:Int):Option Rat:=
 bif(decide (c0≤a0)) then((qof 1 1).bind fun v3=>some v3) else(some 0)
theorem aDS {c0:Int} {a0:Int} {r:Rat} (hF:wC c0 a0=some r):Ct Tryz.prog 113 [.vc (pI .i64 a0),.vc (pM (cI.e c0))] (.va (eQ r)):=by
 unfold wC at hF
 refine aA Tryz.func113 rfl (by kernel_rfl) Tryz.ntmps113 rfl (fun w0 M0=>?_)
 refine aC (aH (aN rfl tyZ42q (fun b1=>?_)))
 refine go ?_ ?_
 refine aB hF rfl (fun h2 hF=>?_) (fun h2 hF=>?_)
 ·obtain⟨v3,h4,hF⟩:=aW hF uH
  exact bI
 refine go ?_ ?_
 refine aI (gU (is:=[]) (xs:=[]) (ps:=[]) rfl tyB42q rfl rfl trivial rfl) trivial ?_
 exact bI
def iZ (a0:List Rat):Option (List Rat):=
 (oG ([]:List Rat) a0).bind fun x9=>some x9
theorem wP {a0:List Rat} {r:List Rat} (hF:iZ a0=some r):CtO Tryz.prog 77 [] [.vc (pS cQ a0)] (fun Ho q=>∃b18 c19 n17,r.length=n17∧Ho=[hO cQ b18 c19 42 n17 r]∧q=.vc (pO b18 n17 c19)):=by
 unfold iZ at hF
 refine aA Tryz.func77 rfl (by kernel_rfl) Tryz.ntmps77 rfl (fun w0 M0=>?_)
 refine aC (aH (jP cQ 42 rfl ?_))
 refine aT (aJ (aC (aC (aH (dS ?_)))))
 refine aO8 rfl Tryz.underlying24 rfl (fun h3=>?_) ?_
 ·skip
  subst h3
  have hF:some ([]:List Rat)=some r:=by simpa [oG] using hF
  refine aT (aJ (fV rfl ?_))
  refine aC (aH (jP cQ 42 rfl ?_))
  refine aT (aJ (dQ (dL ?_)))
  obtain rfl:=eP hF
  exact aCq (.inl rfl) Tryz.results77 (.tmp rfl .nil) rfl [0] rfl (by decide) ⟨none,0,0,rfl,rfl,rfl⟩
 refine aT (aJ (wX rfl ?_))
 refine go ?_ ?_
 refine aIQ (aF4 (C:=cQ) (xs:=[]) (ps:=[]) (zs:=([]:List Rat)) rfl tyS24 rfl trivial rfl) trivial (fun b6 _=>?_)
 refine dS ?_
 obtain⟨x9,h10,hF⟩:=aM hF
 refine iK 0 rfl tyS24 rfl rfl rfl rfl rfl h10 (fun b11 c12 H13 e14=>?_)
 cases e14
 refine go ?_ ?_
 refine dQ (dL ?_)
 obtain rfl:=eP hF
 exact aCq (.inl rfl) Tryz.results77 (.tmp rfl .nil) rfl [0] rfl (by decide) ⟨b11,c12,(0+a0.length),(bD h10 rfl),rfl,rfl⟩
theorem aAf {a0:List Rat} {r:List Rat} (hF:iZ a0=some r):Ct Tryz.prog 77 [.vc (pS cQ a0)] (.vc (pS cQ r)):=aKK (wP hF)
def sK (K:Nat):Option Int:=
 some (-1)
def nS (K:Nat) (a0:List Rat) (a1:(Rat→Option Bool)):Nat→Int→Option (LR Int Unit)
 |0,_=>none
 |k+1,x2=>bif(decide (x2<(a0.length:Int))) then((bF a0 x2).bind fun v6=>(a1 v6).bind fun v8=>bif v8 then(some (.ret x2)) else((aS (x2+1)).bind fun v11=>nS K a0 a1 k v11)) else(some (.go ()))
def uU (K:Nat) (a0:List Rat) (a1:(Rat→Option Bool)):Option Int:=
 (nS K a0 a1 K 0).bind fun o=>match o with| .ret r=>some r| .go _=>sK K
theorem aBx {K:Nat} {a0:List Rat} {a1:(Rat→Option Bool)} {r:Int} (hF:uU K a0 a1=some r):Ct Tryz.prog 152 [.vc (pS cQ a0),.vc (pFn Tryz.prog (fun x:Rat=>[.va (eQ x)]) (fun r:Bool=>.vc (pB r)) a1)] (.vc (pI .i64 r)):=by
 unfold uU at hF
 refine aA Tryz.func152 rfl (by kernel_rfl) Tryz.ntmps152 rfl (fun w0 M0=>?_)
 refine go ?_ ?_
 refine aG (aP (fun H E=>sK K=some r∧H=[]∧E=[]) ?_ (fun Jj4=>?_))
 ·rintro _ _ ⟨hF,rfl,rfl⟩
  unfold sK at hF
  exact bI
 obtain⟨ol3,hL,hRl3⟩:=aM hF
 refine cA (fun k a w=>∃(x2:Int),nS K a0 a1 k x2=some ol3∧hs _ [] [(0,.vc (pS cQ a0)),(1,.vc (pFn Tryz.prog (fun x:Rat=>[.va (eQ x)]) (fun r:Bool=>.vc (pB r)) a1)),(7,.vc (pI .i64 (a0.length:Int))),(8,.vc (pI .i64 x2))] a w) K (fun a w ⟨_,hF,_⟩=>by cases hF) (fun k a w ⟨x2,hF,hh⟩=>b0 ?_ hh) (fun a w hh=>⟨0,hL,dI [] hh⟩)
 rw [nS.eq_2] at hF
 refine go ?_ ?_
 refine aB hF rfl (fun h5 hF=>?_) (fun h5 hF=>?_)
 ·refine go ?_ ?_
  refine aG ?_
  obtain⟨v6,h7,v8,h9,hF⟩:=tW hF
  refine go ?_ ?_
  refine aI (aEC (pre:=fun x:Rat=>[.va (eQ x)]) (post:=fun r:Bool=>.vc (pB r)) (x:=v6) (r:=v8) rfl h9 rfl) zU2 ?_
  refine aT (aJ (aB hF rfl (fun h10 hF=>?_) (fun h10 hF=>?_)))
  ·exact bI
  obtain⟨v11,h12,hF⟩:=aM hF
  refine go ?_ ?_
  exact aF (fun a w hh=>⟨v11,hF,dI [] hh⟩)
 refine aV ?_
 obtain rfl:=eP hF
 exact nK Jj4 ⟨hRl3,rfl,rfl⟩ []
def mE (a0:Rat):Option Bool:=
 (xD a0).bind fun v2=>some (v2 != 0)
theorem aA6 {a0:Rat} {r:Bool} (hF:mE a0=some r):Ct Tryz.prog 153 [.va (eQ a0)] (.vc (pB r)):=by
 unfold mE at hF
 refine aA Tryz.func153 rfl (by kernel_rfl) Tryz.ntmps153 rfl (fun w0 M0=>?_)
 refine aC (aH (bV rfl rfl trivial (fun b1=>?_)))
 obtain⟨v2,h3,hF⟩:=aW hF eS
 exact bI
def wE (c0:aX) (a0:Int):Option Rat:=
 bif(decide (a0<c0.vars)) then((bF c0.goal a0).bind fun v3=>(aCh v3).bind fun v5=>some v5) else((aS (2*c0.vars)).bind fun v7=>bif(decide (a0<v7)) then((aS (a0-c0.vars)).bind fun v10=>(bF c0.goal v10).bind fun v12=>some v12) else(some 0))
theorem aDO {c0:aX} {a0:Int} {r:Rat} (hF:wE c0 a0=some r):Ct Tryz.prog 117 [.vc (pI .i64 a0),.vc (pM (aX.cod.e c0))] (.va (eQ r)):=by
 unfold wE at hF
 refine aA Tryz.func117 rfl (by kernel_rfl) Tryz.ntmps117 rfl (fun w0 M0=>?_)
 refine aC (aH (aN rfl tyZ42q (fun b1=>?_)))
 refine go ?_ ?_
 refine aG (go ?_ ?_)
 refine aB hF rfl (fun h2 hF=>?_) (fun h2 hF=>?_)
 ·obtain⟨v3,h4,hF⟩:=aM hF
  obtain⟨v5,h6,hF⟩:=aW hF wK
  exact bI
 obtain⟨v7,h8,hF⟩:=aM hF
 refine go ?_ ?_
 refine aB hF rfl (fun h9 hF=>?_) (fun h9 hF=>?_)
 ·obtain⟨v10,h11,v12,h13,hF⟩:=tW hF
  exact bI
 refine go ?_ ?_
 refine aI (gU (is:=[]) (xs:=[]) (ps:=[]) rfl tyB42q rfl rfl trivial rfl) trivial ?_
 exact bI
def vU (K:Nat):Option Int:=
 some (-1)
def r5 (K:Nat) (a0:List Int) (a1:Int):Nat→Int→Option (LR Int Unit)
 |0,_=>none
 |k+1,x2=>bif(decide (x2<(a0.length:Int))) then((bF a0 x2).bind fun v6=>bif(a1==v6) then(some (.ret x2)) else((aS (x2+1)).bind fun v9=>r5 K a0 a1 k v9)) else(some (.go ()))
def u6 (K:Nat) (a0:List Int) (a1:Int):Option Int:=
 (r5 K a0 a1 K 0).bind fun o=>match o with| .ret r=>some r| .go _=>vU K
theorem aAh {K:Nat} {a0:List Int} {a1:Int} {r:Int} (hF:u6 K a0 a1=some r):Ct Tryz.prog 154 [.vc (pS cI a0),.vc (pI .i64 a1)] (.vc (pI .i64 r)):=by
 unfold u6 at hF
 refine aA Tryz.func154 rfl (by kernel_rfl) Tryz.ntmps154 rfl (fun w0 M0=>?_)
 refine go ?_ ?_
 refine aG (aP (fun H E=>vU K=some r∧H=[]∧E=[]) ?_ (fun Jj4=>?_))
 ·rintro _ _ ⟨hF,rfl,rfl⟩
  unfold vU at hF
  exact bI
 obtain⟨ol3,hL,hRl3⟩:=aM hF
 refine cA (fun k a w=>∃(x2:Int),r5 K a0 a1 k x2=some ol3∧hs _ [] [(0,.vc (pS cI a0)),(1,.vc (pI .i64 a1)),(7,.vc (pI .i64 (a0.length:Int))),(8,.vc (pI .i64 x2))] a w) K (fun a w ⟨_,hF,_⟩=>by cases hF) (fun k a w ⟨x2,hF,hh⟩=>b0 ?_ hh) (fun a w hh=>⟨0,hL,dI [] hh⟩)
 rw [r5.eq_2] at hF
 refine go ?_ ?_
 refine aB hF rfl (fun h5 hF=>?_) (fun h5 hF=>?_)
 ·refine go ?_ ?_
  refine aG ?_
  obtain⟨v6,h7,hF⟩:=aM hF
  refine go ?_ ?_
  refine aB hF rfl (fun h8 hF=>?_) (fun h8 hF=>?_)
  ·exact bI
  obtain⟨v9,h10,hF⟩:=aM hF
  refine go ?_ ?_
  exact aF (fun a w hh=>⟨v9,hF,dI [] hh⟩)
 refine aV ?_
 obtain rfl:=eP hF
 exact nK Jj4 ⟨hRl3,rfl,rfl⟩ []
def vR (K:Nat) (a0:aX) (v6:Int) (x72:List Int) (x78:List Nat) (x84:List (List Rat)):Option (Int×Int×Int×(List Nat)×(List Rat)×(List Int)×(List (List Rat))):=
 some (a0.vars,(a0.lines.length:Int),v6,x78,([]:List Rat),x72,x84)
def qX (K:Nat) (x53:List Int) (x59:List Nat) (x65:List (List Rat)) (x71:Int) (recl90:(List Int)→(List Nat)→(List (List Rat))→Int→Option ((List Int)×(List Nat)×(List (List Rat)))) (x160:List Rat) (x166:Int):Option ((List Int)×(List Nat)×(List (List Rat))):=
 (oG x59 [x65.length]).bind fun x172=>(oG x53 [x166]).bind fun x175=>(aS (x71+1)).bind fun v182=>recl90 x175 x172 (x65++[x160]) v182
def u8 (K:Nat) (a0:aX) (v6:Int) (x53:List Int) (x59:List Nat) (x65:List (List Rat)) (x71:Int) (v93:aQ) (v104:Int) (recl90:(List Int)→(List Nat)→(List (List Rat))→Int→Option ((List Int)×(List Nat)×(List (List Rat)))) (x121:List Rat):Option ((List Int)×(List Nat)×(List (List Rat))):=
 (aS (2*a0.vars)).bind fun v131=>(aS (v131+x71)).bind fun v133=>(qof 1 1).bind fun v135=>(rN (decide (v104<0)) x121 v133 v135).bind fun v137=>(rN (decide (v104<0)) v137 v6 v93.b).bind fun v147=>(aS (2*a0.vars)).bind fun v155=>(aS (v155+x71)).bind fun v157=>bif(decide (v104<0)) then((aS (2*a0.vars)).bind fun v185=>(aS (v185+(a0.lines.length:Int))).bind fun v187=>(aS (v187+x71)).bind fun v189=>(qof 1 1).bind fun v193=>(bF v147 v189).bind fun v195=>(qL v147 v189 v193).bind fun x197=>qX K x53 x59 x65 x71 recl90 x197 v189) else(qX K x53 x59 x65 x71 recl90 v147 v157)
def rD (K:Nat) (a0:aX) (v93:aQ) (v104:Int):Nat→(List Rat)→Int→Option (List Rat)
 |0,_,_=>none
 |k+1,x114,x120=>bif(decide (x120<(v93.a.length:Int))) then((bF v93.a x120).bind fun v201=>(rN (decide (v104<0)) x114 x120 v201).bind fun v204=>(aS (a0.vars+x120)).bind fun v214=>(aCh v201).bind fun v216=>(rN (decide (v104<0)) v204 v214 v216).bind fun v218=>(aS (x120+1)).bind fun v226=>rD K a0 v93 v104 k v218 v226) else(some x114)
def lH (K:Nat) (a0:aX) (v6:Int):Nat→(List Int)→(List Nat)→(List (List Rat))→Int→Option ((List Int)×(List Nat)×(List (List Rat)))
 |0,_,_,_,_=>none
 |k+1,x53,x59,x65,x71=>bif(decide (x71<(a0.lines.length:Int))) then((bF a0.lines x71).bind fun v93=>(aS (v6+1)).bind fun v96=>(mkL v96 0).bind fun x98=>(xD v93.b).bind fun v104=>(rD K a0 v93 v104 K x98 0).bind fun x121=>u8 K a0 v6 x53 x59 x65 x71 v93 v104 (lH K a0 v6 k) x121) else(some (x53,x59,x65))
def yS (K:Nat) (a0:aX):Option (Int×Int×Int×(List Nat)×(List Rat)×(List Int)×(List (List Rat))):=
 (aS (2*a0.vars)).bind fun v2=>(aS (2*(a0.lines.length:Int))).bind fun v4=>(aS (v2+v4)).bind fun v6=>(lH K a0 v6 K ([]:List Int) ([]:List Nat) ([]:List (List Rat)) 0).bind fun(x72,x78,x84)=>vR K a0 v6 x72 x78 x84
theorem aDc {K:Nat} {a0:aX} {r:Int×Int×Int×(List Nat)×(List Rat)×(List Int)×(List (List Rat))} (hF:yS K a0=some r):CtO Tryz.prog 111 [] [.va (aX.enc a0)] (fun Ho q=>∃b1228 b1233 c1234 n1235 b1238 c1239 n1240 b1243 c1244 n1245 g1248 N1249,r.2.2.2.1.length=n1235∧r.2.2.2.2.1.length=n1240∧r.2.2.2.2.2.1.length=n1245∧r.2.2.2.2.2.2.length=N1249∧cJ g1248 r.2.2.2.2.2.2∧(∀k∈r.2.2.2.1,k<N1249)∧Ho=([⟨some b1228,1,123,6,1,([pI .i64 r.1]++[pI .i64 r.2.1]++[pI .i64 r.2.2.1]++[pO b1233 n1235 c1234]++[pO b1238 n1240 c1239]++[pO b1243 n1245 c1244])⟩,hO (cH g1248) b1233 c1234 24 n1235 r.2.2.2.1,hO cQ b1238 c1239 42 n1240 r.2.2.2.2.1,hO cI b1243 c1244 3 n1245 r.2.2.2.2.2.1]++eD cQ 42 g1248 r.2.2.2.2.2.2)∧q=.vc (pP (some b1228) 0)):=by
 unfold yS at hF
 refine aA Tryz.func111 rfl (by kernel_rfl) Tryz.ntmps111 rfl (fun w0 M0=>?_)
 refine aC (aH (bV rfl rfl trivial (fun b1=>?_)))
 refine aI (aL (p:=.any) (.inr rfl)) ⟨fun _=>trivial,trivial⟩ ?_
 refine aT (aJ (aC (aH (aI (gV (off:=0) (k:=1) rfl tyF90_1) zU1 ?_))))
 refine aI (gC 0 1 rfl rfl rfl rfl (.one tyO88)) zU1 ?_
 refine aI (aJs rfl tyS88) zU1 ?_
 refine zP ?_
 refine aT (aJ (aC (aH (aI (gV (off:=0) (k:=0) rfl tyF90_0) zU1 ?_))))
 refine aI (gC 0 1 rfl rfl rfl rfl (.one tyO3)) zU1 ?_
 refine dS ?_
 refine aI (gV (off:=0) (k:=0) rfl tyF90_0) zU1 ?_
 refine aI (gC 0 1 rfl rfl rfl rfl (.one tyO3)) zU1 ?_
 obtain⟨v2,h3,hF⟩:=aM hF
 refine aI (aFP rfl h3) ⟨qM _ _,rfl,trivial⟩ ?_
 refine dS ?_
 obtain⟨v4,h5,hF⟩:=aM hF
 refine aI (aFP rfl h5) ⟨qM _ _,rfl,trivial⟩ ?_
 obtain⟨v6,h7,hF⟩:=aM hF
 refine aI (yK rfl h7) zU2 ?_
 refine aFF cQ 42 ?_
 refine aBa (cH ([]:List rK)) 24 ?_
 refine aBa cQ 42 ?_
 refine aBa cI 3 ?_
 refine aI (gU (is:=[0,1,2]) (xs:=[.tmp 17,.tmp 18,.tmp 24]) (ps:=[.vc (pI .i64 a0.vars),.vc (pI .i64 (a0.lines.length:Int)),.vc (pI .i64 v6)]) rfl tyB123_o3_o4_o5q rfl rfl ⟨trivial,trivial,trivial,trivial⟩ rfl) ⟨rfl,rfl,rfl,trivial⟩ ?_
 refine bV rfl rfl trivial (fun b33=>?_)
 refine go ?_ ?_
 refine aG (aP (fun H E=>∃(x72:List Int),∃(x78:List Nat),∃(x84:List (List Rat)),∃(b73:Option Nat),∃(c74:Nat),∃(n75:Nat),∃(b79:Option Nat),∃(c80:Nat),∃(n81:Nat),∃(g85:List rK),∃(N86:Nat),vR K a0 v6 x72 x78 x84=some r∧x72.length=n75∧x78.length=n81∧x84.length=N86∧cJ g85 x84∧(∀k∈x78,k<N86)∧H=([⟨some b33,1,123,6,1,([pI .i64 a0.vars]++[pI .i64 (a0.lines.length:Int)]++[pI .i64 v6]++[pO b79 n81 c80]++[pO none 0 0]++[pO b73 n75 c74])⟩,hO cI b73 c74 3 n75 x72,hO cQ none 0 42 0 ([]:List Rat),hO (cH g85) b79 c80 24 n81 x78]++eD cQ 42 g85 x84)∧E=[(4,.vc (pP (some b33) 0))]) ?_ (fun Jj91=>?_))
 ·rintro _ _ ⟨x72,x78,x84,b73,c74,n75,b79,c80,n81,g85,N86,hF,q76,q82,q87,q88,q89,rfl,rfl⟩
  unfold vR at hF
  refine go ?_ ?_
  refine dQ (dL ?_)
  obtain rfl:=eP hF
  exact jT (.inl rfl) Tryz.results111 (.tmp rfl .nil) rfl 4 [0,3,2,1] rfl rfl (by decide) ⟨b33,b79,c80,n81,none,0,0,b73,c74,n75,g85,N86,q82,rfl,q76,q87,q88,q89,rfl,rfl⟩
 obtain⟨⟨x72',x78',x84'⟩,hL,hRl90⟩:=aM hF
 refine cA (fun k a w=>∃(x53:List Int),∃(x59:List Nat),∃(x65:List (List Rat)),∃(x71:Int),∃(b54:Option Nat),∃(c55:Nat),∃(n56:Nat),∃(b60:Option Nat),∃(c61:Nat),∃(n62:Nat),∃(g66:List rK),∃(N67:Nat),lH K a0 v6 k x53 x59 x65 x71=some (x72',x78',x84')∧x53.length=n56∧x59.length=n62∧x65.length=N67∧cJ g66 x65∧(∀k∈x59,k<N67)∧hs _ ([⟨some b33,1,123,6,1,([pI .i64 a0.vars]++[pI .i64 (a0.lines.length:Int)]++[pI .i64 v6]++[pO b60 n62 c61]++[pO none 0 0]++[pO b54 n56 c55])⟩,hO cI b54 c55 3 n56 x53,hO cQ none 0 42 0 ([]:List Rat),hO (cH g66) b60 c61 24 n62 x59,⟨some b1,1,90,3,1,(aX.enc a0)⟩]++eD cQ 42 g66 x65) [(1,.vc (pP (some b1) 0)),(3,.vc (pI .i64 (a0.lines.length:Int))),(4,.vc (pP (some b33) 0)),(28,.vc (pS aQ.cod a0.lines)),(29,.vc (pI .i64 (a0.lines.length:Int))),(30,.vc (pI .i64 x71))] a w) K (fun a w ⟨_,_,_,_,_,_,_,_,_,_,_,_,hF,_,_,_,_,_,_⟩=>by cases hF) (fun k a w ⟨x53,x59,x65,x71,b54,c55,n56,b60,c61,n62,g66,N67,hF,q57,q63,q68,q69,q70,hh⟩=>b0 ?_ hh) (fun a w hh=>⟨([]:List Int),([]:List Nat),([]:List (List Rat)),0,none,0,0,none,0,0,([]:List rK),0,hL,rfl,rfl,(rfl),aDa,(by simp),aR 5 [0,1,2,3,4] rfl rfl (by decide) (by exact⟨rfl,rfl,rfl,rfl,rfl,rfl,trivial⟩) hh⟩)
 rw [lH.eq_2] at hF
 refine go ?_ ?_
 refine aB hF rfl (fun h92 hF=>?_) (fun h92 hF=>?_)
 ·refine go ?_ ?_
  refine aG ?_
  obtain⟨v93,h94,hF⟩:=aM hF
  refine go ?_ ?_
  refine aN rfl tyZ92q (fun b95=>?_)
  obtain⟨v96,h97,x98,h99,hF⟩:=tW hF
  refine go ?_ ?_
  refine nN (C:=cQ) rfl tyS24 rfl tyZ42q rfl h99 (fun b100=>?_)
  refine aN rfl tyZ24q (fun b103=>?_)
  obtain⟨v104,h105,hF⟩:=aW hF eS
  refine go ?_ ?_
  refine aN rfl tyZ4q (fun b106=>?_)
  refine mD (t_s 0 rfl rfl rfl tyO4.s) zU2 ?_
  refine aT (aJ (aC (aH (aFV 0 [(8,0)] rfl zU1 rfl ?_))))
  refine aI (aMH (xs:=[.tmp 8,.tmp 7]) (cs:=[pM (cB.e (decide (v104<0))),pP (some b103) 0]) rfl rfl) zU2 ?_
  refine go ?_ ?_
  refine aG (aP (fun H E=>∃(x121:List Rat),∃(b122:Option Nat),∃(c123:Nat),∃(n124:Nat),u8 K a0 v6 x53 x59 x65 x71 v93 v104 (lH K a0 v6 k) x121=some (x72',x78',x84')∧x121.length=n124∧H=([⟨some b103,1,24,1,1,[pO b122 n124 c123]⟩,hO cQ b122 c123 42 n124 x121,⟨some b95,1,92,5,1,(aQ.enc v93)⟩,⟨some b33,1,123,6,1,([pI .i64 a0.vars]++[pI .i64 (a0.lines.length:Int)]++[pI .i64 v6]++[pO b60 n62 c61]++[pO none 0 0]++[pO b54 n56 c55])⟩,hO cI b54 c55 3 n56 x53,hO cQ none 0 42 0 ([]:List Rat),hO (cH g66) b60 c61 24 n62 x59,⟨some b1,1,90,3,1,(aX.enc a0)⟩]++eD cQ 42 g66 x65)∧E=[(1,.vc (pP (some b1) 0)),(3,.vc (pI .i64 (a0.lines.length:Int))),(4,.vc (pP (some b33) 0)),(5,.vc (pI .i64 x71)),(6,.vc (pP (some b95) 0)),(7,.vc (pP (some b103) 0)),(8,.vc (pM (cB.e (decide (v104<0))))),(9,.vc (pF 147 [pM (cB.e (decide (v104<0))),pP (some b103) 0])),(28,.vc (pS aQ.cod a0.lines)),(29,.vc (pI .i64 (a0.lines.length:Int))),(30,.vc (pI .i64 x71))]) ?_ (fun Jj128=>?_))
  ·rintro _ _ ⟨x121,b122,c123,n124,hF,q125,rfl,rfl⟩
   unfold u8 at hF
   refine aJ (aC ?_)
   have hF:=tJ h3 hF
   obtain⟨v133,h134,hF⟩:=aM hF
   obtain⟨v135,h136,hF⟩:=aW hF uH
   refine dr [0,0,2,6,0,30,0,127] 7 1 ?_ (fun bs130 G129=>?_)
   obtain⟨v137,h138,hF⟩:=aM hF
   refine aEI (f:=147) (cs:=[pM (cB.e (decide (v104<0))),pP (some b103) 0]) (pre:=[.vc (pI .i64 v133),.va (eQ v135)]) (xs:=[.tmp 72,.tmp 73]) 8 [0,1] [2,3,4,5,6,7] rfl (uR h138 q125) ⟨rfl,rfl,rfl,trivial⟩ rfl rfl rfl (by decide) ?_
   rintro _ _ ⟨b141,c142,n140,q143,rfl,rfl⟩
   refine go ?_ ?_
   refine dr [0,0,2,6,14,0,32,127] 7 1 ?_ (fun bs146 G145=>?_)
   obtain⟨v147,h148,hF⟩:=aM hF
   refine aEI (f:=147) (cs:=[pM (cB.e (decide (v104<0))),pP (some b103) 0]) (pre:=[.vc (pI .i64 v6),.va (eQ v93.b)]) (xs:=[.tmp 79,.tmp 81]) 8 [0,1] [2,3,4,5,6,7] rfl (uR h148 q143) ⟨rfl,rfl,rfl,trivial⟩ rfl rfl rfl (by decide) ?_
   rintro _ _ ⟨b151,c152,n150,q153,rfl,rfl⟩
   refine aT (aJ (aC (aH (aI (gV (off:=0) (k:=0) rfl tyF90_0) zU1 ?_))))
   refine aI (gC 7 1 rfl rfl rfl rfl (.one tyO3)) zU1 ?_
   have hF:=tJ h3 hF
   refine aI (aFP rfl h3) ⟨qM _ _,rfl,trivial⟩ ?_
   refine dS ?_
   have hF:=tJ h134 hF
   refine aI (yK rfl h134) zU2 ?_
   refine zP ?_
   refine aT (aJ (aC (aAa (fun H E=>∃(x160:List Rat),∃(x166:Int),qX K x53 x59 x65 x71 (lH K a0 v6 k) x160 x166=some (x72',x78',x84')∧x160.length=n150∧H=([⟨some b103,1,24,1,1,[pO b151 n150 c152]⟩,hO cQ b151 c152 42 n150 x160,⟨some b33,1,123,6,1,([pI .i64 a0.vars]++[pI .i64 (a0.lines.length:Int)]++[pI .i64 v6]++[pO b60 n62 c61]++[pO none 0 0]++[pO b54 n56 c55])⟩,hO cI b54 c55 3 n56 x53,hO cQ none 0 42 0 ([]:List Rat),hO (cH g66) b60 c61 24 n62 x59,⟨some b1,1,90,3,1,(aX.enc a0)⟩]++eD cQ 42 g66 x65)∧E=[(1,.vc (pP (some b1) 0)),(3,.vc (pI .i64 (a0.lines.length:Int))),(4,.vc (pP (some b33) 0)),(7,.vc (pP (some b103) 0)),(12,.vc (pI .i64 x166)),(28,.vc (pS aQ.cod a0.lines)),(29,.vc (pI .i64 (a0.lines.length:Int))),(30,.vc (pI .i64 x71))]) ?_ (fun Jj167=>?_))))
   ·rintro _ _ ⟨x160,x166,hF,q164,rfl,rfl⟩
    unfold qX at hF
    obtain⟨x172,h173,hF⟩:=aM hF
    obtain⟨x175,h176,hF⟩:=aM hF
    refine r6 (HsM [(0,fun G168=>([⟨some b103,1,24,1,1,[pO b151 n150 c152]⟩,hO cQ b151 c152 42 n150 x160,⟨some b33,1,123,6,1,([pI .i64 a0.vars]++[pI .i64 (a0.lines.length:Int)]++[pI .i64 v6]++[pO b60 n62 c61]++[pO none 0 0]++[pO b54 n56 c55])⟩,hO cI b54 c55 3 n56 x53,hO cQ none 0 42 0 ([]:List Rat),hO (cH g66) b60 c61 24 n62 x59,⟨some b1,1,90,3,1,(aX.enc a0)⟩]++eD cQ 42 g66 x65)),(1,fun G168=>([⟨some b103,1,24,1,1,[pO ((G168 7).1) n150 ((G168 7).2)]⟩,hO cQ ((G168 7).1) ((G168 7).2) 42 n150 x160,⟨some b33,1,123,6,1,([pI .i64 a0.vars]++[pI .i64 (a0.lines.length:Int)]++[pI .i64 v6]++[pO b60 n62 c61]++[pO none 0 0]++[pO b54 n56 c55])⟩,hO cI b54 c55 3 n56 x53,hO cQ none 0 42 0 ([]:List Rat),hO (cH (g66++[((G168 7).1,n150,(G168 7).2)])) b60 c61 24 n62 x59,⟨some b1,1,90,3,1,(aX.enc a0)⟩]++eD cQ 42 g66 x65)),(3,fun G168=>([⟨some b103,1,24,1,1,[pO ((G168 7).1) n150 ((G168 7).2)]⟩,⟨some b33,1,123,6,1,([pI .i64 a0.vars]++[pI .i64 (a0.lines.length:Int)]++[pI .i64 v6]++[pO b60 n62 c61]++[pO none 0 0]++[pO b54 n56 c55])⟩,hO cI b54 c55 3 n56 x53,hO cQ none 0 42 0 ([]:List Rat),hO (cH (g66++[((G168 7).1,n150,(G168 7).2)])) ((G168 8).1) ((G168 8).2) 24 (n62+[x65.length].length) x172,⟨some b1,1,90,3,1,(aX.enc a0)⟩]++eD cQ 42 (g66++[((G168 7).1,n150,(G168 7).2)]) (x65++[x160]))),(7,fun G168=>([⟨some b103,1,24,1,1,[pO ((G168 7).1) n150 ((G168 7).2)]⟩,⟨some b33,1,123,6,1,([pI .i64 a0.vars]++[pI .i64 (a0.lines.length:Int)]++[pI .i64 v6]++[pO b60 n62 c61]++[pO none 0 0]++[pO b54 n56 c55])⟩,hO cI ((G168 15).1) ((G168 15).2) 3 (n56+[x166].length) x175,hO cQ none 0 42 0 ([]:List Rat),hO (cH (g66++[((G168 7).1,n150,(G168 7).2)])) ((G168 8).1) ((G168 8).2) 24 (n62+[x65.length].length) x172,⟨some b1,1,90,3,1,(aX.enc a0)⟩]++eD cQ 42 (g66++[((G168 7).1,n150,(G168 7).2)]) (x65++[x160]))),(15,fun G168=>([⟨some b103,1,24,1,1,[pO ((G168 7).1) n150 ((G168 7).2)]⟩,⟨some b33,1,123,6,1,([pI .i64 a0.vars]++[pI .i64 (a0.lines.length:Int)]++[pI .i64 v6]++[pO ((G168 8).1) (n62+[x65.length].length) ((G168 8).2)]++[pO none 0 0]++[pO b54 n56 c55])⟩,hO cI ((G168 15).1) ((G168 15).2) 3 (n56+[x166].length) x175,hO cQ none 0 42 0 ([]:List Rat),hO (cH (g66++[((G168 7).1,n150,(G168 7).2)])) ((G168 8).1) ((G168 8).2) 24 (n62+[x65.length].length) x172,⟨some b1,1,90,3,1,(aX.enc a0)⟩]++eD cQ 42 (g66++[((G168 7).1,n150,(G168 7).2)]) (x65++[x160])))]) [7,8,15,18] [0,0,0,4,12,28,0,64,252,0,512,1536,3584,0,8192,32764,65533,131069,262141,524287,1048575,2097151] 21 1 [.v (.vc (pP (some b33) 0)),.v (.vc (pP (some b33) 0)),.v (.vc (pP (some b33) 0)),.v (.vc (pP (some b33) 0)),.v (.vc (pP (some b33) 3)),.v (.vc (pO b60 n62 c61)),.v (.vc (pO b151 n150 c152)),.g (fun b c=>.vc (pS (cH (g66++[(b,n150,c)])) [x65.length])),.g (fun b c=>.vc (pO b (n62+[x65.length].length) c)),.v (.vc (pP (some b33) 0)),.v (.vc (pP (some b33) 0)),.v (.vc (pP (some b33) 5)),.v (.vc (pO b54 n56 c55)),.v (.vc (pI .i64 x166)),.v (.vc (pS cI [x166])),.g (fun b c=>.vc (pO b (n56+[x166].length) c)),.v (.vc (pP (some b33) 0)),.v (.vc (pP (some b33) 3)),.g (fun _ _=>.any),.v (.vc (pP (some b33) 0)),.v (.vc (pP (some b33) 5))] aU ⟨⟨rfl,.run (L:=[0,1,3,7]) ⟨fun G168 A=>aL (.inl rfl),fun G168 A=>aL (.inl rfl),fun G168 A=>aL (.inl rfl),fun G168 A=>aL (.inl rfl),trivial⟩ (fun G168=>zU1)⟩,⟨rfl,.run (L:=[0,1,3,7,15]) ⟨fun G168 A=>aL (.inl rfl),fun G168 A=>aL (.inl rfl),fun G168 A=>aL (.inl rfl),fun G168 A=>aL (.inl rfl),fun G168 A=>aL (.inl rfl),trivial⟩ (fun G168=>zU1)⟩,⟨rfl,.run (L:=[0,1]) ⟨fun G168 A=>aL (.inl rfl),fun G168 A=>aL (.inl rfl),trivial⟩ (fun G168=>zU1)⟩,⟨rfl,.run (L:=[0,1]) ⟨fun G168 A=>s9 rfl,fun G168 A=>s9 rfl,trivial⟩ (fun G168=>zU1)⟩,⟨rfl,.run (L:=[0,1]) ⟨fun G168 A=>gV (off:=0) (k:=3) rfl tyF123_3,fun G168 A=>gV (off:=0) (k:=3) rfl tyF123_3,trivial⟩ (fun G168=>zU1)⟩,⟨rfl,.run (L:=[0,1]) ⟨fun G168 A=>gC 2 1 rfl rfl rfl rfl (.one tyO23),fun G168 A=>gC 2 1 rfl rfl rfl rfl (.one tyO23),trivial⟩ (fun G168=>zU1)⟩,d1 0 (gC 0 1 rfl rfl rfl rfl (.one tyO24)) zU1,⟨rfl,.hvy [0] ⟨fun G168 A=>aIU b151 c152 (aLG (rs:=x65) rfl tyS23 q69.1 (show([⟨some b103,1,24,1,1,[pO b151 n150 c152]⟩,hO cQ b151 c152 42 n150 x160,⟨some b33,1,123,6,1,([pI .i64 a0.vars]++[pI .i64 (a0.lines.length:Int)]++[pI .i64 v6]++[pO b60 n62 c61]++[pO none 0 0]++[pO b54 n56 c55])⟩,hO cI b54 c55 3 n56 x53,hO cQ none 0 42 0 ([]:List Rat),hO (cH (g66++[(b151,n150,c152)])) b60 c61 24 n62 x59,⟨some b1,1,90,3,1,(aX.enc a0)⟩]++eD cQ 42 g66 x65)++A=([⟨some b103,1,24,1,1,[pO b151 n150 c152]⟩,hO cQ b151 c152 42 n150 x160,⟨some b33,1,123,6,1,([pI .i64 a0.vars]++[pI .i64 (a0.lines.length:Int)]++[pI .i64 v6]++[pO b60 n62 c61]++[pO none 0 0]++[pO b54 n56 c55])⟩,hO cI b54 c55 3 n56 x53,hO cQ none 0 42 0 ([]:List Rat),hO (cH g66) b60 c61 24 n62 x59,⟨some b1,1,90,3,1,(aX.enc a0)⟩]++eD cQ 42 g66 x65)++A from by rw [aGo (N:=x65.length) (b151,n150,c152) q69.1 (yI q68 q70)])),trivial⟩ (fun G168=>zU1)⟩,⟨rfl,.hvy (ins:=fun G168=>[(.tmp 105,.vc (pO b60 n62 c61)),(.tmp 107,.vc (pS (cH (g66++[((G168 7).1,n150,(G168 7).2)])) [x65.length]))]) [1] ⟨fun G168 A=>aSx (X:=[⟨some b103,1,24,1,1,[pO ((G168 7).1) n150 ((G168 7).2)]⟩,hO cQ ((G168 7).1) ((G168 7).2) 42 n150 x160,⟨some b33,1,123,6,1,([pI .i64 a0.vars]++[pI .i64 (a0.lines.length:Int)]++[pI .i64 v6]++[pO b60 n62 c61]++[pO none 0 0]++[pO b54 n56 c55])⟩,hO cI b54 c55 3 n56 x53,hO cQ none 0 42 0 ([]:List Rat),hO (cH (g66++[((G168 7).1,n150,(G168 7).2)])) b60 c61 24 n62 x59,⟨some b1,1,90,3,1,(aX.enc a0)⟩]) (X':=[⟨some b103,1,24,1,1,[pO ((G168 7).1) n150 ((G168 7).2)]⟩,⟨some b33,1,123,6,1,([pI .i64 a0.vars]++[pI .i64 (a0.lines.length:Int)]++[pI .i64 v6]++[pO b60 n62 c61]++[pO none 0 0]++[pO b54 n56 c55])⟩,hO cI b54 c55 3 n56 x53,hO cQ none 0 42 0 ([]:List Rat),hO (cH (g66++[((G168 7).1,n150,(G168 7).2)])) b60 c61 24 n62 x59,⟨some b1,1,90,3,1,(aX.enc a0)⟩]) (gs:=g66) (rs:=x65) (r:=x160) (A:=A) (g:=((G168 7).1,n150,(G168 7).2)) 1 rfl rfl q69 (aBc (C:=(cH (g66++[((G168 7).1,n150,(G168 7).2)]))) (T:=24) 4 rfl tyS23 rfl rfl q63 h173),trivial⟩ (fun G168=>zU2)⟩,⟨rfl,.run (L:=[0,1,3]) ⟨fun G168 A=>aL (.inl rfl),fun G168 A=>aL (.inl rfl),fun G168 A=>aL (.inl rfl),trivial⟩ (fun G168=>zU1)⟩,⟨rfl,.run (L:=[0,1,3]) ⟨fun G168 A=>s9 rfl,fun G168 A=>s9 rfl,fun G168 A=>s9 rfl,trivial⟩ (fun G168=>zU1)⟩,⟨rfl,.run (L:=[0,1,3]) ⟨fun G168 A=>gV (off:=0) (k:=5) rfl tyF123_5,fun G168 A=>gV (off:=0) (k:=5) rfl tyF123_5,fun G168 A=>gV (off:=0) (k:=5) rfl tyF123_5,trivial⟩ (fun G168=>zU1)⟩,⟨rfl,.run (L:=[0,1,3]) ⟨fun G168 A=>gC 2 1 rfl rfl rfl rfl (.one tyO22),fun G168 A=>gC 2 1 rfl rfl rfl rfl (.one tyO22),fun G168 A=>gC 1 1 rfl rfl rfl rfl (.one tyO22),trivial⟩ (fun G168=>zU1)⟩,⟨rfl,.run (L:=[0,1,3]) ⟨fun G168 A=>aL (.inl rfl),fun G168 A=>aL (.inl rfl),fun G168 A=>aL (.inl rfl),trivial⟩ (fun G168=>zU1)⟩,⟨rfl,.run (L:=[0,1,3]) ⟨fun G168 A=>eR (C:=cI) (xs:=[.tmp 113]) (ps:=[.vc (pI .i64 x166)]) (zs:=[x166]) rfl tyS22 rfl ⟨⟨trivial,rfl⟩,trivial⟩ rfl,fun G168 A=>eR (C:=cI) (xs:=[.tmp 113]) (ps:=[.vc (pI .i64 x166)]) (zs:=[x166]) rfl tyS22 rfl ⟨⟨trivial,rfl⟩,trivial⟩ rfl,fun G168 A=>eR (C:=cI) (xs:=[.tmp 113]) (ps:=[.vc (pI .i64 x166)]) (zs:=[x166]) rfl tyS22 rfl ⟨⟨trivial,rfl⟩,trivial⟩ rfl,trivial⟩ (fun G168=>zU1)⟩,⟨rfl,.hvy (ins:=fun G168=>[(.tmp 112,.vc (pO b54 n56 c55)),(.tmp 114,.vc (pS cI [x166]))]) [3] ⟨fun G168 A=>aBc 2 rfl tyS22 rfl rfl q57 h176,trivial⟩ (fun G168=>zU2)⟩,d1 7 (s9 rfl) zU1,d1 7 (gV (off:=0) (k:=3) rfl tyF123_3) zU1,⟨rfl,.hvy (ins:=fun G168=>[(.tmp 117,.vc (pP (some b33) 3)),(.tmp 108,.vc (pO ((G168 8).1) (n62+[x65.length].length) ((G168 8).2)))]) [7] ⟨fun G168 A=>aIU none 0 (t_s 1 rfl rfl rfl tyO23.s),trivial⟩ (fun G168=>zU2)⟩,d1 15 (s9 rfl) zU1,d1 15 (gV (off:=0) (k:=5) rfl tyF123_5) zU1,trivial⟩ (fun bs169 G168=>?_)
    obtain⟨v182,h183,hF⟩:=aM hF
    refine go ?_ ?_
    exact aF (fun a w hh=>⟨x175,x172,(x65++[x160]),v182,((G168 15).1),((G168 15).2),(n56+[x166].length),((G168 8).1),((G168 8).2),(n62+[x65.length].length),(g66++[((G168 7).1,n150,(G168 7).2)]),(N67+1),hF,(bD h176 q57),(bD h173 q63),(aCM q68),(aAB q69 q164),(aIw q70 q68 h173),aR 6 [1,2,3,4,5] rfl rfl (by decide) (by exact⟨rfl,rfl,rfl,rfl,rfl,rfl,trivial⟩) hh⟩)
   refine go ?_ ?_
   refine aB hF rfl (fun h184 hF=>?_) (fun h184 hF=>?_)
   ·have hF:=tJ h3 hF
    obtain⟨v187,h188,v189,h190,hF⟩:=tW hF
    obtain⟨v193,h194,hF⟩:=aW hF uH
    obtain⟨v195,h196,hF⟩:=aM hF
    refine go ?_ ?_
    refine dr [0,0,0,7,15] 4 1 ?_ (fun bs192 G191=>?_)
    obtain⟨x197,h198,hF⟩:=aM hF
    refine mD (yM 1 rfl rfl h196 h198 tyA42.s) zU2 ?_
    refine aT ?_
    exact eJ Jj167 ⟨x197,v189,hF,(bC h198 q153),rfl,rfl⟩ 8 [0,1,3,4,5,6,7] rfl rfl ⟨rfl,rfl,rfl,rfl,rfl,rfl,rfl,rfl,trivial⟩
   refine eU ?_
   exact eJ Jj167 ⟨v147,v133,hF,q153,rfl,rfl⟩ 8 [0,1,3,4,5,6,7] rfl rfl ⟨rfl,rfl,rfl,rfl,rfl,rfl,rfl,rfl,trivial⟩
  obtain⟨x121',hL,hRl127⟩:=aM hF
  refine cA (fun k a w=>∃(x114:List Rat),∃(x120:Int),∃(b115:Option Nat),∃(c116:Nat),∃(n117:Nat),rD K a0 v93 v104 k x114 x120=some x121'∧x114.length=n117∧hs _ ([⟨some b103,1,24,1,1,[pO b115 n117 c116]⟩,hO cQ b115 c116 42 n117 x114,⟨some b95,1,92,5,1,(aQ.enc v93)⟩,⟨some b33,1,123,6,1,([pI .i64 a0.vars]++[pI .i64 (a0.lines.length:Int)]++[pI .i64 v6]++[pO b60 n62 c61]++[pO none 0 0]++[pO b54 n56 c55])⟩,hO cI b54 c55 3 n56 x53,hO cQ none 0 42 0 ([]:List Rat),hO (cH g66) b60 c61 24 n62 x59,⟨some b1,1,90,3,1,(aX.enc a0)⟩]++eD cQ 42 g66 x65) [(1,.vc (pP (some b1) 0)),(3,.vc (pI .i64 (a0.lines.length:Int))),(4,.vc (pP (some b33) 0)),(5,.vc (pI .i64 x71)),(6,.vc (pP (some b95) 0)),(7,.vc (pP (some b103) 0)),(8,.vc (pM (cB.e (decide (v104<0))))),(9,.vc (pF 147 [pM (cB.e (decide (v104<0))),pP (some b103) 0])),(28,.vc (pS aQ.cod a0.lines)),(29,.vc (pI .i64 (a0.lines.length:Int))),(30,.vc (pI .i64 x71)),(47,.vc (pS cQ v93.a)),(48,.vc (pI .i64 (v93.a.length:Int))),(49,.vc (pI .i64 x120))] a w) K (fun a w ⟨_,_,_,_,_,hF,_,_⟩=>by cases hF) (fun k a w ⟨x114,x120,b115,c116,n117,hF,q118,hh⟩=>b0 ?_ hh) (fun a w hh=>⟨x98,0,b100,x98.length,x98.length,hL,rfl,aR 8 [0,1,2,3,4,5,6,7] rfl rfl (by decide) (by exact⟨rfl,rfl,rfl,rfl,rfl,rfl,rfl,rfl,rfl,rfl,rfl,rfl,rfl,rfl,trivial⟩) hh⟩)
  rw [rD.eq_2] at hF
  refine go ?_ ?_
  refine aB hF rfl (fun h200 hF=>?_) (fun h200 hF=>?_)
  ·refine go ?_ ?_
   refine aG ?_
   obtain⟨v201,h202,hF⟩:=aM hF
   refine go ?_ ?_
   refine aN rfl tyZ42q (fun b203=>?_)
   obtain⟨v204,h205,hF⟩:=aM hF
   refine go ?_ ?_
   refine aEI (f:=147) (cs:=[pM (cB.e (decide (v104<0))),pP (some b103) 0]) (pre:=[.vc (pI .i64 x120),.va (eQ v201)]) (xs:=[.tmp 55,.tmp 56]) 9 [1,2] [0,3,4,5,6,7,8] rfl (uR h205 q118) ⟨rfl,rfl,rfl,trivial⟩ rfl rfl rfl (by decide) ?_
   rintro _ _ ⟨b208,c209,n207,q210,rfl,rfl⟩
   refine aT (aJ ?_)
   obtain⟨v214,h215,hF⟩:=aM hF
   obtain⟨v216,h217,hF⟩:=aW hF wK
   refine dr [0,0,2,0,14,0,32,127] 7 1 ?_ (fun bs213 G212=>?_)
   obtain⟨v218,h219,hF⟩:=aM hF
   refine aEI (f:=147) (cs:=[pM (cB.e (decide (v104<0))),pP (some b103) 0]) (pre:=[.vc (pI .i64 v214),.va (eQ v216)]) (xs:=[.tmp 62,.tmp 64]) 9 [0,1] [2,3,4,5,6,7,8] rfl (uR h219 q210) ⟨rfl,rfl,rfl,trivial⟩ rfl rfl rfl (by decide) ?_
   rintro _ _ ⟨b222,c223,n221,q224,rfl,rfl⟩
   obtain⟨v226,h227,hF⟩:=aM hF
   refine go ?_ ?_
   exact aF (fun a w hh=>⟨v218,v226,b222,c223,n221,hF,q224,aR 9 [0,1,3,4,5,6,7,8] rfl rfl (by decide) (by exact⟨rfl,rfl,rfl,rfl,rfl,rfl,rfl,rfl,rfl,rfl,rfl,rfl,rfl,rfl,trivial⟩) hh⟩)
  refine aV ?_
  obtain rfl:=eP hF
  exact eJ Jj128 ⟨x114,b115,c116,n117,hRl127,q118,rfl,rfl⟩ 8 [0,1,2,3,4,5,6,7] rfl rfl ⟨rfl,rfl,rfl,rfl,rfl,rfl,rfl,rfl,rfl,rfl,rfl,trivial⟩
 refine aV ?_
 obtain⟨rfl,rfl,rfl⟩:=sm3 hF
 exact eJ Jj91 ⟨x53,x59,x65,b54,c55,n56,b60,c61,n62,g66,N67,hRl90,q57,q63,q68,q69,q70,rfl,rfl⟩ 5 [0,1,2,3] rfl rfl zU1
def vS (K:Nat) (x34:List Rat):Option (List Rat):=
 some x34
def n5 (K:Nat) (a0:Nat) (a3:List (List Rat)) (v14:Rat):Nat→(List Rat)→Int→Option (List Rat)
 |0,_,_=>none
 |k+1,x27,x33=>bif(decide (x33<((a3.getD a0 []).length:Int))) then((bF (a3.getD a0 []) x33).bind fun v43=>(xD v43).bind fun v46=>bif(v46 != 0) then((bF x27 x33).bind fun v51=>(aEr v14 v43).bind fun v53=>(aGr v51 v53).bind fun v55=>(bF x27 x33).bind fun v57=>(qL x27 x33 v55).bind fun x59=>(aS (x33+1)).bind fun v62=>n5 K a0 a3 v14 k x59 v62) else((aS (x33+1)).bind fun v64=>n5 K a0 a3 v14 k x27 v64)) else(some x27)
def vW (K:Nat) (a0:Nat) (a1:Int) (a2:List Rat) (a3:List (List Rat)):Option (List Rat):=
 (bF a2 a1).bind fun v14=>(xD v14).bind fun v17=>bif(v17==0) then(some a2) else((n5 K a0 a3 v14 K a2 0).bind fun x34=>vS K x34)
theorem aAd {K:Nat} {a0:Nat} {a1:Int} {a2:List Rat} {a3:List (List Rat)} {r:List Rat} (hF:vW K a0 a1 a2 a3=some r) {b4:Option Nat} {c5 n6:Nat} {g9:List rK} {N10:Nat} (q7:a2.length=n6) (q11:a3.length=N10) (q12:cJ g9 a3) (q3:a0<N10):CtO Tryz.prog 148 ([hO cQ b4 c5 42 n6 a2]++eD cQ 42 g9 a3) [.vc (pO b4 n6 c5),.vc (pO (gA g9 a0).1 (gA g9 a0).2.1 (gA g9 a0).2.2),.vc (pI .i64 a1)] (fun Ho q=>r.length=n6∧Ho=([hO cQ b4 c5 42 n6 r]++eD cQ 42 g9 a3)∧q=.any):=by
 unfold vW at hF
 refine aA Tryz.func148 rfl (by kernel_rfl) Tryz.ntmps148 rfl (fun w0 M0=>?_)
 obtain⟨v14,h15,hF⟩:=aM hF
 refine go ?_ ?_
 refine aN rfl tyZ42q (fun b16=>?_)
 obtain⟨v17,h18,hF⟩:=aW hF eS
 refine go ?_ ?_
 refine aB hF rfl (fun h19 hF=>?_) (fun h19 hF=>?_)
 ·refine dQ (dL ?_)
  obtain rfl:=eP hF
  exact jT (.inl rfl) Tryz.results148 .nil rfl 2 [1] rfl rfl (by decide) ⟨q7,rfl,rfl⟩
 refine go ?_ ?_
 refine aI (aB3 (C:=cQ) (xs:=(a3.getD a0 [])) (T:=42) rfl tyS24 (cR q12 q11 q3)) zU1 ?_
 refine go ?_ ?_
 refine aG (aP (fun H E=>∃(x34:List Rat),vS K x34=some r∧x34.length=n6∧H=([hO cQ b4 c5 42 n6 x34]++eD cQ 42 g9 a3)∧E=[]) ?_ (fun Jj41=>?_))
 ·rintro _ _ ⟨x34,hF,q38,rfl,rfl⟩
  unfold vS at hF
  obtain rfl:=eP hF
  exact jT (.inr rfl) Tryz.results148 .nil rfl 1 [0] rfl rfl (by decide) ⟨q38,rfl,rfl⟩
 obtain⟨x34',hL,hRl40⟩:=aM hF
 refine cA (fun k a w=>∃(x27:List Rat),∃(x33:Int),n5 K a0 a3 v14 k x27 x33=some x34'∧x27.length=n6∧hs _ ([⟨some b16,1,42,4,1,(eQ v14)⟩,hO cQ b4 c5 42 n6 x27]++eD cQ 42 g9 a3) [(0,.vc (pO b4 n6 c5)),(6,.vc (pP (some b16) 0)),(16,.vc (pO (gA g9 a0).1 (gA g9 a0).2.1 (gA g9 a0).2.2)),(17,.vc (pI .i64 ((a3.getD a0 []).length:Int))),(18,.vc (pI .i64 x33))] a w) K (fun a w ⟨_,_,hF,_,_⟩=>by cases hF) (fun k a w ⟨x27,x33,hF,q31,hh⟩=>b0 ?_ hh) (fun a w hh=>⟨a2,0,hL,q7,aR 2 [0,1] rfl rfl (by decide) (by exact⟨rfl,rfl,rfl,rfl,rfl,trivial⟩) hh⟩)
 rw [n5.eq_2] at hF
 refine go ?_ ?_
 refine aB hF rfl (fun h42 hF=>?_) (fun h42 hF=>?_)
 ·refine go ?_ ?_
  refine aG ?_
  obtain⟨v43,h44,hF⟩:=aM hF
  refine go ?_ ?_
  refine aI (cY (2+a0) rfl tyS24 (rV 2 rfl q12 q11 q3) (cR q12 q11 q3) (aD h44).1 (aD h44).2.1) zU2 ?_
  refine aI (iD (k:=4) (2+a0) rfl (rV 2 rfl q12 q11 q3) h44 rfl (.agg tyA42) rfl) zU1 ?_
  refine aN rfl tyZ42q (fun b45=>?_)
  obtain⟨v46,h47,hF⟩:=aW hF eS
  refine go ?_ ?_
  refine aB hF rfl (fun h48 hF=>?_) (fun h48 hF=>?_)
  ·obtain⟨v51,h52,hF⟩:=aM hF
   obtain⟨v53,h54,hF⟩:=aW hF xR
   obtain⟨v55,h56,hF⟩:=aW hF zD
   have hF:=tJ h52 hF
   refine dr [0,0,0,0,12,28,0,0,192,508,1023,2047] 11 1 ?_ (fun bs50 G49=>?_)
   obtain⟨x59,h60,v62,h63,hF⟩:=tW hF
   refine go ?_ ?_
   exact aF (fun a w hh=>⟨x59,v62,hF,(bC h60 q31),aR 3 [1,2] rfl rfl (by decide) (by exact⟨rfl,rfl,rfl,rfl,rfl,trivial⟩) hh⟩)
  obtain⟨v64,h65,hF⟩:=aM hF
  refine go ?_ ?_
  exact aF (fun a w hh=>⟨x27,v64,hF,q31,aR 3 [1,2] rfl rfl (by decide) (by exact⟨rfl,rfl,rfl,rfl,rfl,trivial⟩) hh⟩)
 refine aV ?_
 obtain rfl:=eP hF
 exact eJ Jj41 ⟨x27,hRl40,q31,rfl,rfl⟩ 2 [1] rfl rfl trivial
def qJ (K:Nat) (x69:List Rat):Option (List Rat):=
 some x69
def lQ (K:Nat) (a4:List Nat) (a6:List Int) (a7:List (List Rat)):Nat→(List Rat)→Int→Option (List Rat)
 |0,_,_=>none
 |k+1,x62,x68=>bif(decide (x68<(a6.length:Int))) then((bF a6 x68).bind fun v78=>(bF a4 x68).bind fun v82=>(vW K v82 v78 x62 a7).bind fun v84=>(aS (x68+1)).bind fun v88=>lQ K a4 a6 a7 k v84 v88) else(some x62)
def qE (K:Nat) (a4:List Nat) (a6:List Int) (a7:List (List Rat)) (x47:List Rat):Option (List Rat):=
 (lQ K a4 a6 a7 K x47 0).bind fun x69=>qJ K x69
def lS (K:Nat) (a0:(Int→Option Rat)) (a3:Int):Nat→(List Rat)→Int→Option (List Rat)
 |0,_,_=>none
 |k+1,x40,x46=>bif(decide (x46<a3)) then((a0 x46).bind fun v93=>(bF x40 x46).bind fun v95=>(qL x40 x46 v93).bind fun x97=>(aS (x46+1)).bind fun v100=>lS K a0 a3 k x97 v100) else(some x40)
def o9 (K:Nat) (a0:(Int→Option Rat)) (a1:Int) (a2:Int) (a3:Int) (a4:List Nat) (a5:List Rat) (a6:List Int) (a7:List (List Rat)):Option (List Rat):=
 (aS (a3+1)).bind fun v26=>(mkL v26 0).bind fun x28=>(lS K a0 a3 K x28 0).bind fun x47=>qE K a4 a6 a7 x47
theorem wH {K:Nat} {a0:(Int→Option Rat)} {a1:Int} {a2:Int} {a3:Int} {a4:List Nat} {a5:List Rat} {a6:List Int} {a7:List (List Rat)} {r:List Rat} (hF:o9 K a0 a1 a2 a3 a4 a5 a6 a7=some r) {p0:Nat} {b5:Option Nat} {c6 n7:Nat} {b10:Option Nat} {c11 n12:Nat} {b15:Option Nat} {c16 n17:Nat} {g20:List rK} {N21:Nat} (q8:a4.length=n7) (q13:a5.length=n12) (q18:a6.length=n17) (q22:a7.length=N21) (q23:cJ g20 a7) (q24:∀k∈a4,k<N21):CtO Tryz.prog 112 ([⟨some p0,1,123,6,1,([pI .i64 a1]++[pI .i64 a2]++[pI .i64 a3]++[pO b5 n7 c6]++[pO b10 n12 c11]++[pO b15 n17 c16])⟩,hO (cH g20) b5 c6 24 n7 a4,hO cQ b10 c11 42 n12 a5,hO cI b15 c16 3 n17 a6]++eD cQ 42 g20 a7) [.vc (pP (some p0) 0),.vc (pFn Tryz.prog (fun x:Int=>[.vc (pI .i64 x)]) (fun r:Rat=>.va (eQ r)) a0)] (fun Ho q=>∃b1103 c1104 n1105,r.length=n1105∧Ho=([⟨some p0,1,123,6,1,([pI .i64 a1]++[pI .i64 a2]++[pI .i64 a3]++[pO b5 n7 c6]++[pO b1103 n1105 c1104]++[pO b15 n17 c16])⟩,hO (cH g20) b5 c6 24 n7 a4,hO cQ b10 c11 42 n12 a5,hO cI b15 c16 3 n17 a6,hO cQ b1103 c1104 42 n1105 r]++eD cQ 42 g20 a7)∧q=.any):=by
 unfold o9 at hF
 refine aA Tryz.func112 rfl (by kernel_rfl) Tryz.ntmps112 rfl (fun w0 M0=>?_)
 obtain⟨v26,h27,x28,h29,hF⟩:=tW hF
 refine go ?_ ?_
 refine nN (C:=cQ) rfl tyS24 rfl tyZ42q rfl h29 (fun b30=>?_)
 refine go ?_ ?_
 refine aG (aP (fun H E=>∃(x47:List Rat),qE K a4 a6 a7 x47=some r∧x47.length=x28.length∧H=([hO cQ b30 x28.length 42 x28.length x47,⟨some p0,1,123,6,1,([pI .i64 a1]++[pI .i64 a2]++[pI .i64 a3]++[pO b5 n7 c6]++[pO b30 x28.length x28.length]++[pO b15 n17 c16])⟩,hO (cH g20) b5 c6 24 n7 a4,hO cQ b10 c11 42 n12 a5,hO cI b15 c16 3 n17 a6]++eD cQ 42 g20 a7)∧E=[(0,.vc (pP (some p0) 0))]) ?_ (fun Jj54=>?_))
 ·rintro _ _ ⟨x47,hF,q51,rfl,rfl⟩
  unfold qE at hF
  refine go ?_ ?_
  refine aG (aP (fun H E=>∃(x69:List Rat),qJ K x69=some r∧x69.length=x28.length∧H=([hO cQ b30 x28.length 42 x28.length x69,⟨some p0,1,123,6,1,([pI .i64 a1]++[pI .i64 a2]++[pI .i64 a3]++[pO b5 n7 c6]++[pO b30 x28.length x28.length]++[pO b15 n17 c16])⟩,hO (cH g20) b5 c6 24 n7 a4,hO cQ b10 c11 42 n12 a5,hO cI b15 c16 3 n17 a6]++eD cQ 42 g20 a7)∧E=[]) ?_ (fun Jj76=>?_))
  ·rintro _ _ ⟨x69,hF,q73,rfl,rfl⟩
   unfold qJ at hF
   obtain rfl:=eP hF
   exact jT (.inr rfl) Tryz.results112 .nil rfl 5 [1,2,3,4,0] rfl rfl (by decide) ⟨b30,x28.length,x28.length,q73,rfl,rfl⟩
  obtain⟨x69',hL,hRl75⟩:=aM hF
  refine cA (fun k a w=>∃(x62:List Rat),∃(x68:Int),lQ K a4 a6 a7 k x62 x68=some x69'∧x62.length=x28.length∧hs _ ([hO cQ b30 x28.length 42 x28.length x62,⟨some p0,1,123,6,1,([pI .i64 a1]++[pI .i64 a2]++[pI .i64 a3]++[pO b5 n7 c6]++[pO b30 x28.length x28.length]++[pO b15 n17 c16])⟩,hO (cH g20) b5 c6 24 n7 a4,hO cQ b10 c11 42 n12 a5,hO cI b15 c16 3 n17 a6]++eD cQ 42 g20 a7) [(0,.vc (pP (some p0) 0)),(36,.vc (pO b15 n17 c16)),(37,.vc (pI .i64 (a6.length:Int))),(38,.vc (pI .i64 x68))] a w) K (fun a w ⟨_,_,hF,_,_⟩=>by cases hF) (fun k a w ⟨x62,x68,hF,q66,hh⟩=>b0 ?_ hh) (fun a w hh=>⟨x47,0,hL,q51,aR 5 [0,1,2,3,4] rfl rfl (by decide) (by exact⟨rfl,rfl,rfl,rfl,trivial⟩) hh⟩)
  rw [lQ.eq_2] at hF
  refine go ?_ ?_
  refine aB hF rfl (fun h77 hF=>?_) (fun h77 hF=>?_)
  ·refine go ?_ ?_
   refine aG ?_
   obtain⟨v78,h79,v82,h83,hF⟩:=tW hF
   refine go ?_ ?_
   refine dr [0,1,3,7,0,16,48,112,0,496,1008,0,4095] 12 1 ?_ (fun bs81 G80=>?_)
   obtain⟨v84,h85,hF⟩:=aM hF
   refine o7 5 [0] [1,2,3,4] rfl (aAd h85 q66 q22 q23 (q24 _ (aO h83))) ⟨rfl,rfl,rfl,trivial⟩ rfl rfl rfl (by decide) ?_
   rintro _ _ ⟨q86,rfl,rfl⟩
   refine mM (jS [hO cQ b30 x28.length 42 x28.length v84] (eD cQ 42 g20 a7) [⟨some p0,1,123,6,1,([pI .i64 a1]++[pI .i64 a2]++[pI .i64 a3]++[pO b5 n7 c6]++[pO b30 x28.length x28.length]++[pO b15 n17 c16])⟩,hO (cH g20) b5 c6 24 n7 a4,hO cQ b10 c11 42 n12 a5,hO cI b15 c16 3 n17 a6]) ?_
   obtain⟨v88,h89,hF⟩:=aM hF
   refine go ?_ ?_
   exact aF (fun a w hh=>⟨v84,v88,hF,q86,aR 5 [0,1,2,3,4] rfl rfl (by decide) (by exact⟨rfl,rfl,rfl,rfl,trivial⟩) hh⟩)
  refine aV ?_
  obtain rfl:=eP hF
  exact eJ Jj76 ⟨x62,hRl75,q66,rfl,rfl⟩ 5 [0,1,2,3,4] rfl rfl trivial
 obtain⟨x47',hL,hRl53⟩:=aM hF
 refine cA (fun k a w=>∃(x40:List Rat),∃(x46:Int),lS K a0 a3 k x40 x46=some x47'∧x40.length=x28.length∧hs _ ([hO cQ b30 x28.length 42 x28.length x40,⟨some p0,1,123,6,1,([pI .i64 a1]++[pI .i64 a2]++[pI .i64 a3]++[pO b5 n7 c6]++[pO b30 x28.length x28.length]++[pO b15 n17 c16])⟩,hO (cH g20) b5 c6 24 n7 a4,hO cQ b10 c11 42 n12 a5,hO cI b15 c16 3 n17 a6]++eD cQ 42 g20 a7) [(0,.vc (pP (some p0) 0)),(1,.vc (pFn Tryz.prog (fun x:Int=>[.vc (pI .i64 x)]) (fun r:Rat=>.va (eQ r)) a0)),(19,.vc (pI .i64 a3)),(20,.vc (pI .i64 x46))] a w) K (fun a w ⟨_,_,hF,_,_⟩=>by cases hF) (fun k a w ⟨x40,x46,hF,q44,hh⟩=>b0 ?_ hh) (fun a w hh=>⟨x28,0,hL,rfl,aR 5 [0,1,2,3,4] rfl rfl (by decide) (by exact⟨rfl,rfl,rfl,rfl,trivial⟩) hh⟩)
 rw [lS.eq_2] at hF
 refine go ?_ ?_
 refine aB hF rfl (fun h90 hF=>?_) (fun h90 hF=>?_)
 ·refine go ?_ ?_
  refine aG ?_
  obtain⟨v93,h94,v95,h96,hF⟩:=tW hF
  refine go ?_ ?_
  refine iQ [0,1,3,7,0,0,0,96,255,511] 9 1 [.v (.vc (pP (some p0) 0)),.v (.vc (pP (some p0) 0)),.v (.vc (pP (some p0) 4)),.v (.vc (pO b30 x28.length x28.length)),.v (.vc (pI .i64 x46)),.v (.vc (pFn Tryz.prog (fun x:Int=>[.vc (pI .i64 x)]) (fun r:Rat=>.va (eQ r)) a0)),.v (.vc (pI .i64 x46)),.v (.va (eQ v93)),.v (.vc (pE b30 x46 cQ.n 0))] aU ⟨d0 (aL (.inl rfl)) zU1,d0 (s9 rfl) zU1,d0 (gV (off:=0) (k:=4) rfl tyF123_4) zU1,d0 (gC 1 1 rfl rfl rfl rfl (.one tyO24)) zU1,d0 (aL (.inl rfl)) zU1,d0 (aL (.inl rfl)) zU1,d0 (aL (.inl rfl)) zU1,d0 (aEC (pre:=fun x:Int=>[.vc (pI .i64 x)]) (post:=fun r:Rat=>.va (eQ r)) (x:=x46) (r:=v93) rfl h94 rfl) zU2,d0 (cY (C:=cQ) 0 rfl tyS24 rfl q44 (aD h96).1 (aD h96).2.1) zU2,trivial⟩ (fun bs92 G91=>?_)
  obtain⟨x97,h98,v100,h101,hF⟩:=tW hF
  refine go ?_ ?_
  exact aF (fun a w hh=>⟨x97,v100,hF,(bC h98 q44),aR 5 [0,1,2,3,4] rfl rfl (by decide) (by exact⟨rfl,rfl,rfl,rfl,trivial⟩) hh⟩)
 refine aV ?_
 obtain rfl:=eP hF
 exact eJ Jj54 ⟨x40,hRl53,q44,rfl,rfl⟩ 5 [0,1,2,3,4] rfl rfl zU1
end Go.Proofs.YtolfcbpgmfbgmaaGreat
