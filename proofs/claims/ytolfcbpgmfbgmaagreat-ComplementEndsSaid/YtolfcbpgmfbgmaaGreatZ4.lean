/- Texts of the proof, part 4: Q1. -/
import Derived.Test.YtolfcbpgmfbgmaaGreatZ3
set_option linter.unusedSimpArgs false
set_option linter.unusedVariables false
set_option maxRecDepth 100000
namespace Go.Proofs.YtolfcbpgmfbgmaaGreat
structure aFd where
 vars:Int
 rows:Int
 cols:Int
 t:List (List Rat)
 costs:List Rat
 basis:List Int
noncomputable def aFd.enc (x:aFd):List CP:=[pI .i64 x.vars]++[pI .i64 x.rows]++[pI .i64 x.cols]++[pS (pC cQ) x.t]++[pS cQ x.costs]++[pS cI x.basis]
noncomputable def aFd.cod:Cd aFd:=⟨6,aFd.enc,fun _=>rfl⟩
structure aJF where
 z:List Rat
 w:List Rat
 pivots:Int
noncomputable def aJF.enc (x:aJF):List CP:=[pS cQ x.z]++[pS cQ x.w]++[pI .i64 x.pivots]
noncomputable def aJF.cod:Cd aJF:=⟨3,aJF.enc,fun _=>rfl⟩
structure aJI where
 n:Int
 rows:List (List Rat)
 basic:List Int
noncomputable def aJI.enc (x:aJI):List CP:=[pI .i64 x.n]++[pS (pC cQ) x.rows]++[pS cI x.basic]
noncomputable def aJI.cod:Cd aJI:=⟨3,aJI.enc,fun _=>rfl⟩
structure aL where
 a:List Rat
 b:Rat
noncomputable def aL.enc (x:aL):List CP:=[pS cQ x.a]++(eQ x.b)
noncomputable def aL.cod:Cd aL:=⟨5,aL.enc,fun _=>rfl⟩
structure aIV where
 vars:Int
 lines:List aL
 goal:List Rat
noncomputable def aIV.enc (x:aIV):List CP:=[pI .i64 x.vars]++[pS aL.cod x.lines]++[pS cQ x.goal]
noncomputable def aIV.cod:Cd aIV:=⟨3,aIV.enc,fun _=>rfl⟩
structure aIk where
 a:List Rat
 b:Rat
noncomputable def aIk.enc (x:aIk):List CP:=[pS cQ x.a]++(eQ x.b)
noncomputable def aIk.cod:Cd aIk:=⟨5,aIk.enc,fun _=>rfl⟩
structure aJn where
 kind:Int
 x:List Rat
 y:List Rat
 value:Rat
noncomputable def aJn.enc (x:aJn):List CP:=[pI .i64 x.kind]++[pS cQ x.x]++[pS cQ x.y]++(eQ x.value)
noncomputable def aJn.cod:Cd aJn:=⟨7,aJn.enc,fun _=>rfl⟩
structure mH where
 kind:Int
 x:List Rat
 y:List Rat
 value:Rat
noncomputable def mH.enc (x:mH):List CP:=[pI .i64 x.kind]++[pS cQ x.x]++[pS cQ x.y]++(eQ x.value)
noncomputable def mH.cod:Cd mH:=⟨7,mH.enc,fun _=>rfl⟩
structure aM where
 z:List Rat
 w:List Rat
 pivots:Int
noncomputable def aM.enc (x:aM):List CP:=[pS cQ x.z]++[pS cQ x.w]++[pI .i64 x.pivots]
noncomputable def aM.cod:Cd aM:=⟨3,aM.enc,fun _=>rfl⟩
structure aQ where
 vars:Int
 lines:List aL
 goal:List Rat
noncomputable def aQ.enc (x:aQ):List CP:=[pI .i64 x.vars]++[pS aL.cod x.lines]++[pS cQ x.goal]
noncomputable def aQ.cod:Cd aQ:=⟨3,aQ.enc,fun _=>rfl⟩
structure nG where
 n:Int
 rows:List (List Rat)
 basic:List Int
noncomputable def nG.enc (x:nG):List CP:=[pI .i64 x.n]++[pS (pC cQ) x.rows]++[pS cI x.basic]
noncomputable def nG.cod:Cd nG:=⟨3,nG.enc,fun _=>rfl⟩
structure sD where
 vars:Int
 rows:Int
 cols:Int
 t:List (List Rat)
 costs:List Rat
 basis:List Int
noncomputable def sD.enc (x:sD):List CP:=[pI .i64 x.vars]++[pI .i64 x.rows]++[pI .i64 x.cols]++[pS (pC cQ) x.t]++[pS cQ x.costs]++[pS cI x.basis]
noncomputable def sD.cod:Cd sD:=⟨6,sD.enc,fun _=>rfl⟩
instance tyA30:TyA Tryz.prog 30 3:=mkA Tryz.underlying30 rfl (by kernel_rfl)
instance tyA90:TyA Tryz.prog 90 3:=mkA Tryz.underlying90 rfl (by kernel_rfl)
instance tyA92:TyA Tryz.prog 92 5:=mkA Tryz.underlying92 rfl (by kernel_rfl)
instance tyA94:TyA Tryz.prog 94 7:=mkA Tryz.underlying94 rfl (by kernel_rfl)
theorem tyB123_o3_o4_o5q:TyB Tryz.prog 123 [(0,1),(1,1),(2,1),(3,1),(4,1),(5,1)] ([pI .i64 0]++[pI .i64 0]++[pI .i64 0]++[pO none 0 0]++[pO none 0 0]++[pO none 0 0]):=mkB (z:=.agg #[.int .i64 0,.int .i64 0,.int .i64 0,.slice none 0 0,.slice none 0 0,.slice none 0 0]) (by kernel_rfl) Tryz.underlying123 (by kernel_rfl) (fun M=>bA.app (bA.app (bA.app (bA.app (bA.app (show bA M [pI .i64 0] [.int .i64 0] from zU1) (show bA M [pI .i64 0] [.int .i64 0] from zU1)) (show bA M [pI .i64 0] [.int .i64 0] from zU1)) (show bA M [pO none 0 0] [.slice none 0 0] from⟨.inl rfl,trivial⟩)) (show bA M [pO none 0 0] [.slice none 0 0] from⟨.inl rfl,trivial⟩)) (show bA M [pO none 0 0] [.slice none 0 0] from⟨.inl rfl,trivial⟩))
theorem tyB30q:TyB Tryz.prog 30 [(0,1),(1,1),(2,1)] ([pS cQ ([]:List Rat)]++[pS cQ ([]:List Rat)]++[pI .i64 0]):=mkB (z:=.agg #[.slice none 0 0,.slice none 0 0,.int .i64 0]) (by kernel_rfl) Tryz.underlying30 (by kernel_rfl) (fun M=>bA.app (bA.app (show bA M [pS cQ ([]:List Rat)] [.slice none 0 0] from⟨gM cQ M,trivial⟩) (show bA M [pS cQ ([]:List Rat)] [.slice none 0 0] from⟨gM cQ M,trivial⟩)) (show bA M [pI .i64 0] [.int .i64 0] from zU1))
theorem tyB42q:TyB Tryz.prog 42 [(0,2),(2,2)] (eQ 0):=mkB (z:=.agg #[.bool false,.slice none 0 0,.bool false,.slice none 0 0]) (by kernel_rfl) Tryz.underlying42 (by kernel_rfl) (fun M=>eQ0 M)
theorem tyB72_o1_o2q:TyB Tryz.prog 72 [(0,1),(1,1),(2,1)] ([pI .i64 0]++[pO none 0 0]++[pO none 0 0]):=mkB (z:=.agg #[.int .i64 0,.slice none 0 0,.slice none 0 0]) (by kernel_rfl) Tryz.underlying72 (by kernel_rfl) (fun M=>bA.app (bA.app (show bA M [pI .i64 0] [.int .i64 0] from zU1) (show bA M [pO none 0 0] [.slice none 0 0] from⟨.inl rfl,trivial⟩)) (show bA M [pO none 0 0] [.slice none 0 0] from⟨.inl rfl,trivial⟩))
theorem tyB90_o1q:TyB Tryz.prog 90 [(0,1),(1,1),(2,1)] ([pI .i64 0]++[pO none 0 0]++[pS cQ ([]:List Rat)]):=mkB (z:=.agg #[.int .i64 0,.slice none 0 0,.slice none 0 0]) (by kernel_rfl) Tryz.underlying90 (by kernel_rfl) (fun M=>bA.app (bA.app (show bA M [pI .i64 0] [.int .i64 0] from zU1) (show bA M [pO none 0 0] [.slice none 0 0] from⟨.inl rfl,trivial⟩)) (show bA M [pS cQ ([]:List Rat)] [.slice none 0 0] from⟨gM cQ M,trivial⟩))
theorem tyB92q:TyB Tryz.prog 92 [(0,1),(1,4)] ([pS cQ ([]:List Rat)]++(eQ 0)):=mkB (z:=.agg #[.slice none 0 0,.bool false,.slice none 0 0,.bool false,.slice none 0 0]) (by kernel_rfl) Tryz.underlying92 (by kernel_rfl) (fun M=>bA.app (show bA M [pS cQ ([]:List Rat)] [.slice none 0 0] from⟨gM cQ M,trivial⟩) (eQ0 M))
theorem tyB92_o0q:TyB Tryz.prog 92 [(0,1),(1,4)] ([pO none 0 0]++(eQ 0)):=mkB (z:=.agg #[.slice none 0 0,.bool false,.slice none 0 0,.bool false,.slice none 0 0]) (by kernel_rfl) Tryz.underlying92 (by kernel_rfl) (fun M=>bA.app (show bA M [pO none 0 0] [.slice none 0 0] from⟨.inl rfl,trivial⟩) (eQ0 M))
theorem tyB94q:TyB Tryz.prog 94 [(0,1),(1,1),(2,1),(3,4)] ([pI .i64 0]++[pS cQ ([]:List Rat)]++[pS cQ ([]:List Rat)]++(eQ 0)):=mkB (z:=.agg #[.int .i64 0,.slice none 0 0,.slice none 0 0,.bool false,.slice none 0 0,.bool false,.slice none 0 0]) (by kernel_rfl) Tryz.underlying94 (by kernel_rfl) (fun M=>bA.app (bA.app (bA.app (show bA M [pI .i64 0] [.int .i64 0] from zU1) (show bA M [pS cQ ([]:List Rat)] [.slice none 0 0] from⟨gM cQ M,trivial⟩)) (show bA M [pS cQ ([]:List Rat)] [.slice none 0 0] from⟨gM cQ M,trivial⟩)) (eQ0 M))
instance tyF123_0:TyF Tryz.prog 123 0 0:=mkF (ft:=3) (k:=0) Tryz.underlying123 rfl rfl rfl (by kernel_rfl)
instance tyF123_1:TyF Tryz.prog 123 1 1:=mkF (ft:=3) (k:=0) Tryz.underlying123 rfl rfl rfl (by kernel_rfl)
instance tyF123_2:TyF Tryz.prog 123 2 2:=mkF (ft:=3) (k:=0) Tryz.underlying123 rfl rfl rfl (by kernel_rfl)
instance tyF123_3:TyF Tryz.prog 123 3 3:=mkF (ft:=23) (k:=0) Tryz.underlying123 rfl rfl rfl (by kernel_rfl)
instance tyF123_4:TyF Tryz.prog 123 4 4:=mkF (ft:=24) (k:=0) Tryz.underlying123 rfl rfl rfl (by kernel_rfl)
instance tyF123_5:TyF Tryz.prog 123 5 5:=mkF (ft:=22) (k:=0) Tryz.underlying123 rfl rfl rfl (by kernel_rfl)
instance tyF30_0:TyF Tryz.prog 30 0 0:=mkF (ft:=24) (k:=0) Tryz.underlying30 rfl rfl rfl (by kernel_rfl)
instance tyF30_1:TyF Tryz.prog 30 1 1:=mkF (ft:=24) (k:=0) Tryz.underlying30 rfl rfl rfl (by kernel_rfl)
instance tyF30_2:TyF Tryz.prog 30 2 2:=mkF (ft:=3) (k:=0) Tryz.underlying30 rfl rfl rfl (by kernel_rfl)
instance tyF72_0:TyF Tryz.prog 72 0 0:=mkF (ft:=3) (k:=0) Tryz.underlying72 rfl rfl rfl (by kernel_rfl)
instance tyF72_1:TyF Tryz.prog 72 1 1:=mkF (ft:=23) (k:=0) Tryz.underlying72 rfl rfl rfl (by kernel_rfl)
instance tyF72_2:TyF Tryz.prog 72 2 2:=mkF (ft:=22) (k:=0) Tryz.underlying72 rfl rfl rfl (by kernel_rfl)
instance tyF90_0:TyF Tryz.prog 90 0 0:=mkF (ft:=3) (k:=0) Tryz.underlying90 rfl rfl rfl (by kernel_rfl)
instance tyF90_1:TyF Tryz.prog 90 1 1:=mkF (ft:=88) (k:=0) Tryz.underlying90 rfl rfl rfl (by kernel_rfl)
instance tyF90_2:TyF Tryz.prog 90 2 2:=mkF (ft:=24) (k:=0) Tryz.underlying90 rfl rfl rfl (by kernel_rfl)
instance tyF92_0:TyF Tryz.prog 92 0 0:=mkF (ft:=24) (k:=0) Tryz.underlying92 rfl rfl rfl (by kernel_rfl)
instance tyF92_1:TyF Tryz.prog 92 1 1:=mkF (ft:=42) (k:=3) Tryz.underlying92 rfl rfl rfl (by kernel_rfl)
instance tyF94_0:TyF Tryz.prog 94 0 0:=mkF (ft:=3) (k:=0) Tryz.underlying94 rfl rfl rfl (by kernel_rfl)
instance tyF94_1:TyF Tryz.prog 94 1 1:=mkF (ft:=24) (k:=0) Tryz.underlying94 rfl rfl rfl (by kernel_rfl)
instance tyF94_3:TyF Tryz.prog 94 3 3:=mkF (ft:=42) (k:=3) Tryz.underlying94 rfl rfl rfl (by kernel_rfl)
instance tyO120:Ty1 Tryz.prog 120:=mk1 Tryz.underlying120 rfl (by kernel_rfl)
instance tyO23:Ty1 Tryz.prog 23:=mk1 Tryz.underlying23 rfl (by kernel_rfl)
instance tyO24:Ty1 Tryz.prog 24:=mk1 Tryz.underlying24 rfl (by kernel_rfl)
instance tyO88:Ty1 Tryz.prog 88:=mk1 Tryz.underlying88 rfl (by kernel_rfl)
instance tyS23:TyS Tryz.prog 23 24 1 24:=mkS (z:=.slice none 0 0) (k:=0) Tryz.underlying23 (by kernel_rfl) rfl
instance tyS24:TyS Tryz.prog 24 42 4 64:=mkS (z:=.agg #[.bool false,.slice none 0 0,.bool false,.slice none 0 0]) (k:=3) Tryz.underlying24 (by kernel_rfl) rfl
instance tyS88:TyS Tryz.prog 88 92 5 88:=mkS (z:=.agg #[.slice none 0 0,.bool false,.slice none 0 0,.bool false,.slice none 0 0]) (k:=4) Tryz.underlying88 (by kernel_rfl) rfl
instance tyZ120q:TyZ Tryz.prog 120 [aNO]:=mkZ (z:=.pointer none) (k:=1) (by kernel_rfl) rfl (fun M=>show bA M [aNO] [.pointer none] from zU1)
instance tyZ24q:TyZ Tryz.prog 24 [pS cQ ([]:List Rat)]:=mkZ (z:=.slice none 0 0) (k:=1) (by kernel_rfl) rfl (fun M=>show bA M [pS cQ ([]:List Rat)] [.slice none 0 0] from⟨gM cQ M,trivial⟩)
instance tyZ3q:TyZ Tryz.prog 3 [pI .i64 0]:=mkZ (z:=.int .i64 0) (k:=1) (by kernel_rfl) rfl (fun M=>show bA M [pI .i64 0] [.int .i64 0] from zU1)
instance tyZ30q:TyZ Tryz.prog 30 ([pS cQ ([]:List Rat)]++[pS cQ ([]:List Rat)]++[pI .i64 0]):=mkZ (z:=.agg #[.slice none 0 0,.slice none 0 0,.int .i64 0]) (k:=3) (by kernel_rfl) rfl (fun M=>bA.app (bA.app (show bA M [pS cQ ([]:List Rat)] [.slice none 0 0] from⟨gM cQ M,trivial⟩) (show bA M [pS cQ ([]:List Rat)] [.slice none 0 0] from⟨gM cQ M,trivial⟩)) (show bA M [pI .i64 0] [.int .i64 0] from zU1))
instance tyZ4q:TyZ Tryz.prog 4 [pB false]:=mkZ (z:=.bool false) (k:=1) (by kernel_rfl) rfl (fun M=>show bA M [pB false] [.bool false] from zU1)
instance tyZ42q:TyZ Tryz.prog 42 (eQ 0):=mkZ (z:=.agg #[.bool false,.slice none 0 0,.bool false,.slice none 0 0]) (k:=4) (by kernel_rfl) rfl (fun M=>eQ0 M)
instance tyZ90q:TyZ Tryz.prog 90 ([pI .i64 0]++[pS aL.cod ([]:List aL)]++[pS cQ ([]:List Rat)]):=mkZ (z:=.agg #[.int .i64 0,.slice none 0 0,.slice none 0 0]) (k:=3) (by kernel_rfl) rfl (fun M=>bA.app (bA.app (show bA M [pI .i64 0] [.int .i64 0] from zU1) (show bA M [pS aL.cod ([]:List aL)] [.slice none 0 0] from⟨gM aL.cod M,trivial⟩)) (show bA M [pS cQ ([]:List Rat)] [.slice none 0 0] from⟨gM cQ M,trivial⟩))
instance tyZ92q:TyZ Tryz.prog 92 ([pS cQ ([]:List Rat)]++(eQ 0)):=mkZ (z:=.agg #[.slice none 0 0,.bool false,.slice none 0 0,.bool false,.slice none 0 0]) (k:=5) (by kernel_rfl) rfl (fun M=>bA.app (show bA M [pS cQ ([]:List Rat)] [.slice none 0 0] from⟨gM cQ M,trivial⟩) (eQ0 M))
instance tyZ94q:TyZ Tryz.prog 94 ([pI .i64 0]++[pS cQ ([]:List Rat)]++[pS cQ ([]:List Rat)]++(eQ 0)):=mkZ (z:=.agg #[.int .i64 0,.slice none 0 0,.slice none 0 0,.bool false,.slice none 0 0,.bool false,.slice none 0 0]) (k:=7) (by kernel_rfl) rfl (fun M=>bA.app (bA.app (bA.app (show bA M [pI .i64 0] [.int .i64 0] from zU1) (show bA M [pS cQ ([]:List Rat)] [.slice none 0 0] from⟨gM cQ M,trivial⟩)) (show bA M [pS cQ ([]:List Rat)] [.slice none 0 0] from⟨gM cQ M,trivial⟩)) (eQ0 M))
def gY (a0:Int) (a1:Int):Option Int:=
 bif(decide (a0<0)) then((aO (a0+1)).bind fun v2=>(aO (-v2)).bind fun v4=>(wV v4 a1).bind fun v6=>some v6) else((wV a0 a1).bind fun v8=>some v8)
theorem qL {a0:Int} {a1:Int} {r:Int} (hF:gY a0 a1=some r):Ct Tryz.prog 12 [.vc (pI .i64 a0),.vc (pI .i64 a1)] (.vc (pI .i64 r)):=by
 unfold gY at hF
 refine aB Tryz.func12 rfl (by kernel_rfl) Tryz.ntmps12 rfl (fun w0 M0=>?_)
 refine go ?_ ?_
 refine aD hF rfl (fun h1 hF=>?_) (fun h1 hF=>?_)
 ·obtain⟨v2,h3,v4,h5,v6,h7,hF⟩:=bn3 hF
  exact bV
 obtain⟨v8,h9,hF⟩:=aR hF
 exact bV
def bW (a0:List Int) (a1:Int) (a2:Int):Option Int:=
 bif(decide (a1<0)) then(some 0) else(bif(decide ((a0.length:Int)≤a1)) then(some 0) else((bP a0 a1).bind fun v3=>(gY v3 a2).bind fun v5=>some v5))
theorem kQ {a0:List Int} {a1:Int} {a2:Int} {r:Int} (hF:bW a0 a1 a2=some r):Ct Tryz.prog 39 [.vc (pS cI a0),.vc (pI .i64 a1),.vc (pI .i64 a2)] (.vc (pI .i64 r)):=by
 unfold bW at hF
 refine aB Tryz.func39 rfl (by kernel_rfl) Tryz.ntmps39 rfl (fun w0 M0=>?_)
 refine go ?_ ?_
 refine dG hF (fun h1 hF=>?_) (fun h1 hF=>?_)
 ·refine go ?_ ?_
  refine iR rfl ?_
  exact bV
 refine go ?_ ?_
 refine aD hF rfl (fun h2 hF=>?_) (fun h2 hF=>?_)
 ·exact bV
 obtain⟨v3,h4,hF⟩:=aR hF
 obtain⟨v5,h6,hF⟩:=aZ hF qL
 exact bV
def gT (a0:Int):Option Rat:=
 (gY a0 60).bind fun v2=>bif(decide (v2<24)) then(some 0) else((wV v2 9).bind fun v5=>(aO (v5-4)).bind fun v7=>(xP v2 9).bind fun v9=>(wV v9 3).bind fun v11=>(aO (1+v11)).bind fun v13=>(yN v7 v13).bind fun v15=>some v15)
theorem yS {a0:Int} {r:Rat} (hF:gT a0=some r):Ct Tryz.prog 40 [.vc (pI .i64 a0)] (.va (eQ r)):=by
 unfold gT at hF
 refine aB Tryz.func40 rfl (by kernel_rfl) Tryz.ntmps40 rfl (fun w0 M0=>?_)
 refine aC (aJ (aE rfl tyZ42q (fun b1=>?_)))
 obtain⟨v2,h3,hF⟩:=aZ hF qL
 refine go ?_ ?_
 refine aD hF rfl (fun h4 hF=>?_) (fun h4 hF=>?_)
 ·refine aC (aJ (aF (fK (is:=[]) (xs:=[]) (ps:=[]) rfl tyB42q rfl rfl trivial rfl) trivial ?_))
  exact bV
 obtain⟨v5,h6,v7,h8,v9,h10,v11,h12,hF⟩:=bn4 hF
 obtain⟨v13,h14,hF⟩:=aR hF
 obtain⟨v15,h16,hF⟩:=aZ hF dP
 exact bV
def n8 (K:Nat) (x7:Rat):Option Rat:=
 some x7
def iB (K:Nat) (a0:List Rat) (a1:List Rat):Nat→Rat→Int→Option Rat
 |0,_,_=>none
 |k+1,x5,x6=>bif(decide (x6<(a0.length:Int))) then(bif(decide (x6<(a1.length:Int))) then((bP a0 x6).bind fun v14=>(bP a1 x6).bind fun v16=>(aCc v14 v16).bind fun v18=>(aC6 x5 v18).bind fun v20=>(aO (x6+1)).bind fun v22=>iB K a0 a1 k v20 v22) else(some x5)) else(some x5)
def kP (K:Nat) (a0:List Rat) (a1:List Rat):Option Rat:=
 (iB K a0 a1 K 0 0).bind fun x7=>n8 K x7
theorem vU {K:Nat} {a0:List Rat} {a1:List Rat} {r:Rat} (hF:kP K a0 a1=some r):Ct Tryz.prog 42 [.vc (pS cQ a0),.vc (pS cQ a1)] (.va (eQ r)):=by
 unfold kP at hF
 refine aB Tryz.func42 rfl (by kernel_rfl) Tryz.ntmps42 rfl (fun w0 M0=>?_)
 refine aC (aJ (aE rfl tyZ42q (fun b1=>?_)))
 refine go ?_ ?_
 refine aE rfl tyZ42q (fun b2=>?_)
 refine go ?_ ?_
 refine aK (bE (fun H E=>∃(x7:Rat),n8 K x7=some r∧H=[⟨some b2,1,42,4,1,(eQ x7)⟩,⟨some b1,1,42,4,1,(eQ 0)⟩]∧E=[(4,.vc (pP (some b1) 0)),(5,.vc (pP (some b2) 0))]) ?_ (fun Jj9=>?_))
 ·rintro _ _ ⟨x7,hF,rfl,rfl⟩
  unfold n8 at hF
  exact bV
 obtain⟨x7',hL,hRl8⟩:=aR hF
 refine fO (fun k a w=>∃(x5:Rat),∃(x6:Int),iB K a0 a1 k x5 x6=some x7'∧hs _ [⟨some b2,1,42,4,1,(eQ x5)⟩,⟨some b1,1,42,4,1,(eQ 0)⟩] [(0,.vc (pS cQ a0)),(1,.vc (pS cQ a1)),(4,.vc (pP (some b1) 0)),(5,.vc (pP (some b2) 0)),(6,.vc (pI .i64 x6))] a w) K (fun a w ⟨_,_,hF,_⟩=>by cases hF) (fun k a w ⟨x5,x6,hF,hh⟩=>fN ?_ hh) (fun a w hh=>⟨0,0,hL,jY [0,1] hh⟩)
 rw [iB.eq_2] at hF
 refine go ?_ ?_
 refine dG hF (fun h10 hF=>?_) (fun h10 hF=>?_)
 ·refine go ?_ ?_
  refine aD hF rfl (fun h11 hF=>?_) (fun h11 hF=>?_)
  ·refine go ?_ ?_
   refine aK ?_
   obtain⟨v14,h15,hF⟩:=aR hF
   obtain⟨v16,h17,hF⟩:=aR hF
   obtain⟨v18,h19,hF⟩:=aZ hF aAH
   obtain⟨v20,h21,hF⟩:=aZ hF sU
   refine dr [0,0,0,6,14,0,0,96,224,510,1023,2047] 11 1 ?_ (fun bs13 G12=>?_)
   obtain⟨v22,h23,hF⟩:=aR hF
   refine go ?_ ?_
   exact aG (fun a w hh=>⟨v20,v22,hF,jY [0,1] hh⟩)
  refine bO ?_
  obtain rfl:=jN hF
  exact rD Jj9 ⟨x5,hRl8,rfl,rfl⟩ [0,1]
 refine go ?_ ?_
 refine tT rfl ?_
 refine bO ?_
 obtain rfl:=jN hF
 exact rD Jj9 ⟨x5,hRl8,rfl,rfl⟩ [0,1]
def kH (K:Nat) (x37:List Rat) (x119:List (List Rat)):Option ((List (List Rat))×(List Rat)):=
 some (x119,x37)
def kF (K:Nat) (v5:Int) (x112:List (List Rat)) (x118:Int) (recl125:(List (List Rat))→Int→Option (List (List Rat))) (x144:List Rat):Option (List (List Rat)):=
 bif(v5==2) then((bP x144 x118).bind fun v155=>(yN 1 1).bind fun v157=>(aC6 v155 v157).bind fun v159=>(bP x144 x118).bind fun v161=>(oK x144 x118 v159).bind fun x163=>(sK x112 [x163]).bind fun x166=>(aO (x118+1)).bind fun v173=>recl125 x166 v173) else((sK x112 [x144]).bind fun x175=>(aO (x118+1)).bind fun v182=>recl125 x175 v182)
def dX (K:Nat) (v3:Int) (x43:List (List Rat)) (x118:Int):Nat→(List Rat)→Int→Option (List Rat)
 |0,_,_=>none
 |k+1,x137,x143=>bif(decide (x143<v3)) then((bP x43 x118).bind fun v187=>(bP x43 x143).bind fun v189=>(kP K v187 v189).bind fun v191=>(sK x137 [v191]).bind fun x193=>(aO (x143+1)).bind fun v200=>dX K v3 x43 x118 k x193 v200) else(some x137)
def cC (K:Nat) (v3:Int) (v5:Int) (x43:List (List Rat)):Nat→(List (List Rat))→Int→Option (List (List Rat))
 |0,_,_=>none
 |k+1,x112,x118=>bif(decide (x118<v3)) then((dX K v3 x43 x118 K ([]:List Rat) 0).bind fun x144=>kF K v5 x112 x118 (cC K v3 v5 x43 k) x144) else(some x112)
def kB (K:Nat) (x37:List Rat) (x218:List (List Rat)):Option ((List (List Rat))×(List Rat)):=
 some (x218,x37)
def kG (K:Nat) (v5:Int) (x211:List (List Rat)) (x217:Int) (recl224:(List (List Rat))→Int→Option (List (List Rat))) (x243:List Rat):Option (List (List Rat)):=
 bif(v5==2) then((bP x243 x217).bind fun v254=>(yN 1 1).bind fun v256=>(aC6 v254 v256).bind fun v258=>(bP x243 x217).bind fun v260=>(oK x243 x217 v258).bind fun x262=>(sK x211 [x262]).bind fun x265=>(aO (x217+1)).bind fun v272=>recl224 x265 v272) else((sK x211 [x243]).bind fun x274=>(aO (x217+1)).bind fun v281=>recl224 x274 v281)
def dU (K:Nat) (v3:Int) (x43:List (List Rat)) (x217:Int):Nat→(List Rat)→Int→Option (List Rat)
 |0,_,_=>none
 |k+1,x236,x242=>bif(decide (x242<v3)) then((bP x43 x217).bind fun v286=>(bP x43 x242).bind fun v288=>(kP K v286 v288).bind fun v290=>(sK x236 [v290]).bind fun x292=>(aO (x242+1)).bind fun v299=>dU K v3 x43 x217 k x292 v299) else(some x236)
def cA (K:Nat) (v3:Int) (v5:Int) (x43:List (List Rat)):Nat→(List (List Rat))→Int→Option (List (List Rat))
 |0,_,_=>none
 |k+1,x211,x217=>bif(decide (x217<v3)) then((dU K v3 x43 x217 K ([]:List Rat) 0).bind fun x243=>kG K v5 x211 x217 (cA K v3 v5 x43 k) x243) else(some x211)
def cK (K:Nat) (a0:List Int) (v3:Int) (v5:Int) (x37:List Rat) (x43:List (List Rat)):Option ((List (List Rat))×(List Rat)):=
 bif(v5==0) then(some (x43,x37)) else(bif(v3==0) then(some (x43,x37)) else(bif(v5==4) then(bif(decide (4≤v3)) then((yN 1 1).bind fun v56=>(bW a0 2 4).bind fun v59=>(yN v59 2).bind fun v61=>(bW a0 3 5).bind fun v64=>(aO (v64-2)).bind fun v66=>(yN v66 2).bind fun v68=>(yN 2 1).bind fun v71=>(yN (-1) 1).bind fun v74=>(aAo v68).bind fun v79=>(aAo v71).bind fun v81=>(aAo v68).bind fun v83=>(aAo v71).bind fun v85=>(slL x37 0 3).bind fun x89=>(sK ([]:List Rat) x89).bind fun x91=>(sK x91 [0]).bind fun x94=>some ([[v71,v68,v79,0],[v68,v71,v81,v56],[v83,v85,v71,v56],[v61,v74,v74,0]],x94)) else((cC K v3 v5 x43 K ([]:List (List Rat)) 0).bind fun x119=>kH K x37 x119)) else((cA K v3 v5 x43 K ([]:List (List Rat)) 0).bind fun x218=>kB K x37 x218)))
def kD (K:Nat) (a0:List Int) (x24:List Rat) (x30:List (List Rat)) (x36:Int) (recl49:(List Rat)→(List (List Rat))→Int→Option ((List Rat)×(List (List Rat)))) (x318:List Rat):Option ((List Rat)×(List (List Rat))):=
 (sK x30 [x318]).bind fun x326=>(aO (40+x36)).bind fun v333=>(bW a0 v333 13).bind fun v335=>(aO (v335-8)).bind fun v337=>(aO (47+x36)).bind fun v339=>(bW a0 v339 2).bind fun v341=>(aO (1+v341)).bind fun v343=>(yN v337 v343).bind fun v345=>(sK x24 [v345]).bind fun x347=>(aO (x36+1)).bind fun v354=>recl49 x347 x326 v354
def dY (K:Nat) (a0:List Int) (v3:Int) (x36:Int):Nat→(List Rat)→Int→Option (List Rat)
 |0,_,_=>none
 |k+1,x311,x317=>bif(decide (x317<v3)) then((aO (6*x36)).bind fun v357=>(aO (3+v357)).bind fun v359=>(aO (v359+x317)).bind fun v361=>(bW a0 v361 60).bind fun v363=>(gT v363).bind fun v365=>(sK x311 [v365]).bind fun x367=>(aO (x317+1)).bind fun v374=>dY K a0 v3 x36 k x367 v374) else(some x311)
def dA (K:Nat) (a0:List Int) (v3:Int):Nat→(List Rat)→(List (List Rat))→Int→Option ((List Rat)×(List (List Rat)))
 |0,_,_,_=>none
 |k+1,x24,x30,x36=>bif(decide (x36<v3)) then((dY K a0 v3 x36 K ([]:List Rat) 0).bind fun x318=>kD K a0 x24 x30 x36 (dA K a0 v3 k) x318) else(some (x24,x30))
def iU (K:Nat) (a0:List Int) (a1:Int):Option ((List (List Rat))×(List Rat)):=
 (aO (a1+1)).bind fun v1=>(bW a0 0 v1).bind fun v3=>(bW a0 1 5).bind fun v5=>(dA K a0 v3 K ([]:List Rat) ([]:List (List Rat)) 0).bind fun(x37,x43)=>cK K a0 v3 v5 x37 x43
theorem xY {K:Nat} {a0:List Int} {a1:Int} {r:(List (List Rat))×(List Rat)} (hF:iU K a0 a1=some r):Ct Tryz.prog 10 [.vc (pS cI a0),.vc (pI .i64 a1)] (.t2 (.vc (pS (pC cQ) r.1)) (.vc (pS cQ r.2))):=by
 unfold iU at hF
 refine aB Tryz.func10 rfl (by kernel_rfl) Tryz.ntmps10 rfl (fun w0 M0=>?_)
 refine aC (aJ (aF (aP (.inr rfl)) ⟨gM (pC cQ),trivial⟩ ?_))
 refine aF (aP (.inr rfl)) ⟨gM cQ,trivial⟩ ?_
 refine aV (aH (aC (aJ (gF ?_))))
 refine gF ?_
 obtain⟨v1,h2,hF⟩:=aR hF
 refine aF (wG rfl h2) ⟨rfl,oF _ _,trivial⟩ ?_
 obtain⟨v3,h4,hF⟩:=aZ hF kQ
 refine aF (bJ rfl h4 rfl) ⟨rfl,oF _ _,rfl,trivial⟩ ?_
 refine wU ?_
 refine aV (aH (aC (aJ (gF ?_))))
 obtain⟨v5,h6,hF⟩:=aZ hF kQ
 refine aF (bJ rfl h6 rfl) ⟨rfl,oF _ _,oF _ _,trivial⟩ ?_
 refine wU ?_
 refine aV (aH (aC (aJ (sV (pC cQ) 24 rfl ?_))))
 refine aV (aH (aC (aJ (sV cQ 42 rfl ?_))))
 refine go ?_ ?_
 refine aK (bE (fun H E=>∃(x37:List Rat),∃(x43:List (List Rat)),∃(b38:Option Nat),∃(c39:Nat),∃(n40:Nat),∃(b44:Option Nat),∃(c45:Nat),∃(n46:Nat),cK K a0 v3 v5 x37 x43=some r∧x37.length=n40∧x43.length=n46∧H=[hO cQ b38 c39 42 n40 x37,hO (pC cQ) b44 c45 24 n46 x43]∧E=[(0,.vc (pS cI a0)),(6,.vc (pI .i64 v3)),(7,.vc (pI .i64 v5)),(8,.vc (pO b44 n46 c45)),(9,.vc (pO b38 n40 c39))]) ?_ (fun Jj50=>?_))
 ·rintro _ _ ⟨x37,x43,b38,c39,n40,b44,c45,n46,hF,q41,q47,rfl,rfl⟩
  unfold cK at hF
  refine go ?_ ?_
  refine dG hF (fun h51 hF=>?_) (fun h51 hF=>?_)
  ·refine go ?_ ?_
   refine iR rfl ?_
   refine go ?_ ?_
   refine gL (gN (sF 1 [4,8,74] rfl q47 ⟨rfl,rfl,rfl,trivial⟩ rfl ?_))
   refine sF 0 [5,9,75] rfl q41 ⟨rfl,rfl,rfl,trivial⟩ rfl ?_
   obtain rfl:=jN hF
   exact kX (.inl rfl) Tryz.results10 (.tmp rfl (.tmp rfl .nil)) rfl rfl
  refine go ?_ ?_
  refine aD hF rfl (fun h52 hF=>?_) (fun h52 hF=>?_)
  ·refine go ?_ ?_
   refine gL (gN (sF 1 [4,8,74] rfl q47 ⟨rfl,rfl,rfl,trivial⟩ rfl ?_))
   refine sF 0 [5,9,75] rfl q41 ⟨rfl,rfl,rfl,trivial⟩ rfl ?_
   obtain rfl:=jN hF
   exact kX (.inl rfl) Tryz.results10 (.tmp rfl (.tmp rfl .nil)) rfl rfl
  refine go ?_ ?_
  refine dG hF (fun h53 hF=>?_) (fun h53 hF=>?_)
  ·refine go ?_ ?_
   refine aD hF rfl (fun h54 hF=>?_) (fun h54 hF=>?_)
   ·refine aC (aJ (aF (fK (is:=[]) (xs:=[]) (ps:=[]) rfl tyB42q rfl rfl trivial rfl) trivial ?_))
    refine aE rfl tyZ42q (fun b55=>?_)
    obtain⟨v56,h57,hF⟩:=aZ hF dP
    refine go ?_ ?_
    refine aE rfl tyZ42q (fun b58=>?_)
    obtain⟨v59,h60,hF⟩:=aZ hF kQ
    obtain⟨v61,h62,hF⟩:=aZ hF dP
    refine go ?_ ?_
    refine aE rfl tyZ42q (fun b63=>?_)
    obtain⟨v64,h65,hF⟩:=aZ hF kQ
    obtain⟨v66,h67,hF⟩:=aR hF
    obtain⟨v68,h69,hF⟩:=aZ hF dP
    refine go ?_ ?_
    refine aE rfl tyZ42q (fun b70=>?_)
    obtain⟨v71,h72,hF⟩:=aZ hF dP
    refine go ?_ ?_
    refine aE rfl tyZ42q (fun b73=>?_)
    obtain⟨v74,h75,hF⟩:=aZ hF dP
    refine go ?_ ?_
    refine aE rfl tyZ42q (fun b76=>?_)
    refine lW (t_s 0 rfl rfl rfl tyA42.s) zU2 ?_
    refine aV (aH (aC (aNy 6 [9] rfl q41 zU1 rfl ?_)))
    obtain⟨v79,h80,hF⟩:=aZ hF p8
    obtain⟨v81,h82,hF⟩:=aZ hF p8
    obtain⟨v83,h84,hF⟩:=aZ hF p8
    obtain⟨v85,h86,hF⟩:=aZ hF p8
    obtain⟨x89,h90,hF⟩:=aR hF
    obtain⟨x91,h92,hF⟩:=aR hF
    obtain⟨x94,h95,hF⟩:=aR hF
    refine rP (HsM [(0,fun G77=>[⟨some b76,1,42,4,1,(eQ v74)⟩,⟨some b73,1,42,4,1,(eQ v71)⟩,⟨some b70,1,42,4,1,(eQ v68)⟩,⟨some b63,1,42,4,1,(eQ v61)⟩,⟨some b58,1,42,4,1,(eQ v56)⟩,⟨some b55,1,42,4,1,(eQ 0)⟩,hO (pC cQ) b44 c45 24 n46 x43]),(1,fun G77=>[hO cQ ((G77 25).1) 0 42 0 ([]:List Rat),⟨some b76,1,42,4,1,(eQ v74)⟩,⟨some b73,1,42,4,1,(eQ v71)⟩,⟨some b70,1,42,4,1,(eQ v68)⟩,⟨some b63,1,42,4,1,(eQ v61)⟩,⟨some b58,1,42,4,1,(eQ v56)⟩,⟨some b55,1,42,4,1,(eQ 0)⟩,hO (pC cQ) b44 c45 24 n46 x43]),(3,fun G77=>[hO cQ ((G77 28).1) ((G77 28).2) 42 (0+x89.length) x91,⟨some b76,1,42,4,1,(eQ v74)⟩,⟨some b73,1,42,4,1,(eQ v71)⟩,⟨some b70,1,42,4,1,(eQ v68)⟩,⟨some b63,1,42,4,1,(eQ v61)⟩,⟨some b58,1,42,4,1,(eQ v56)⟩,⟨some b55,1,42,4,1,(eQ 0)⟩,hO (pC cQ) b44 c45 24 n46 x43]),(7,fun G77=>[hO cQ ((G77 31).1) ((G77 31).2) 42 ((0+x89.length)+[0].length) x94,⟨some b76,1,42,4,1,(eQ v74)⟩,⟨some b73,1,42,4,1,(eQ v71)⟩,⟨some b70,1,42,4,1,(eQ v68)⟩,⟨some b63,1,42,4,1,(eQ v61)⟩,⟨some b58,1,42,4,1,(eQ v56)⟩,⟨some b55,1,42,4,1,(eQ 0)⟩,hO (pC cQ) b44 c45 24 n46 x43]),(15,fun G77=>[hO cQ ((G77 33).1) ((G77 33).2) 42 ((0+x89.length)+[0].length) x94,⟨some b76,1,42,4,1,(eQ v74)⟩,⟨some b73,1,42,4,1,(eQ v71)⟩,⟨some b70,1,42,4,1,(eQ v68)⟩,⟨some b63,1,42,4,1,(eQ v61)⟩,⟨some b58,1,42,4,1,(eQ v56)⟩,⟨some b55,1,42,4,1,(eQ 0)⟩,hO (pC cQ) b44 c45 24 n46 x43])]) [25,28,31,33] (0::0::0::4::0::31::0::0::0::268::0::1996::0::4876::0::29452::0::0::258828::0::0::0::0::7864320::16777215::0::0::67108864::234943244::0::536870912::2113991436::4294967295::8589934591::[]) 34 0 (.v (.va (eQ v71))::.v (.va (eQ v68))::.v (.va (eQ v68))::.v (.va (eQ v79))::.v (.va (eQ 0))::.v (.vc (pS cQ [v71,v68,v79,0]))::.v (.va (eQ v68))::.v (.va (eQ v71))::.v (.va (eQ v71))::.v (.va (eQ v81))::.v (.va (eQ v56))::.v (.vc (pS cQ [v68,v71,v81,v56]))::.v (.va (eQ v68))::.v (.va (eQ v83))::.v (.va (eQ v71))::.v (.va (eQ v85))::.v (.va (eQ v71))::.v (.va (eQ v56))::.v (.vc (pS cQ [v83,v85,v71,v56]))::.v (.va (eQ v61))::.v (.va (eQ v74))::.v (.va (eQ v74))::.v (.va (eQ 0))::.v (.vc (pS cQ [v61,v74,v74,0]))::.v (.vc (pS (pC cQ) [[v71,v68,v79,0],[v68,v71,v81,v56],[v83,v85,v71,v56],[v61,v74,v74,0]]))::.g (fun b _=>.vc (pO b 0 0))::.v (.vc (pS cQ x37))::.v (.vc (pS cQ x89))::.g (fun b c=>.vc (pO b (0+x89.length) c))::.v (.va (eQ 0))::.v (.vc (pS cQ [0]))::.g (fun b c=>.vc (pO b ((0+x89.length)+[0].length) c))::.v (.vc (pS (pC cQ) [[v71,v68,v79,0],[v68,v71,v81,v56],[v83,v85,v71,v56],[v61,v74,v74,0]]))::.g (fun b c=>.vc (pO b ((0+x89.length)+[0].length) c))::[]) bB ⟨⟨rfl,.run (L:=[0,1,3,7]) ⟨fun G77 A=>fQ 1 4 rfl rfl rfl rfl (.agg tyA42),fun G77 A=>fQ 2 4 rfl rfl rfl rfl (.agg tyA42),fun G77 A=>fQ 2 4 rfl rfl rfl rfl (.agg tyA42),fun G77 A=>fQ 2 4 rfl rfl rfl rfl (.agg tyA42),trivial⟩ (fun G77=>zU1)⟩,⟨rfl,.run (L:=[0,1,3,7]) ⟨fun G77 A=>fQ 2 4 rfl rfl rfl rfl (.agg tyA42),fun G77 A=>fQ 3 4 rfl rfl rfl rfl (.agg tyA42),fun G77 A=>fQ 3 4 rfl rfl rfl rfl (.agg tyA42),fun G77 A=>fQ 3 4 rfl rfl rfl rfl (.agg tyA42),trivial⟩ (fun G77=>zU1)⟩,⟨rfl,.run (L:=[0,1]) ⟨fun G77 A=>fQ 2 4 rfl rfl rfl rfl (.agg tyA42),fun G77 A=>fQ 3 4 rfl rfl rfl rfl (.agg tyA42),trivial⟩ (fun G77=>zU1)⟩,⟨rfl,.run (L:=[0,1]) ⟨fun G77 A=>bJ rfl h80 rfl,fun G77 A=>bJ rfl h80 rfl,trivial⟩ (fun G77=>zU1)⟩,⟨rfl,.run (L:=[0,1,3,7]) ⟨fun G77 A=>fQ 5 4 rfl rfl rfl rfl (.agg tyA42),fun G77 A=>fQ 6 4 rfl rfl rfl rfl (.agg tyA42),fun G77 A=>fQ 6 4 rfl rfl rfl rfl (.agg tyA42),fun G77 A=>fQ 6 4 rfl rfl rfl rfl (.agg tyA42),trivial⟩ (fun G77=>zU1)⟩,⟨rfl,.run (L:=[0,1,3,7]) ⟨fun G77 A=>gO (C:=cQ) (xs:=[.tmp 93,.tmp 94,.tmp 96,.tmp 97]) (ps:=[.va (eQ v71),.va (eQ v68),.va (eQ v79),.va (eQ 0)]) (zs:=[v71,v68,v79,0]) rfl tyS24 rfl ⟨⟨trivial,rfl⟩,⟨trivial,rfl⟩,⟨trivial,rfl⟩,⟨trivial,rfl⟩,trivial⟩ rfl,fun G77 A=>gO (C:=cQ) (xs:=[.tmp 93,.tmp 94,.tmp 96,.tmp 97]) (ps:=[.va (eQ v71),.va (eQ v68),.va (eQ v79),.va (eQ 0)]) (zs:=[v71,v68,v79,0]) rfl tyS24 rfl ⟨⟨trivial,rfl⟩,⟨trivial,rfl⟩,⟨trivial,rfl⟩,⟨trivial,rfl⟩,trivial⟩ rfl,fun G77 A=>gO (C:=cQ) (xs:=[.tmp 93,.tmp 94,.tmp 96,.tmp 97]) (ps:=[.va (eQ v71),.va (eQ v68),.va (eQ v79),.va (eQ 0)]) (zs:=[v71,v68,v79,0]) rfl tyS24 rfl ⟨⟨trivial,rfl⟩,⟨trivial,rfl⟩,⟨trivial,rfl⟩,⟨trivial,rfl⟩,trivial⟩ rfl,fun G77 A=>gO (C:=cQ) (xs:=[.tmp 93,.tmp 94,.tmp 96,.tmp 97]) (ps:=[.va (eQ v71),.va (eQ v68),.va (eQ v79),.va (eQ 0)]) (zs:=[v71,v68,v79,0]) rfl tyS24 rfl ⟨⟨trivial,rfl⟩,⟨trivial,rfl⟩,⟨trivial,rfl⟩,⟨trivial,rfl⟩,trivial⟩ rfl,trivial⟩ (fun G77=>⟨rfl,rfl,rfl,rfl,trivial⟩)⟩,⟨rfl,.run (L:=[0,1,3,7]) ⟨fun G77 A=>fQ 2 4 rfl rfl rfl rfl (.agg tyA42),fun G77 A=>fQ 3 4 rfl rfl rfl rfl (.agg tyA42),fun G77 A=>fQ 3 4 rfl rfl rfl rfl (.agg tyA42),fun G77 A=>fQ 3 4 rfl rfl rfl rfl (.agg tyA42),trivial⟩ (fun G77=>zU1)⟩,⟨rfl,.run (L:=[0,1,3,7]) ⟨fun G77 A=>fQ 1 4 rfl rfl rfl rfl (.agg tyA42),fun G77 A=>fQ 2 4 rfl rfl rfl rfl (.agg tyA42),fun G77 A=>fQ 2 4 rfl rfl rfl rfl (.agg tyA42),fun G77 A=>fQ 2 4 rfl rfl rfl rfl (.agg tyA42),trivial⟩ (fun G77=>zU1)⟩,⟨rfl,.run (L:=[0,1]) ⟨fun G77 A=>fQ 1 4 rfl rfl rfl rfl (.agg tyA42),fun G77 A=>fQ 2 4 rfl rfl rfl rfl (.agg tyA42),trivial⟩ (fun G77=>zU1)⟩,⟨rfl,.run (L:=[0,1]) ⟨fun G77 A=>bJ rfl h82 rfl,fun G77 A=>bJ rfl h82 rfl,trivial⟩ (fun G77=>zU1)⟩,⟨rfl,.run (L:=[0,1,3,7]) ⟨fun G77 A=>fQ 4 4 rfl rfl rfl rfl (.agg tyA42),fun G77 A=>fQ 5 4 rfl rfl rfl rfl (.agg tyA42),fun G77 A=>fQ 5 4 rfl rfl rfl rfl (.agg tyA42),fun G77 A=>fQ 5 4 rfl rfl rfl rfl (.agg tyA42),trivial⟩ (fun G77=>zU1)⟩,⟨rfl,.run (L:=[0,1,3,7]) ⟨fun G77 A=>gO (C:=cQ) (xs:=[.tmp 99,.tmp 100,.tmp 102,.tmp 103]) (ps:=[.va (eQ v68),.va (eQ v71),.va (eQ v81),.va (eQ v56)]) (zs:=[v68,v71,v81,v56]) rfl tyS24 rfl ⟨⟨trivial,rfl⟩,⟨trivial,rfl⟩,⟨trivial,rfl⟩,⟨trivial,rfl⟩,trivial⟩ rfl,fun G77 A=>gO (C:=cQ) (xs:=[.tmp 99,.tmp 100,.tmp 102,.tmp 103]) (ps:=[.va (eQ v68),.va (eQ v71),.va (eQ v81),.va (eQ v56)]) (zs:=[v68,v71,v81,v56]) rfl tyS24 rfl ⟨⟨trivial,rfl⟩,⟨trivial,rfl⟩,⟨trivial,rfl⟩,⟨trivial,rfl⟩,trivial⟩ rfl,fun G77 A=>gO (C:=cQ) (xs:=[.tmp 99,.tmp 100,.tmp 102,.tmp 103]) (ps:=[.va (eQ v68),.va (eQ v71),.va (eQ v81),.va (eQ v56)]) (zs:=[v68,v71,v81,v56]) rfl tyS24 rfl ⟨⟨trivial,rfl⟩,⟨trivial,rfl⟩,⟨trivial,rfl⟩,⟨trivial,rfl⟩,trivial⟩ rfl,fun G77 A=>gO (C:=cQ) (xs:=[.tmp 99,.tmp 100,.tmp 102,.tmp 103]) (ps:=[.va (eQ v68),.va (eQ v71),.va (eQ v81),.va (eQ v56)]) (zs:=[v68,v71,v81,v56]) rfl tyS24 rfl ⟨⟨trivial,rfl⟩,⟨trivial,rfl⟩,⟨trivial,rfl⟩,⟨trivial,rfl⟩,trivial⟩ rfl,trivial⟩ (fun G77=>⟨rfl,rfl,rfl,rfl,trivial⟩)⟩,⟨rfl,.run (L:=[0,1]) ⟨fun G77 A=>fQ 2 4 rfl rfl rfl rfl (.agg tyA42),fun G77 A=>fQ 3 4 rfl rfl rfl rfl (.agg tyA42),trivial⟩ (fun G77=>zU1)⟩,⟨rfl,.run (L:=[0,1]) ⟨fun G77 A=>bJ rfl h84 rfl,fun G77 A=>bJ rfl h84 rfl,trivial⟩ (fun G77=>zU1)⟩,⟨rfl,.run (L:=[0,1]) ⟨fun G77 A=>fQ 1 4 rfl rfl rfl rfl (.agg tyA42),fun G77 A=>fQ 2 4 rfl rfl rfl rfl (.agg tyA42),trivial⟩ (fun G77=>zU1)⟩,⟨rfl,.run (L:=[0,1]) ⟨fun G77 A=>bJ rfl h86 rfl,fun G77 A=>bJ rfl h86 rfl,trivial⟩ (fun G77=>zU1)⟩,⟨rfl,.run (L:=[0,1,3,7]) ⟨fun G77 A=>fQ 1 4 rfl rfl rfl rfl (.agg tyA42),fun G77 A=>fQ 2 4 rfl rfl rfl rfl (.agg tyA42),fun G77 A=>fQ 2 4 rfl rfl rfl rfl (.agg tyA42),fun G77 A=>fQ 2 4 rfl rfl rfl rfl (.agg tyA42),trivial⟩ (fun G77=>zU1)⟩,⟨rfl,.run (L:=[0,1,3,7]) ⟨fun G77 A=>fQ 4 4 rfl rfl rfl rfl (.agg tyA42),fun G77 A=>fQ 5 4 rfl rfl rfl rfl (.agg tyA42),fun G77 A=>fQ 5 4 rfl rfl rfl rfl (.agg tyA42),fun G77 A=>fQ 5 4 rfl rfl rfl rfl (.agg tyA42),trivial⟩ (fun G77=>zU1)⟩,⟨rfl,.run (L:=[0,1,3,7]) ⟨fun G77 A=>gO (C:=cQ) (xs:=[.tmp 106,.tmp 108,.tmp 109,.tmp 110]) (ps:=[.va (eQ v83),.va (eQ v85),.va (eQ v71),.va (eQ v56)]) (zs:=[v83,v85,v71,v56]) rfl tyS24 rfl ⟨⟨trivial,rfl⟩,⟨trivial,rfl⟩,⟨trivial,rfl⟩,⟨trivial,rfl⟩,trivial⟩ rfl,fun G77 A=>gO (C:=cQ) (xs:=[.tmp 106,.tmp 108,.tmp 109,.tmp 110]) (ps:=[.va (eQ v83),.va (eQ v85),.va (eQ v71),.va (eQ v56)]) (zs:=[v83,v85,v71,v56]) rfl tyS24 rfl ⟨⟨trivial,rfl⟩,⟨trivial,rfl⟩,⟨trivial,rfl⟩,⟨trivial,rfl⟩,trivial⟩ rfl,fun G77 A=>gO (C:=cQ) (xs:=[.tmp 106,.tmp 108,.tmp 109,.tmp 110]) (ps:=[.va (eQ v83),.va (eQ v85),.va (eQ v71),.va (eQ v56)]) (zs:=[v83,v85,v71,v56]) rfl tyS24 rfl ⟨⟨trivial,rfl⟩,⟨trivial,rfl⟩,⟨trivial,rfl⟩,⟨trivial,rfl⟩,trivial⟩ rfl,fun G77 A=>gO (C:=cQ) (xs:=[.tmp 106,.tmp 108,.tmp 109,.tmp 110]) (ps:=[.va (eQ v83),.va (eQ v85),.va (eQ v71),.va (eQ v56)]) (zs:=[v83,v85,v71,v56]) rfl tyS24 rfl ⟨⟨trivial,rfl⟩,⟨trivial,rfl⟩,⟨trivial,rfl⟩,⟨trivial,rfl⟩,trivial⟩ rfl,trivial⟩ (fun G77=>⟨rfl,rfl,rfl,rfl,trivial⟩)⟩,⟨rfl,.run (L:=[0,1,3,7]) ⟨fun G77 A=>fQ 3 4 rfl rfl rfl rfl (.agg tyA42),fun G77 A=>fQ 4 4 rfl rfl rfl rfl (.agg tyA42),fun G77 A=>fQ 4 4 rfl rfl rfl rfl (.agg tyA42),fun G77 A=>fQ 4 4 rfl rfl rfl rfl (.agg tyA42),trivial⟩ (fun G77=>zU1)⟩,⟨rfl,.run (L:=[0,1,3,7]) ⟨fun G77 A=>fQ 0 4 rfl rfl rfl rfl (.agg tyA42),fun G77 A=>fQ 1 4 rfl rfl rfl rfl (.agg tyA42),fun G77 A=>fQ 1 4 rfl rfl rfl rfl (.agg tyA42),fun G77 A=>fQ 1 4 rfl rfl rfl rfl (.agg tyA42),trivial⟩ (fun G77=>zU1)⟩,⟨rfl,.run (L:=[0,1,3,7]) ⟨fun G77 A=>fQ 0 4 rfl rfl rfl rfl (.agg tyA42),fun G77 A=>fQ 1 4 rfl rfl rfl rfl (.agg tyA42),fun G77 A=>fQ 1 4 rfl rfl rfl rfl (.agg tyA42),fun G77 A=>fQ 1 4 rfl rfl rfl rfl (.agg tyA42),trivial⟩ (fun G77=>zU1)⟩,⟨rfl,.run (L:=[0,1,3,7]) ⟨fun G77 A=>fQ 5 4 rfl rfl rfl rfl (.agg tyA42),fun G77 A=>fQ 6 4 rfl rfl rfl rfl (.agg tyA42),fun G77 A=>fQ 6 4 rfl rfl rfl rfl (.agg tyA42),fun G77 A=>fQ 6 4 rfl rfl rfl rfl (.agg tyA42),trivial⟩ (fun G77=>zU1)⟩,⟨rfl,.run (L:=[0,1,3,7]) ⟨fun G77 A=>gO (C:=cQ) (xs:=[.tmp 112,.tmp 113,.tmp 114,.tmp 115]) (ps:=[.va (eQ v61),.va (eQ v74),.va (eQ v74),.va (eQ 0)]) (zs:=[v61,v74,v74,0]) rfl tyS24 rfl ⟨⟨trivial,rfl⟩,⟨trivial,rfl⟩,⟨trivial,rfl⟩,⟨trivial,rfl⟩,trivial⟩ rfl,fun G77 A=>gO (C:=cQ) (xs:=[.tmp 112,.tmp 113,.tmp 114,.tmp 115]) (ps:=[.va (eQ v61),.va (eQ v74),.va (eQ v74),.va (eQ 0)]) (zs:=[v61,v74,v74,0]) rfl tyS24 rfl ⟨⟨trivial,rfl⟩,⟨trivial,rfl⟩,⟨trivial,rfl⟩,⟨trivial,rfl⟩,trivial⟩ rfl,fun G77 A=>gO (C:=cQ) (xs:=[.tmp 112,.tmp 113,.tmp 114,.tmp 115]) (ps:=[.va (eQ v61),.va (eQ v74),.va (eQ v74),.va (eQ 0)]) (zs:=[v61,v74,v74,0]) rfl tyS24 rfl ⟨⟨trivial,rfl⟩,⟨trivial,rfl⟩,⟨trivial,rfl⟩,⟨trivial,rfl⟩,trivial⟩ rfl,fun G77 A=>gO (C:=cQ) (xs:=[.tmp 112,.tmp 113,.tmp 114,.tmp 115]) (ps:=[.va (eQ v61),.va (eQ v74),.va (eQ v74),.va (eQ 0)]) (zs:=[v61,v74,v74,0]) rfl tyS24 rfl ⟨⟨trivial,rfl⟩,⟨trivial,rfl⟩,⟨trivial,rfl⟩,⟨trivial,rfl⟩,trivial⟩ rfl,trivial⟩ (fun G77=>⟨rfl,rfl,rfl,rfl,trivial⟩)⟩,⟨rfl,.run (L:=[0,1,3,7]) ⟨fun G77 A=>gO (C:=(pC cQ)) (xs:=[.tmp 98,.tmp 104,.tmp 111,.tmp 116]) (ps:=[.vc (pS cQ [v71,v68,v79,0]),.vc (pS cQ [v68,v71,v81,v56]),.vc (pS cQ [v83,v85,v71,v56]),.vc (pS cQ [v61,v74,v74,0])]) (zs:=[[v71,v68,v79,0],[v68,v71,v81,v56],[v83,v85,v71,v56],[v61,v74,v74,0]]) rfl tyS23 rfl ⟨⟨trivial,rfl⟩,⟨trivial,rfl⟩,⟨trivial,rfl⟩,⟨trivial,rfl⟩,trivial⟩ rfl,fun G77 A=>gO (C:=(pC cQ)) (xs:=[.tmp 98,.tmp 104,.tmp 111,.tmp 116]) (ps:=[.vc (pS cQ [v71,v68,v79,0]),.vc (pS cQ [v68,v71,v81,v56]),.vc (pS cQ [v83,v85,v71,v56]),.vc (pS cQ [v61,v74,v74,0])]) (zs:=[[v71,v68,v79,0],[v68,v71,v81,v56],[v83,v85,v71,v56],[v61,v74,v74,0]]) rfl tyS23 rfl ⟨⟨trivial,rfl⟩,⟨trivial,rfl⟩,⟨trivial,rfl⟩,⟨trivial,rfl⟩,trivial⟩ rfl,fun G77 A=>gO (C:=(pC cQ)) (xs:=[.tmp 98,.tmp 104,.tmp 111,.tmp 116]) (ps:=[.vc (pS cQ [v71,v68,v79,0]),.vc (pS cQ [v68,v71,v81,v56]),.vc (pS cQ [v83,v85,v71,v56]),.vc (pS cQ [v61,v74,v74,0])]) (zs:=[[v71,v68,v79,0],[v68,v71,v81,v56],[v83,v85,v71,v56],[v61,v74,v74,0]]) rfl tyS23 rfl ⟨⟨trivial,rfl⟩,⟨trivial,rfl⟩,⟨trivial,rfl⟩,⟨trivial,rfl⟩,trivial⟩ rfl,fun G77 A=>gO (C:=(pC cQ)) (xs:=[.tmp 98,.tmp 104,.tmp 111,.tmp 116]) (ps:=[.vc (pS cQ [v71,v68,v79,0]),.vc (pS cQ [v68,v71,v81,v56]),.vc (pS cQ [v83,v85,v71,v56]),.vc (pS cQ [v61,v74,v74,0])]) (zs:=[[v71,v68,v79,0],[v68,v71,v81,v56],[v83,v85,v71,v56],[v61,v74,v74,0]]) rfl tyS23 rfl ⟨⟨trivial,rfl⟩,⟨trivial,rfl⟩,⟨trivial,rfl⟩,⟨trivial,rfl⟩,trivial⟩ rfl,trivial⟩ (fun G77=>⟨rfl,rfl,rfl,rfl,trivial⟩)⟩,⟨rfl,.hvy (ins:=fun _=>[]) [0] ⟨fun G77 A=>aHs (C:=cQ) (xs:=[]) (ps:=[]) (zs:=([]:List Rat)) rfl tyS24 rfl trivial rfl,trivial⟩ (fun G77=>trivial)⟩,⟨rfl,.run (L:=[0,1]) ⟨fun G77 A=>aP (.inl rfl),fun G77 A=>aP (.inl rfl),trivial⟩ (fun G77=>zU1)⟩,⟨rfl,.run (L:=[0,1]) ⟨fun G77 A=>aBD rfl tyS24 h90,fun G77 A=>aBD rfl tyS24 h90,trivial⟩ (fun G77=>⟨rfl,oF _ _,trivial⟩)⟩,⟨rfl,.hvy (ins:=fun G77=>[(.tmp 118,.vc (pO ((G77 25).1) 0 0)),(.tmp 120,.vc (pS cQ x89))]) [1] ⟨fun G77 A=>aCC 0 rfl tyS24 rfl rfl rfl h92,trivial⟩ (fun G77=>zU2)⟩,⟨rfl,.run (L:=[0,1,3]) ⟨fun G77 A=>fQ 5 4 rfl rfl rfl rfl (.agg tyA42),fun G77 A=>fQ 6 4 rfl rfl rfl rfl (.agg tyA42),fun G77 A=>fQ 6 4 rfl rfl rfl rfl (.agg tyA42),trivial⟩ (fun G77=>zU1)⟩,⟨rfl,.run (L:=[0,1,3]) ⟨fun G77 A=>gO (C:=cQ) (xs:=[.tmp 122]) (ps:=[.va (eQ 0)]) (zs:=[0]) rfl tyS24 rfl ⟨⟨trivial,rfl⟩,trivial⟩ rfl,fun G77 A=>gO (C:=cQ) (xs:=[.tmp 122]) (ps:=[.va (eQ 0)]) (zs:=[0]) rfl tyS24 rfl ⟨⟨trivial,rfl⟩,trivial⟩ rfl,fun G77 A=>gO (C:=cQ) (xs:=[.tmp 122]) (ps:=[.va (eQ 0)]) (zs:=[0]) rfl tyS24 rfl ⟨⟨trivial,rfl⟩,trivial⟩ rfl,trivial⟩ (fun G77=>zU1)⟩,⟨rfl,.hvy (ins:=fun G77=>[(.tmp 121,.vc (pO ((G77 28).1) (0+x89.length) ((G77 28).2))),(.tmp 123,.vc (pS cQ [0]))]) [3] ⟨fun G77 A=>aCC (n:=(0+x89.length)) 0 rfl tyS24 rfl rfl (fI h92 rfl) h95,trivial⟩ (fun G77=>zU2)⟩,d1 7 (aP (.inr rfl)) zU1,⟨rfl,.hvy [7] ⟨fun G77 A=>aGz ((G77 31).1) ((G77 31).2) (aP (.inr rfl)),trivial⟩ (fun G77=>zU1)⟩,trivial⟩ (fun bs78 G77=>?_)
    refine aV (aH (gL (gN (sF 0 [5] rfl (fI h95 (fI h92 rfl)) zU1 rfl ?_))))
    obtain rfl:=jN hF
    exact kX (.inl rfl) Tryz.results10 (.tmp rfl (.tmp rfl .nil)) rfl rfl
   refine f7 (aH (aC (aJ (sV (pC cQ) 24 rfl ?_))))
   refine go ?_ ?_
   refine aK (bE (fun H E=>∃(x119:List (List Rat)),∃(b120:Option Nat),∃(c121:Nat),∃(n122:Nat),kH K x37 x119=some r∧x119.length=n122∧H=[hO (pC cQ) b120 c121 24 n122 x119,hO cQ b38 c39 42 n40 x37]∧E=[(9,.vc (pO b38 n40 c39)),(19,.vc (pO b120 n122 c121))]) ?_ (fun Jj126=>?_))
   ·rintro _ _ ⟨x119,b120,c121,n122,hF,q123,rfl,rfl⟩
    unfold kH at hF
    refine go ?_ ?_
    refine gL (gN (sF 0 [4,19,162] rfl q123 ⟨rfl,rfl,rfl,trivial⟩ rfl ?_))
    refine sF 0 [5,9,163] rfl q41 ⟨rfl,rfl,rfl,trivial⟩ rfl ?_
    obtain rfl:=jN hF
    exact kX (.inl rfl) Tryz.results10 (.tmp rfl (.tmp rfl .nil)) rfl rfl
   obtain⟨x119',hL,hRl125⟩:=aR hF
   refine fO (fun k a w=>∃(x112:List (List Rat)),∃(x118:Int),∃(b113:Option Nat),∃(c114:Nat),∃(n115:Nat),cC K v3 v5 x43 k x112 x118=some x119'∧x112.length=n115∧hs _ [hO (pC cQ) b113 c114 24 n115 x112,hO cQ b38 c39 42 n40 x37,hO (pC cQ) b44 c45 24 n46 x43] [(6,.vc (pI .i64 v3)),(7,.vc (pI .i64 v5)),(8,.vc (pO b44 n46 c45)),(9,.vc (pO b38 n40 c39)),(19,.vc (pO b113 n115 c114)),(20,.vc (pI .i64 x118))] a w) K (fun a w ⟨_,_,_,_,_,hF,_,_⟩=>by cases hF) (fun k a w ⟨x112,x118,b113,c114,n115,hF,q116,hh⟩=>fN ?_ hh) (fun a w hh=>⟨([]:List (List Rat)),0,none,0,0,hL,rfl,jY [0,1,2] hh⟩)
   rw [cC.eq_2] at hF
   refine go ?_ ?_
   refine aD hF rfl (fun h127 hF=>?_) (fun h127 hF=>?_)
   ·refine go ?_ ?_
    refine aK (aC (aJ (sV cQ 42 rfl ?_)))
    refine go ?_ ?_
    refine aK (bE (fun H E=>∃(x144:List Rat),∃(b145:Option Nat),∃(c146:Nat),∃(n147:Nat),kF K v5 x112 x118 (cC K v3 v5 x43 k) x144=some x119'∧x144.length=n147∧H=[hO cQ b145 c146 42 n147 x144,hO (pC cQ) b113 c114 24 n115 x112,hO cQ b38 c39 42 n40 x37,hO (pC cQ) b44 c45 24 n46 x43]∧E=[(6,.vc (pI .i64 v3)),(7,.vc (pI .i64 v5)),(8,.vc (pO b44 n46 c45)),(9,.vc (pO b38 n40 c39)),(19,.vc (pO b113 n115 c114)),(20,.vc (pI .i64 x118)),(21,.vc (pO b145 n147 c146))]) ?_ (fun Jj151=>?_))
    ·rintro _ _ ⟨x144,b145,c146,n147,hF,q148,rfl,rfl⟩
     unfold kF at hF
     refine go ?_ ?_
     refine aD hF rfl (fun h152 hF=>?_) (fun h152 hF=>?_)
     ·obtain⟨v155,h156,hF⟩:=aR hF
      obtain⟨v157,h158,hF⟩:=aZ hF dP
      obtain⟨v159,h160,hF⟩:=aZ hF sU
      have hF:=sR h156 hF
      refine dr [0,0,0,0,12,28,0,124,255,511] 9 1 ?_ (fun bs154 G153=>?_)
      obtain⟨x163,h164,hF⟩:=aR hF
      refine lW (xE 0 rfl rfl h156 h164 tyA42.s) zU2 ?_
      refine aV (aH (aJ (gF ?_)))
      refine gF ?_
      refine xC 0 [21,149,151,159] rfl (bH h164 q148) ⟨rfl,rfl,rfl,rfl,trivial⟩ rfl ?_
      refine aF (gO (C:=(pC cQ)) (xs:=[.tmp 159]) (ps:=[.vc (pS cQ x163)]) (zs:=[x163]) rfl tyS23 rfl ⟨⟨trivial,rfl⟩,trivial⟩ rfl) zU1 ?_
      obtain⟨x166,h167,hF⟩:=aR hF
      refine o9 0 rfl tyS23 rfl rfl q116 rfl rfl h167 (fun b168 c169 H170 e171=>?_)
      cases e171
      obtain⟨v173,h174,hF⟩:=aR hF
      refine go ?_ ?_
      exact aG (fun a w hh=>⟨x166,v173,b168,c169,(n115+[x163].length),hF,(fI h167 q116),jY [0,1,2] hh⟩)
     refine f7 (aH (aJ (gF ?_)))
     refine gF ?_
     refine xC 0 [21,159] rfl q148 zU2 rfl ?_
     refine aF (gO (C:=(pC cQ)) (xs:=[.tmp 159]) (ps:=[.vc (pS cQ x144)]) (zs:=[x144]) rfl tyS23 rfl ⟨⟨trivial,rfl⟩,trivial⟩ rfl) zU1 ?_
     obtain⟨x175,h176,hF⟩:=aR hF
     refine o9 0 rfl tyS23 rfl rfl q116 rfl rfl h176 (fun b177 c178 H179 e180=>?_)
     cases e180
     obtain⟨v182,h183,hF⟩:=aR hF
     refine go ?_ ?_
     exact aG (fun a w hh=>⟨x175,v182,b177,c178,(n115+[x144].length),hF,(fI h176 q116),jY [0,1,2] hh⟩)
    obtain⟨x144',hL,hRl150⟩:=aR hF
    refine fO (fun k a w=>∃(x137:List Rat),∃(x143:Int),∃(b138:Option Nat),∃(c139:Nat),∃(n140:Nat),dX K v3 x43 x118 k x137 x143=some x144'∧x137.length=n140∧hs _ [hO cQ b138 c139 42 n140 x137,hO (pC cQ) b113 c114 24 n115 x112,hO cQ b38 c39 42 n40 x37,hO (pC cQ) b44 c45 24 n46 x43] [(6,.vc (pI .i64 v3)),(7,.vc (pI .i64 v5)),(8,.vc (pO b44 n46 c45)),(9,.vc (pO b38 n40 c39)),(19,.vc (pO b113 n115 c114)),(20,.vc (pI .i64 x118)),(21,.vc (pO b138 n140 c139)),(22,.vc (pI .i64 x143))] a w) K (fun a w ⟨_,_,_,_,_,hF,_,_⟩=>by cases hF) (fun k a w ⟨x137,x143,b138,c139,n140,hF,q141,hh⟩=>fN ?_ hh) (fun a w hh=>⟨([]:List Rat),0,none,0,0,hL,rfl,jY [0,1,2,3] hh⟩)
    rw [dX.eq_2] at hF
    refine go ?_ ?_
    refine aD hF rfl (fun h184 hF=>?_) (fun h184 hF=>?_)
    ·refine go ?_ ?_
     refine aK ?_
     obtain⟨v187,h188,hF⟩:=aR hF
     obtain⟨v189,h190,hF⟩:=aR hF
     obtain⟨v191,h192,hF⟩:=aZ hF vU
     refine jI [0,0,0,6,14,0,0,96,224,510,1022,2047,4095] 11 2 [.v (.vc (pO b138 n140 c139)),.v (.vc (pO b44 n46 c45)),.v (.vc (pI .i64 x118)),.v (.vc (pE b44 x118 (pC cQ).n 0)),.v (.vc (pS cQ v187)),.v (.vc (pO b44 n46 c45)),.v (.vc (pI .i64 x143)),.v (.vc (pE b44 x143 (pC cQ).n 0)),.v (.vc (pS cQ v189)),.v (.va (eQ v191)),.v (.vc (pS cQ [v191]))] bB ⟨d0 (aP (.inl rfl)) zU1,d0 (aP (.inl rfl)) zU1,d0 (aP (.inl rfl)) zU1,d0 (iC (C:=(pC cQ)) 3 rfl tyS23 rfl q47 (aI h188).1 (aI h188).2.1) zU2,d0 (lA (k:=1) 3 rfl rfl h188 rfl (.one tyO24) rfl) zU1,d0 (aP (.inl rfl)) zU1,d0 (aP (.inl rfl)) zU1,d0 (iC (C:=(pC cQ)) 3 rfl tyS23 rfl q47 (aI h190).1 (aI h190).2.1) zU2,d0 (lA (k:=1) 3 rfl rfl h190 rfl (.one tyO24) rfl) zU1,d0 (bJ rfl h192 rfl) zU2,d0 (gO (C:=cQ) (xs:=[.tmp 144]) (ps:=[.va (eQ v191)]) (zs:=[v191]) rfl tyS24 rfl ⟨⟨trivial,rfl⟩,trivial⟩ rfl) zU1,trivial⟩ (fun bs186 G185=>?_)
     obtain⟨x193,h194,hF⟩:=aR hF
     refine o9 0 rfl tyS24 rfl rfl q141 rfl rfl h194 (fun b195 c196 H197 e198=>?_)
     cases e198
     obtain⟨v200,h201,hF⟩:=aR hF
     refine go ?_ ?_
     exact aG (fun a w hh=>⟨x193,v200,b195,c196,(n140+[v191].length),hF,(fI h194 q141),jY [0,1,2,3] hh⟩)
    refine bO ?_
    obtain rfl:=jN hF
    exact rD Jj151 ⟨x137,b138,c139,n140,hRl150,q141,rfl,rfl⟩ [0,1,2,3]
   refine bO ?_
   obtain rfl:=jN hF
   exact rD Jj126 ⟨x112,b113,c114,n115,hRl125,q116,rfl,rfl⟩ [0,1]
  refine go ?_ ?_
  refine tT rfl ?_
  refine f7 (aH (aC (aJ (sV (pC cQ) 24 rfl ?_))))
  refine go ?_ ?_
  refine aK (bE (fun H E=>∃(x218:List (List Rat)),∃(b219:Option Nat),∃(c220:Nat),∃(n221:Nat),kB K x37 x218=some r∧x218.length=n221∧H=[hO (pC cQ) b219 c220 24 n221 x218,hO cQ b38 c39 42 n40 x37]∧E=[(9,.vc (pO b38 n40 c39)),(19,.vc (pO b219 n221 c220))]) ?_ (fun Jj225=>?_))
  ·rintro _ _ ⟨x218,b219,c220,n221,hF,q222,rfl,rfl⟩
   unfold kB at hF
   refine go ?_ ?_
   refine gL (gN (sF 0 [4,19,162] rfl q222 ⟨rfl,rfl,rfl,trivial⟩ rfl ?_))
   refine sF 0 [5,9,163] rfl q41 ⟨rfl,rfl,rfl,trivial⟩ rfl ?_
   obtain rfl:=jN hF
   exact kX (.inl rfl) Tryz.results10 (.tmp rfl (.tmp rfl .nil)) rfl rfl
  obtain⟨x218',hL,hRl224⟩:=aR hF
  refine fO (fun k a w=>∃(x211:List (List Rat)),∃(x217:Int),∃(b212:Option Nat),∃(c213:Nat),∃(n214:Nat),cA K v3 v5 x43 k x211 x217=some x218'∧x211.length=n214∧hs _ [hO (pC cQ) b212 c213 24 n214 x211,hO cQ b38 c39 42 n40 x37,hO (pC cQ) b44 c45 24 n46 x43] [(6,.vc (pI .i64 v3)),(7,.vc (pI .i64 v5)),(8,.vc (pO b44 n46 c45)),(9,.vc (pO b38 n40 c39)),(19,.vc (pO b212 n214 c213)),(20,.vc (pI .i64 x217))] a w) K (fun a w ⟨_,_,_,_,_,hF,_,_⟩=>by cases hF) (fun k a w ⟨x211,x217,b212,c213,n214,hF,q215,hh⟩=>fN ?_ hh) (fun a w hh=>⟨([]:List (List Rat)),0,none,0,0,hL,rfl,jY [0,1,2] hh⟩)
  rw [cA.eq_2] at hF
  refine go ?_ ?_
  refine aD hF rfl (fun h226 hF=>?_) (fun h226 hF=>?_)
  ·refine go ?_ ?_
   refine aK (aC (aJ (sV cQ 42 rfl ?_)))
   refine go ?_ ?_
   refine aK (bE (fun H E=>∃(x243:List Rat),∃(b244:Option Nat),∃(c245:Nat),∃(n246:Nat),kG K v5 x211 x217 (cA K v3 v5 x43 k) x243=some x218'∧x243.length=n246∧H=[hO cQ b244 c245 42 n246 x243,hO (pC cQ) b212 c213 24 n214 x211,hO cQ b38 c39 42 n40 x37,hO (pC cQ) b44 c45 24 n46 x43]∧E=[(6,.vc (pI .i64 v3)),(7,.vc (pI .i64 v5)),(8,.vc (pO b44 n46 c45)),(9,.vc (pO b38 n40 c39)),(19,.vc (pO b212 n214 c213)),(20,.vc (pI .i64 x217)),(21,.vc (pO b244 n246 c245))]) ?_ (fun Jj250=>?_))
   ·rintro _ _ ⟨x243,b244,c245,n246,hF,q247,rfl,rfl⟩
    unfold kG at hF
    refine go ?_ ?_
    refine aD hF rfl (fun h251 hF=>?_) (fun h251 hF=>?_)
    ·obtain⟨v254,h255,hF⟩:=aR hF
     obtain⟨v256,h257,hF⟩:=aZ hF dP
     obtain⟨v258,h259,hF⟩:=aZ hF sU
     have hF:=sR h255 hF
     refine dr [0,0,0,0,12,28,0,124,255,511] 9 1 ?_ (fun bs253 G252=>?_)
     obtain⟨x262,h263,hF⟩:=aR hF
     refine lW (xE 0 rfl rfl h255 h263 tyA42.s) zU2 ?_
     refine aV (aH (aJ (gF ?_)))
     refine gF ?_
     refine xC 0 [21,149,151,159] rfl (bH h263 q247) ⟨rfl,rfl,rfl,rfl,trivial⟩ rfl ?_
     refine aF (gO (C:=(pC cQ)) (xs:=[.tmp 159]) (ps:=[.vc (pS cQ x262)]) (zs:=[x262]) rfl tyS23 rfl ⟨⟨trivial,rfl⟩,trivial⟩ rfl) zU1 ?_
     obtain⟨x265,h266,hF⟩:=aR hF
     refine o9 0 rfl tyS23 rfl rfl q215 rfl rfl h266 (fun b267 c268 H269 e270=>?_)
     cases e270
     obtain⟨v272,h273,hF⟩:=aR hF
     refine go ?_ ?_
     exact aG (fun a w hh=>⟨x265,v272,b267,c268,(n214+[x262].length),hF,(fI h266 q215),jY [0,1,2] hh⟩)
    refine f7 (aH (aJ (gF ?_)))
    refine gF ?_
    refine xC 0 [21,159] rfl q247 zU2 rfl ?_
    refine aF (gO (C:=(pC cQ)) (xs:=[.tmp 159]) (ps:=[.vc (pS cQ x243)]) (zs:=[x243]) rfl tyS23 rfl ⟨⟨trivial,rfl⟩,trivial⟩ rfl) zU1 ?_
    obtain⟨x274,h275,hF⟩:=aR hF
    refine o9 0 rfl tyS23 rfl rfl q215 rfl rfl h275 (fun b276 c277 H278 e279=>?_)
    cases e279
    obtain⟨v281,h282,hF⟩:=aR hF
    refine go ?_ ?_
    exact aG (fun a w hh=>⟨x274,v281,b276,c277,(n214+[x243].length),hF,(fI h275 q215),jY [0,1,2] hh⟩)
   obtain⟨x243',hL,hRl249⟩:=aR hF
   refine fO (fun k a w=>∃(x236:List Rat),∃(x242:Int),∃(b237:Option Nat),∃(c238:Nat),∃(n239:Nat),dU K v3 x43 x217 k x236 x242=some x243'∧x236.length=n239∧hs _ [hO cQ b237 c238 42 n239 x236,hO (pC cQ) b212 c213 24 n214 x211,hO cQ b38 c39 42 n40 x37,hO (pC cQ) b44 c45 24 n46 x43] [(6,.vc (pI .i64 v3)),(7,.vc (pI .i64 v5)),(8,.vc (pO b44 n46 c45)),(9,.vc (pO b38 n40 c39)),(19,.vc (pO b212 n214 c213)),(20,.vc (pI .i64 x217)),(21,.vc (pO b237 n239 c238)),(22,.vc (pI .i64 x242))] a w) K (fun a w ⟨_,_,_,_,_,hF,_,_⟩=>by cases hF) (fun k a w ⟨x236,x242,b237,c238,n239,hF,q240,hh⟩=>fN ?_ hh) (fun a w hh=>⟨([]:List Rat),0,none,0,0,hL,rfl,jY [0,1,2,3] hh⟩)
   rw [dU.eq_2] at hF
   refine go ?_ ?_
   refine aD hF rfl (fun h283 hF=>?_) (fun h283 hF=>?_)
   ·refine go ?_ ?_
    refine aK ?_
    obtain⟨v286,h287,hF⟩:=aR hF
    obtain⟨v288,h289,hF⟩:=aR hF
    obtain⟨v290,h291,hF⟩:=aZ hF vU
    refine jI [0,0,0,6,14,0,0,96,224,510,1022,2047,4095] 11 2 [.v (.vc (pO b237 n239 c238)),.v (.vc (pO b44 n46 c45)),.v (.vc (pI .i64 x217)),.v (.vc (pE b44 x217 (pC cQ).n 0)),.v (.vc (pS cQ v286)),.v (.vc (pO b44 n46 c45)),.v (.vc (pI .i64 x242)),.v (.vc (pE b44 x242 (pC cQ).n 0)),.v (.vc (pS cQ v288)),.v (.va (eQ v290)),.v (.vc (pS cQ [v290]))] bB ⟨d0 (aP (.inl rfl)) zU1,d0 (aP (.inl rfl)) zU1,d0 (aP (.inl rfl)) zU1,d0 (iC (C:=(pC cQ)) 3 rfl tyS23 rfl q47 (aI h287).1 (aI h287).2.1) zU2,d0 (lA (k:=1) 3 rfl rfl h287 rfl (.one tyO24) rfl) zU1,d0 (aP (.inl rfl)) zU1,d0 (aP (.inl rfl)) zU1,d0 (iC (C:=(pC cQ)) 3 rfl tyS23 rfl q47 (aI h289).1 (aI h289).2.1) zU2,d0 (lA (k:=1) 3 rfl rfl h289 rfl (.one tyO24) rfl) zU1,d0 (bJ rfl h291 rfl) zU2,d0 (gO (C:=cQ) (xs:=[.tmp 144]) (ps:=[.va (eQ v290)]) (zs:=[v290]) rfl tyS24 rfl ⟨⟨trivial,rfl⟩,trivial⟩ rfl) zU1,trivial⟩ (fun bs285 G284=>?_)
    obtain⟨x292,h293,hF⟩:=aR hF
    refine o9 0 rfl tyS24 rfl rfl q240 rfl rfl h293 (fun b294 c295 H296 e297=>?_)
    cases e297
    obtain⟨v299,h300,hF⟩:=aR hF
    refine go ?_ ?_
    exact aG (fun a w hh=>⟨x292,v299,b294,c295,(n239+[v290].length),hF,(fI h293 q240),jY [0,1,2,3] hh⟩)
   refine bO ?_
   obtain rfl:=jN hF
   exact rD Jj250 ⟨x236,b237,c238,n239,hRl249,q240,rfl,rfl⟩ [0,1,2,3]
  refine bO ?_
  obtain rfl:=jN hF
  exact rD Jj225 ⟨x211,b212,c213,n214,hRl224,q215,rfl,rfl⟩ [0,1]
 obtain⟨⟨x37',x43'⟩,hL,hRl49⟩:=aR hF
 refine fO (fun k a w=>∃(x24:List Rat),∃(x30:List (List Rat)),∃(x36:Int),∃(b25:Option Nat),∃(c26:Nat),∃(n27:Nat),∃(b31:Option Nat),∃(c32:Nat),∃(n33:Nat),dA K a0 v3 k x24 x30 x36=some (x37',x43')∧x24.length=n27∧x30.length=n33∧hs _ [hO cQ b25 c26 42 n27 x24,hO (pC cQ) b31 c32 24 n33 x30] [(0,.vc (pS cI a0)),(6,.vc (pI .i64 v3)),(7,.vc (pI .i64 v5)),(8,.vc (pO b31 n33 c32)),(9,.vc (pO b25 n27 c26)),(10,.vc (pI .i64 x36))] a w) K (fun a w ⟨_,_,_,_,_,_,_,_,_,hF,_,_,_⟩=>by cases hF) (fun k a w ⟨x24,x30,x36,b25,c26,n27,b31,c32,n33,hF,q28,q34,hh⟩=>fN ?_ hh) (fun a w hh=>⟨([]:List Rat),([]:List (List Rat)),0,none,0,0,none,0,0,hL,rfl,rfl,jY [0,1] hh⟩)
 rw [dA.eq_2] at hF
 refine go ?_ ?_
 refine aD hF rfl (fun h301 hF=>?_) (fun h301 hF=>?_)
 ·refine go ?_ ?_
  refine aK (aC (aJ (sV cQ 42 rfl ?_)))
  refine go ?_ ?_
  refine aK (bE (fun H E=>∃(x318:List Rat),∃(b319:Option Nat),∃(c320:Nat),∃(n321:Nat),kD K a0 x24 x30 x36 (dA K a0 v3 k) x318=some (x37',x43')∧x318.length=n321∧H=[hO cQ b319 c320 42 n321 x318,hO cQ b25 c26 42 n27 x24,hO (pC cQ) b31 c32 24 n33 x30]∧E=[(0,.vc (pS cI a0)),(6,.vc (pI .i64 v3)),(7,.vc (pI .i64 v5)),(8,.vc (pO b31 n33 c32)),(9,.vc (pO b25 n27 c26)),(10,.vc (pI .i64 x36)),(11,.vc (pO b319 n321 c320))]) ?_ (fun Jj325=>?_))
  ·rintro _ _ ⟨x318,b319,c320,n321,hF,q322,rfl,rfl⟩
   unfold kD at hF
   refine aH (aC (aJ (gF ?_)))
   refine gF ?_
   refine xC 0 [11,51] rfl q322 zU2 rfl ?_
   refine aF (gO (C:=(pC cQ)) (xs:=[.tmp 51]) (ps:=[.vc (pS cQ x318)]) (zs:=[x318]) rfl tyS23 rfl ⟨⟨trivial,rfl⟩,trivial⟩ rfl) zU1 ?_
   obtain⟨x326,h327,hF⟩:=aR hF
   refine o9 1 rfl tyS23 rfl rfl q34 rfl rfl h327 (fun b328 c329 H330 e331=>?_)
   cases e331
   obtain⟨v333,h334,hF⟩:=aR hF
   obtain⟨v335,h336,hF⟩:=aZ hF kQ
   obtain⟨v337,h338,v339,h340,hF⟩:=sS hF
   obtain⟨v341,h342,hF⟩:=aZ hF kQ
   obtain⟨v343,h344,hF⟩:=aR hF
   obtain⟨v345,h346,hF⟩:=aZ hF dP
   refine go ?_ ?_
   refine aF (gO (C:=cQ) (xs:=[.tmp 65]) (ps:=[.va (eQ v345)]) (zs:=[v345]) rfl tyS24 rfl ⟨⟨trivial,rfl⟩,trivial⟩ rfl) zU1 ?_
   obtain⟨x347,h348,hF⟩:=aR hF
   refine o9 0 rfl tyS24 rfl rfl q28 rfl rfl h348 (fun b349 c350 H351 e352=>?_)
   cases e352
   obtain⟨v354,h355,hF⟩:=aR hF
   refine go ?_ ?_
   exact aG (fun a w hh=>⟨x347,x326,v354,b349,c350,(n27+[v345].length),b328,c329,(n33+[x318].length),hF,(fI h348 q28),(fI h327 q34),jY [0,1] hh⟩)
  obtain⟨x318',hL,hRl324⟩:=aR hF
  refine fO (fun k a w=>∃(x311:List Rat),∃(x317:Int),∃(b312:Option Nat),∃(c313:Nat),∃(n314:Nat),dY K a0 v3 x36 k x311 x317=some x318'∧x311.length=n314∧hs _ [hO cQ b312 c313 42 n314 x311,hO cQ b25 c26 42 n27 x24,hO (pC cQ) b31 c32 24 n33 x30] [(0,.vc (pS cI a0)),(6,.vc (pI .i64 v3)),(7,.vc (pI .i64 v5)),(8,.vc (pO b31 n33 c32)),(9,.vc (pO b25 n27 c26)),(10,.vc (pI .i64 x36)),(11,.vc (pO b312 n314 c313)),(12,.vc (pI .i64 x317))] a w) K (fun a w ⟨_,_,_,_,_,hF,_,_⟩=>by cases hF) (fun k a w ⟨x311,x317,b312,c313,n314,hF,q315,hh⟩=>fN ?_ hh) (fun a w hh=>⟨([]:List Rat),0,none,0,0,hL,rfl,jY [0,1,2] hh⟩)
  rw [dY.eq_2] at hF
  refine go ?_ ?_
  refine aD hF rfl (fun h356 hF=>?_) (fun h356 hF=>?_)
  ·refine go ?_ ?_
   refine aK ?_
   obtain⟨v357,h358,v359,h360,v361,h362,hF⟩:=bn3 hF
   obtain⟨v363,h364,hF⟩:=aZ hF kQ
   obtain⟨v365,h366,hF⟩:=aZ hF yS
   refine go ?_ ?_
   refine aF (gO (C:=cQ) (xs:=[.tmp 47]) (ps:=[.va (eQ v365)]) (zs:=[v365]) rfl tyS24 rfl ⟨⟨trivial,rfl⟩,trivial⟩ rfl) zU1 ?_
   obtain⟨x367,h368,hF⟩:=aR hF
   refine o9 0 rfl tyS24 rfl rfl q315 rfl rfl h368 (fun b369 c370 H371 e372=>?_)
   cases e372
   obtain⟨v374,h375,hF⟩:=aR hF
   refine go ?_ ?_
   exact aG (fun a w hh=>⟨x367,v374,b369,c370,(n314+[v365].length),hF,(fI h368 q315),jY [0,1,2] hh⟩)
  refine bO ?_
  obtain rfl:=jN hF
  exact rD Jj325 ⟨x311,b312,c313,n314,hRl324,q315,rfl,rfl⟩ [0,1,2]
 refine bO ?_
 obtain⟨rfl,rfl⟩:=sm2 hF
 exact rD Jj50 ⟨x24,x30,b25,c26,n27,b31,c32,n33,hRl49,q28,q34,rfl,rfl⟩ [0,1]
def n4 (K:Nat):Option Bool:=
 some true
def gW (K:Nat) (a0:List Rat):Nat→Int→Option (LR Bool Unit)
 |0,_=>none
 |k+1,x2=>bif(decide (x2<(a0.length:Int))) then((bP a0 x2).bind fun v6=>(aIe v6).bind fun v9=>bif(!v9) then(some (.ret false)) else((aO (x2+1)).bind fun v12=>gW K a0 k v12)) else(some (.go ()))
def iN (K:Nat) (a0:List Rat):Option Bool:=
 (gW K a0 K 0).bind fun o=>match o with| .ret r=>some r| .go _=>n4 K
theorem qA {K:Nat} {a0:List Rat} {r:Bool} (hF:iN K a0=some r):Ct Tryz.prog 56 [.vc (pS cQ a0)] (.vc (pB r)):=by
 unfold iN at hF
 refine aB Tryz.func56 rfl (by kernel_rfl) Tryz.ntmps56 rfl (fun w0 M0=>?_)
 refine go ?_ ?_
 refine aK (bE (fun H E=>n4 K=some r∧H=[]∧E=[]) ?_ (fun Jj4=>?_))
 ·rintro _ _ ⟨hF,rfl,rfl⟩
  unfold n4 at hF
  exact bV
 obtain⟨ol3,hL,hRl3⟩:=aR hF
 refine fO (fun k a w=>∃(x2:Int),gW K a0 k x2=some ol3∧hs _ [] [(5,.vc (pS cQ a0)),(6,.vc (pI .i64 (a0.length:Int))),(7,.vc (pI .i64 x2))] a w) K (fun a w ⟨_,hF,_⟩=>by cases hF) (fun k a w ⟨x2,hF,hh⟩=>fN ?_ hh) (fun a w hh=>⟨0,hL,jY [] hh⟩)
 rw [gW.eq_2] at hF
 refine go ?_ ?_
 refine aD hF rfl (fun h5 hF=>?_) (fun h5 hF=>?_)
 ·refine go ?_ ?_
  refine aK ?_
  obtain⟨v6,h7,hF⟩:=aR hF
  refine go ?_ ?_
  refine aE rfl tyZ42q (fun b8=>?_)
  obtain⟨v9,h10,hF⟩:=aZ hF aEG
  refine go ?_ ?_
  refine aD hF rfl (fun h11 hF=>?_) (fun h11 hF=>?_)
  ·exact bV
  obtain⟨v12,h13,hF⟩:=aR hF
  refine go ?_ ?_
  exact aG (fun a w hh=>⟨v12,hF,jY [] hh⟩)
 refine bO ?_
 obtain rfl:=jN hF
 exact rD Jj4 ⟨hRl3,rfl,rfl⟩ []
def nN (K:Nat):Option Bool:=
 some true
def gG (K:Nat) (a0:List (List Rat)) (a1:List Rat):Nat→Int→Option (LR Bool Unit)
 |0,_=>none
 |k+1,x7=>bif(decide (x7<(a0.length:Int))) then((bP a0 x7).bind fun v11=>bif((v11.length:Int) != (a1.length:Int)) then(some (.ret false)) else((iN K v11).bind fun v14=>bif(!v14) then(some (.ret false)) else((aO (x7+1)).bind fun v17=>gG K a0 a1 k v17))) else(some (.go ()))
def g8 (K:Nat) (a0:List (List Rat)) (a1:List Rat):Option Bool:=
 bif((a0.length:Int) != (a1.length:Int)) then(some false) else(bif(decide (32<(a0.length:Int))) then(some false) else((iN K a1).bind fun v3=>bif(!v3) then(some false) else((gG K a0 a1 K 0).bind fun o=>match o with| .ret r=>some r| .go _=>nN K)))
theorem oW {K:Nat} {a0:List (List Rat)} {a1:List Rat} {r:Bool} (hF:g8 K a0 a1=some r):Ct Tryz.prog 43 [.vc (pS (pC cQ) a0),.vc (pS cQ a1)] (.vc (pB r)):=by
 unfold g8 at hF
 refine aB Tryz.func43 rfl (by kernel_rfl) Tryz.ntmps43 rfl (fun w0 M0=>?_)
 refine go ?_ ?_
 refine dG hF (fun h1 hF=>?_) (fun h1 hF=>?_)
 ·refine go ?_ ?_
  refine iR rfl ?_
  exact bV
 refine go ?_ ?_
 refine dG hF (fun h2 hF=>?_) (fun h2 hF=>?_)
 ·refine go ?_ ?_
  refine iR rfl ?_
  exact bV
 obtain⟨v3,h4,hF⟩:=aZ hF qA
 refine go ?_ ?_
 refine aD hF rfl (fun h5 hF=>?_) (fun h5 hF=>?_)
 ·exact bV
 refine go ?_ ?_
 refine aK (bE (fun H E=>nN K=some r∧H=[]∧E=[]) ?_ (fun Jj9=>?_))
 ·rintro _ _ ⟨hF,rfl,rfl⟩
  unfold nN at hF
  exact bV
 obtain⟨ol8,hL,hRl8⟩:=aR hF
 refine fO (fun k a w=>∃(x7:Int),gG K a0 a1 k x7=some ol8∧hs _ [] [(1,.vc (pS cQ a1)),(22,.vc (pS (pC cQ) a0)),(23,.vc (pI .i64 (a0.length:Int))),(24,.vc (pI .i64 x7))] a w) K (fun a w ⟨_,hF,_⟩=>by cases hF) (fun k a w ⟨x7,hF,hh⟩=>fN ?_ hh) (fun a w hh=>⟨0,hL,jY [] hh⟩)
 rw [gG.eq_2] at hF
 refine go ?_ ?_
 refine aD hF rfl (fun h10 hF=>?_) (fun h10 hF=>?_)
 ·refine go ?_ ?_
  refine aK ?_
  obtain⟨v11,h12,hF⟩:=aR hF
  refine go ?_ ?_
  refine dG hF (fun h13 hF=>?_) (fun h13 hF=>?_)
  ·refine go ?_ ?_
   refine iR rfl ?_
   exact bV
  obtain⟨v14,h15,hF⟩:=aZ hF qA
  refine go ?_ ?_
  refine aD hF rfl (fun h16 hF=>?_) (fun h16 hF=>?_)
  ·exact bV
  obtain⟨v17,h18,hF⟩:=aR hF
  refine go ?_ ?_
  exact aG (fun a w hh=>⟨v17,hF,jY [] hh⟩)
 refine bO ?_
 obtain rfl:=jN hF
 exact rD Jj9 ⟨hRl8,rfl,rfl⟩ []
def lS (K:Nat):Option Bool:=
 some false
def eP (K:Nat) (a0:List Rat):Nat→Int→Option (LR Bool Unit)
 |0,_=>none
 |k+1,x2=>bif(decide (x2<(a0.length:Int))) then((bP a0 x2).bind fun v6=>(wD v6).bind fun v9=>bif(decide (v9<0)) then(some (.ret true)) else((aO (x2+1)).bind fun v12=>eP K a0 k v12)) else(some (.go ()))
def fA (K:Nat) (a0:List Rat):Option Bool:=
 (eP K a0 K 0).bind fun o=>match o with| .ret r=>some r| .go _=>lS K
theorem mS {K:Nat} {a0:List Rat} {r:Bool} (hF:fA K a0=some r):Ct Tryz.prog 45 [.vc (pS cQ a0)] (.vc (pB r)):=by
 unfold fA at hF
 refine aB Tryz.func45 rfl (by kernel_rfl) Tryz.ntmps45 rfl (fun w0 M0=>?_)
 refine go ?_ ?_
 refine aK (bE (fun H E=>lS K=some r∧H=[]∧E=[]) ?_ (fun Jj4=>?_))
 ·rintro _ _ ⟨hF,rfl,rfl⟩
  unfold lS at hF
  exact bV
 obtain⟨ol3,hL,hRl3⟩:=aR hF
 refine fO (fun k a w=>∃(x2:Int),eP K a0 k x2=some ol3∧hs _ [] [(5,.vc (pS cQ a0)),(6,.vc (pI .i64 (a0.length:Int))),(7,.vc (pI .i64 x2))] a w) K (fun a w ⟨_,hF,_⟩=>by cases hF) (fun k a w ⟨x2,hF,hh⟩=>fN ?_ hh) (fun a w hh=>⟨0,hL,jY [] hh⟩)
 rw [eP.eq_2] at hF
 refine go ?_ ?_
 refine aD hF rfl (fun h5 hF=>?_) (fun h5 hF=>?_)
 ·refine go ?_ ?_
  refine aK ?_
  obtain⟨v6,h7,hF⟩:=aR hF
  refine go ?_ ?_
  refine aE rfl tyZ42q (fun b8=>?_)
  obtain⟨v9,h10,hF⟩:=aZ hF fT
  refine go ?_ ?_
  refine aD hF rfl (fun h11 hF=>?_) (fun h11 hF=>?_)
  ·exact bV
  obtain⟨v12,h13,hF⟩:=aR hF
  refine go ?_ ?_
  exact aG (fun a w hh=>⟨v12,hF,jY [] hh⟩)
 refine bO ?_
 obtain rfl:=jN hF
 exact rD Jj4 ⟨hRl3,rfl,rfl⟩ []
def kY (K:Nat) (a1:List Rat) (x59:List Int) (x65:List Nat) (x71:List (List Rat)):Option (Int×(List Nat)×(List Int)×(List (List Rat))):=
 some ((a1.length:Int),x65,x59,x71)
def kC (K:Nat) (a1:List Rat) (x40:List Int) (x46:List Nat) (x52:List (List Rat)) (x58:Int) (recl77:(List Int)→(List Nat)→(List (List Rat))→Int→Option ((List Int)×(List Nat)×(List (List Rat)))) (x110:List Rat):Option ((List Int)×(List Nat)×(List (List Rat))):=
 (aO (2*(a1.length:Int))).bind fun v118=>(yN (-1) 1).bind fun v120=>(bP x110 v118).bind fun v122=>(oK x110 v118 v120).bind fun x124=>(aO (2*(a1.length:Int))).bind fun v127=>(aO (v127+1)).bind fun v129=>(bP a1 x58).bind fun v131=>(bP x124 v129).bind fun v133=>(oK x124 v129 v131).bind fun x135=>(sK x46 [x52.length]).bind fun x139=>(sK x40 [x58]).bind fun x146=>(aO (x58+1)).bind fun v153=>recl77 x146 x139 (x52++[x135]) v153
def dQ (K:Nat) (a0:List (List Rat)) (a1:List Rat) (x58:Int):Nat→(List Rat)→Int→Option (List Rat)
 |0,_,_=>none
 |k+1,x103,x109=>bif(decide (x109<(a1.length:Int))) then((aO ((a1.length:Int)+x109)).bind fun v156=>(bP a0 x58).bind fun v158=>(bP v158 x109).bind fun v160=>(aAo v160).bind fun v162=>(bP x103 v156).bind fun v164=>(oK x103 v156 v162).bind fun x166=>(aO (x109+1)).bind fun v169=>dQ K a0 a1 x58 k x166 v169) else(some x103)
def dD (K:Nat) (a0:List (List Rat)) (a1:List Rat):Nat→(List Int)→(List Nat)→(List (List Rat))→Int→Option ((List Int)×(List Nat)×(List (List Rat)))
 |0,_,_,_,_=>none
 |k+1,x40,x46,x52,x58=>bif(decide (x58<(a1.length:Int))) then((aO (2*(a1.length:Int))).bind fun v80=>(aO (v80+2)).bind fun v82=>(wK v82 0).bind fun x84=>(yN 1 1).bind fun v89=>(bP x84 x58).bind fun v91=>(oK x84 x58 v89).bind fun x93=>(dQ K a0 a1 x58 K x93 0).bind fun x110=>kC K a1 x40 x46 x52 x58 (dD K a0 a1 k) x110) else(some (x40,x46,x52))
def k5 (K:Nat) (a0:List (List Rat)) (a1:List Rat):Option (Int×(List Nat)×(List Int)×(List (List Rat))):=
 (dD K a0 a1 K ([]:List Int) ([]:List Nat) ([]:List (List Rat)) 0).bind fun(x59,x65,x71)=>kY K a1 x59 x65 x71
theorem xJ {K:Nat} {a0:List (List Rat)} {a1:List Rat} {r:Int×(List Nat)×(List Int)×(List (List Rat))} (hF:k5 K a0 a1=some r):yU Tryz.prog 44 [] [.vc (pS (pC cQ) a0),.vc (pS cQ a1)] (fun Ho q=>∃b1171 b1175 c1176 n1177 b1180 c1181 n1182 g1185 N1186,r.2.1.length=n1177∧r.2.2.1.length=n1182∧r.2.2.2.length=N1186∧eF g1185 r.2.2.2∧(∀k∈r.2.1,k<N1186)∧Ho=([⟨some b1171,1,72,3,1,([pI .i64 r.1]++[pO b1175 n1177 c1176]++[pO b1180 n1182 c1181])⟩,hO (cH g1185) b1175 c1176 24 n1177 r.2.1,hO cI b1180 c1181 3 n1182 r.2.2.1]++fP cQ 42 g1185 r.2.2.2)∧q=.vc (pP (some b1171) 0)):=by
 unfold k5 at hF
 refine aB Tryz.func44 rfl (by kernel_rfl) Tryz.ntmps44 rfl (fun w0 M0=>?_)
 refine aC (aJ (aF (aP (p:=.any) (.inr rfl)) ⟨fun _=>trivial,trivial⟩ ?_))
 refine aV (aH (aC (aJ (gF ?_))))
 refine aF (aFz rfl tyS24) zU1 ?_
 refine wU ?_
 refine aV (aH (aC (aJ (gF ?_))))
 refine aGw cQ 42 ?_
 refine aAE (cH ([]:List q0)) 24 ?_
 refine aAE cI 3 ?_
 refine aF (fK (is:=[0]) (xs:=[.tmp 12]) (ps:=[.vc (pI .i64 (a1.length:Int))]) rfl tyB72_o1_o2q rfl rfl ⟨trivial,trivial⟩ rfl) zU1 ?_
 refine dE rfl rfl trivial (fun b20=>?_)
 refine go ?_ ?_
 refine aK (bE (fun H E=>∃(x59:List Int),∃(x65:List Nat),∃(x71:List (List Rat)),∃(b60:Option Nat),∃(c61:Nat),∃(n62:Nat),∃(b66:Option Nat),∃(c67:Nat),∃(n68:Nat),∃(g72:List q0),∃(N73:Nat),kY K a1 x59 x65 x71=some r∧x59.length=n62∧x65.length=n68∧x71.length=N73∧eF g72 x71∧(∀k∈x65,k<N73)∧H=([⟨some b20,1,72,3,1,([pI .i64 (a1.length:Int)]++[pO b66 n68 c67]++[pO b60 n62 c61])⟩,hO cI b60 c61 3 n62 x59,hO (cH g72) b66 c67 24 n68 x65]++fP cQ 42 g72 x71)∧E=[(6,.vc (pP (some b20) 0))]) ?_ (fun Jj78=>?_))
 ·rintro _ _ ⟨x59,x65,x71,b60,c61,n62,b66,c67,n68,g72,N73,hF,q63,q69,q74,q75,q76,rfl,rfl⟩
  unfold kY at hF
  refine go ?_ ?_
  refine gL (gN ?_)
  obtain rfl:=jN hF
  exact iE (.inl rfl) Tryz.results44 (.tmp rfl .nil) rfl 3 [0,2,1] rfl rfl (by decide) ⟨b20,b66,c67,n68,b60,c61,n62,g72,N73,q69,q63,q74,q75,q76,rfl,rfl⟩
 obtain⟨⟨x59',x65',x71'⟩,hL,hRl77⟩:=aR hF
 refine fO (fun k a w=>∃(x40:List Int),∃(x46:List Nat),∃(x52:List (List Rat)),∃(x58:Int),∃(b41:Option Nat),∃(c42:Nat),∃(n43:Nat),∃(b47:Option Nat),∃(c48:Nat),∃(n49:Nat),∃(g53:List q0),∃(N54:Nat),dD K a0 a1 k x40 x46 x52 x58=some (x59',x65',x71')∧x40.length=n43∧x46.length=n49∧x52.length=N54∧eF g53 x52∧(∀k∈x46,k<N54)∧hs _ ([⟨some b20,1,72,3,1,([pI .i64 (a1.length:Int)]++[pO b47 n49 c48]++[pO b41 n43 c42])⟩,hO cI b41 c42 3 n43 x40,hO (cH g53) b47 c48 24 n49 x46]++fP cQ 42 g53 x52) [(0,.vc (pS (pC cQ) a0)),(1,.vc (pS cQ a1)),(5,.vc (pI .i64 (a1.length:Int))),(6,.vc (pP (some b20) 0)),(15,.vc (pI .i64 (a1.length:Int))),(16,.vc (pI .i64 x58))] a w) K (fun a w ⟨_,_,_,_,_,_,_,_,_,_,_,_,hF,_,_,_,_,_,_⟩=>by cases hF) (fun k a w ⟨x40,x46,x52,x58,b41,c42,n43,b47,c48,n49,g53,N54,hF,q44,q50,q55,q56,q57,hh⟩=>fN ?_ hh) (fun a w hh=>⟨([]:List Int),([]:List Nat),([]:List (List Rat)),0,none,0,0,none,0,0,([]:List q0),0,hL,rfl,rfl,(rfl),aDG,(by simp),aS 3 [0,1,2] rfl rfl (by decide) (by exact⟨rfl,rfl,rfl,rfl,rfl,rfl,trivial⟩) hh⟩)
 rw [dD.eq_2] at hF
 refine go ?_ ?_
 refine aD hF rfl (fun h79 hF=>?_) (fun h79 hF=>?_)
 ·refine go ?_ ?_
  refine aK ?_
  obtain⟨v80,h81,v82,h83,x84,h85,hF⟩:=bn3 hF
  refine go ?_ ?_
  refine o8 (C:=cQ) rfl tyS24 rfl tyZ42q rfl h85 (fun b86=>?_)
  obtain⟨v89,h90,hF⟩:=aZ hF qG
  obtain⟨v91,h92,x93,h94,hF⟩:=sS hF
  refine go ?_ ?_
  refine aK (bE (fun H E=>∃(x110:List Rat),kC K a1 x40 x46 x52 x58 (dD K a0 a1 k) x110=some (x59',x65',x71')∧x110.length=x84.length∧H=([hO cQ b86 x84.length 42 x84.length x110,⟨some b20,1,72,3,1,([pI .i64 (a1.length:Int)]++[pO b47 n49 c48]++[pO b41 n43 c42])⟩,hO cI b41 c42 3 n43 x40,hO (cH g53) b47 c48 24 n49 x46]++fP cQ 42 g53 x52)∧E=[(0,.vc (pS (pC cQ) a0)),(1,.vc (pS cQ a1)),(5,.vc (pI .i64 (a1.length:Int))),(6,.vc (pP (some b20) 0)),(7,.vc (pI .i64 x58)),(8,.vc (pO b86 x84.length x84.length)),(15,.vc (pI .i64 (a1.length:Int))),(16,.vc (pI .i64 x58))]) ?_ (fun Jj117=>?_))
  ·rintro _ _ ⟨x110,hF,q114,rfl,rfl⟩
   unfold kC at hF
   have hF:=sR h81 hF
   obtain⟨v120,h121,hF⟩:=aZ hF qG
   obtain⟨v122,h123,x124,h125,hF⟩:=sS hF
   have hF:=sR h81 hF
   obtain⟨v129,h130,v131,h132,v133,h134,x135,h136,hF⟩:=bn4 hF
   refine go ?_ ?_
   refine aF (aLx (rs:=x52) rfl tyS23 q56.1 (show([hO cQ b86 x84.length 42 x84.length x135,⟨some b20,1,72,3,1,([pI .i64 (a1.length:Int)]++[pO b47 n49 c48]++[pO b41 n43 c42])⟩,hO cI b41 c42 3 n43 x40,hO (cH (g53++[(b86,x84.length,x84.length)])) b47 c48 24 n49 x46]++fP cQ 42 g53 x52)=([hO cQ b86 x84.length 42 x84.length x135,⟨some b20,1,72,3,1,([pI .i64 (a1.length:Int)]++[pO b47 n49 c48]++[pO b41 n43 c42])⟩,hO cI b41 c42 3 n43 x40,hO (cH g53) b47 c48 24 n49 x46]++fP cQ 42 g53 x52) from by rw [aFR (N:=x52.length) (b86,x84.length,x84.length) q56.1 (aFY q55 q57)])) zU1 ?_
   refine aFD (g:=(b86,x84.length,x84.length)) 0 4 rfl rfl rfl q56 ?_
   refine aLS 8 rfl (aIJ (N:=x52.length) (b86,x84.length,x84.length) q56.1) ?_
   obtain⟨x139,h140,hF⟩:=aR hF
   refine o9 2 rfl tyS23 rfl rfl q50 rfl rfl h140 (fun b141 c142 H143 e144=>?_)
   cases e144
   refine go ?_ ?_
   refine aF (gO (C:=cI) (xs:=[.tmp 74]) (ps:=[.vc (pI .i64 x58)]) (zs:=[x58]) rfl tyS22 rfl ⟨⟨trivial,rfl⟩,trivial⟩ rfl) zU1 ?_
   obtain⟨x146,h147,hF⟩:=aR hF
   refine o9 1 rfl tyS22 rfl rfl q44 rfl rfl h147 (fun b148 c149 H150 e151=>?_)
   cases e151
   obtain⟨v153,h154,hF⟩:=aR hF
   refine go ?_ ?_
   exact aG (fun a w hh=>⟨x146,x139,(x52++[x135]),v153,b148,c149,(n43+[x58].length),b141,c142,(n49+[x52.length].length),(g53++[(b86,x84.length,x84.length)]),(N54+1),hF,(fI h147 q44),(fI h140 q50),(aCO q55),(aAy q56 (bH h136 (bH h125 q114))),(aIz q57 q55 h140),aS 3 [0,1,2] rfl rfl (by decide) (by exact⟨rfl,rfl,rfl,rfl,rfl,rfl,trivial⟩) hh⟩)
  obtain⟨x110',hL,hRl116⟩:=aR hF
  refine fO (fun k a w=>∃(x103:List Rat),∃(x109:Int),dQ K a0 a1 x58 k x103 x109=some x110'∧x103.length=x84.length∧hs _ ([hO cQ b86 x84.length 42 x84.length x103,⟨some b20,1,72,3,1,([pI .i64 (a1.length:Int)]++[pO b47 n49 c48]++[pO b41 n43 c42])⟩,hO cI b41 c42 3 n43 x40,hO (cH g53) b47 c48 24 n49 x46]++fP cQ 42 g53 x52) [(0,.vc (pS (pC cQ) a0)),(1,.vc (pS cQ a1)),(5,.vc (pI .i64 (a1.length:Int))),(6,.vc (pP (some b20) 0)),(7,.vc (pI .i64 x58)),(8,.vc (pO b86 x84.length x84.length)),(15,.vc (pI .i64 (a1.length:Int))),(16,.vc (pI .i64 x58)),(27,.vc (pI .i64 (a1.length:Int))),(28,.vc (pI .i64 x109))] a w) K (fun a w ⟨_,_,hF,_,_⟩=>by cases hF) (fun k a w ⟨x103,x109,hF,q107,hh⟩=>fN ?_ hh) (fun a w hh=>⟨x93,0,hL,(bH h94 rfl),aS 4 [0,1,2,3] rfl rfl (by decide) (by exact⟨rfl,rfl,rfl,rfl,rfl,rfl,rfl,rfl,rfl,rfl,trivial⟩) hh⟩)
  rw [dQ.eq_2] at hF
  refine go ?_ ?_
  refine aD hF rfl (fun h155 hF=>?_) (fun h155 hF=>?_)
  ·refine go ?_ ?_
   refine aK ?_
   obtain⟨v156,h157,v158,h159,v160,h161,hF⟩:=bn3 hF
   obtain⟨v162,h163,hF⟩:=aZ hF uA
   obtain⟨v164,h165,x166,h167,v169,h170,hF⟩:=bn3 hF
   refine go ?_ ?_
   exact aG (fun a w hh=>⟨x166,v169,hF,(bH h167 q107),aS 4 [0,1,2,3] rfl rfl (by decide) (by exact⟨rfl,rfl,rfl,rfl,rfl,rfl,rfl,rfl,rfl,rfl,trivial⟩) hh⟩)
  refine bO ?_
  obtain rfl:=jN hF
  exact fY Jj117 ⟨x103,hRl116,q107,rfl,rfl⟩ 4 [0,1,2,3] rfl rfl ⟨rfl,rfl,rfl,rfl,rfl,rfl,rfl,rfl,trivial⟩
 refine bO ?_
 obtain⟨rfl,rfl,rfl⟩:=sm3 hF
 exact fY Jj78 ⟨x40,x46,x52,b41,c42,n43,b47,c48,n49,g53,N54,hRl77,q44,q50,q55,q56,q57,rfl,rfl⟩ 3 [0,1,2] rfl rfl zU1
def jK (K:Nat) (x69:List Rat) (x75:List Rat):Option aM:=
 some (⟨x75,x69,0⟩:aM)
def aY (K:Nat) (a0:Int) (a1:List Nat) (a2:List Int) (a3:List (List Rat)):Nat→(List Rat)→(List Rat)→Int→Option ((List Rat)×(List Rat))
 |0,_,_,_=>none
 |k+1,x56,x62,x68=>bif(decide (x68<(a2.length:Int))) then((bP a2 x68).bind fun v84=>(bP a1 x68).bind fun v88=>(aO (2*a0)).bind fun v90=>(aO (v90+1)).bind fun v92=>(bP (a3.getD v88 []) v92).bind fun v94=>bif(decide (v84<a0)) then((bP x56 v84).bind fun v97=>(oK x56 v84 v94).bind fun x99=>(aO (x68+1)).bind fun v102=>aY K a0 a1 a2 a3 k x99 x62 v102) else((aO (2*a0)).bind fun v104=>bif(decide (v84<v104)) then((aO (v84-a0)).bind fun v109=>(bP x62 v109).bind fun v111=>(oK x62 v109 v94).bind fun x113=>(aO (x68+1)).bind fun v116=>aY K a0 a1 a2 a3 k x56 x113 v116) else((aO (x68+1)).bind fun v118=>aY K a0 a1 a2 a3 k x56 x62 v118))) else(some (x56,x62))
def dM (K:Nat) (a0:Int) (a1:List Nat) (a2:List Int) (a3:List (List Rat)):Option aM:=
 (wK a0 0).bind fun x23=>(wK a0 0).bind fun x27=>(aY K a0 a1 a2 a3 K x27 x23 0).bind fun(x69,x75)=>jK K x69 x75
theorem oG {K:Nat} {a0:Int} {a1:List Nat} {a2:List Int} {a3:List (List Rat)} {r:aM} (hF:dM K a0 a1 a2 a3=some r) {p0:Nat} {b4:Option Nat} {c5 n6:Nat} {b9:Option Nat} {c10 n11:Nat} {g14:List q0} {N15:Nat} (q7:a1.length=n6) (q12:a2.length=n11) (q16:a3.length=N15) (q17:eF g14 a3) (q18:∀k∈a1,k<N15):yU Tryz.prog 46 ([⟨some p0,1,72,3,1,([pI .i64 a0]++[pO b4 n6 c5]++[pO b9 n11 c10])⟩,hO (cH g14) b4 c5 24 n6 a1,hO cI b9 c10 3 n11 a2]++fP cQ 42 g14 a3) [.vc (pP (some p0) 0)] (fun Ho q=>Ho=([⟨some p0,1,72,3,1,([pI .i64 a0]++[pO b4 n6 c5]++[pO b9 n11 c10])⟩,hO (cH g14) b4 c5 24 n6 a1,hO cI b9 c10 3 n11 a2]++fP cQ 42 g14 a3)∧q=.va (aM.enc r)):=by
 unfold dM at hF
 refine aB Tryz.func46 rfl (by kernel_rfl) Tryz.ntmps46 rfl (fun w0 M0=>?_)
 refine aC (aJ (aE rfl tyZ30q (fun b20=>?_)))
 obtain⟨x23,h24,hF⟩:=aR hF
 have hF:=sR h24 hF
 refine go ?_ ?_
 refine rP (HsM [(0,fun G21=>([⟨some b20,1,30,3,1,([pS cQ ([]:List Rat)]++[pS cQ ([]:List Rat)]++[pI .i64 0])⟩,⟨some p0,1,72,3,1,([pI .i64 a0]++[pO b4 n6 c5]++[pO b9 n11 c10])⟩,hO (cH g14) b4 c5 24 n6 a1,hO cI b9 c10 3 n11 a2]++fP cQ 42 g14 a3)),(1,fun G21=>([hO cQ ((G21 4).1) x23.length 42 x23.length x23,⟨some b20,1,30,3,1,([pS cQ ([]:List Rat)]++[pS cQ ([]:List Rat)]++[pI .i64 0])⟩,⟨some p0,1,72,3,1,([pI .i64 a0]++[pO b4 n6 c5]++[pO b9 n11 c10])⟩,hO (cH g14) b4 c5 24 n6 a1,hO cI b9 c10 3 n11 a2]++fP cQ 42 g14 a3)),(2,fun G21=>([hO cQ ((G21 9).1) x23.length 42 x23.length x23,⟨some b20,1,30,3,1,([pS cQ ([]:List Rat)]++[pS cQ ([]:List Rat)]++[pI .i64 0])⟩,⟨some p0,1,72,3,1,([pI .i64 a0]++[pO b4 n6 c5]++[pO b9 n11 c10])⟩,hO (cH g14) b4 c5 24 n6 a1,hO cI b9 c10 3 n11 a2]++fP cQ 42 g14 a3)),(3,fun G21=>([hO cQ ((G21 9).1) x23.length 42 x23.length x23,hO cQ ((G21 4).1) x23.length 42 x23.length x23,⟨some b20,1,30,3,1,([pS cQ ([]:List Rat)]++[pS cQ ([]:List Rat)]++[pI .i64 0])⟩,⟨some p0,1,72,3,1,([pI .i64 a0]++[pO b4 n6 c5]++[pO b9 n11 c10])⟩,hO (cH g14) b4 c5 24 n6 a1,hO cI b9 c10 3 n11 a2]++fP cQ 42 g14 a3)),(7,fun G21=>([hO cQ (dB (G21 10).2) x23.length 42 x23.length x23,hO cQ ((G21 10).1) x23.length 42 x23.length x23,⟨some b20,1,30,3,1,([pS cQ ([]:List Rat)]++[pS cQ ([]:List Rat)]++[pI .i64 0])⟩,⟨some p0,1,72,3,1,([pI .i64 a0]++[pO b4 n6 c5]++[pO b9 n11 c10])⟩,hO (cH g14) b4 c5 24 n6 a1,hO cI b9 c10 3 n11 a2]++fP cQ 42 g14 a3))]) [4,9,10] [0,1,3,7,15,0,32,96,224,480,1023,0,4095] 12 1 [.v (.vc (pP (some p0) 0)),.v (.vc (pP (some p0) 0)),.v (.vc (pP (some p0) 0)),.v (.vc (pI .i64 a0)),.g (fun b _=>.vc (pO b x23.length x23.length)),.v (.vc (pP (some p0) 0)),.v (.vc (pP (some p0) 0)),.v (.vc (pP (some p0) 0)),.v (.vc (pI .i64 a0)),.g (fun b _=>.vc (pO b x23.length x23.length)),.g (fun b c=>.va ([pO b x23.length x23.length]++[pO (dB c) x23.length x23.length]++[pI .i64 0])),.a 30 ([pS cQ ([]:List Rat)]++[pS cQ ([]:List Rat)]++[pI .i64 0])] bB ⟨⟨rfl,.run (L:=[0,2]) ⟨fun G21 A=>aP (.inl rfl),fun G21 A=>aP (.inl rfl),trivial⟩ (fun G21=>zU1)⟩,⟨rfl,.run (L:=[0,2]) ⟨fun G21 A=>oH rfl,fun G21 A=>oH rfl,trivial⟩ (fun G21=>zU1)⟩,⟨rfl,.run (L:=[0,2]) ⟨fun G21 A=>iF (off:=0) (k:=0) rfl tyF72_0,fun G21 A=>iF (off:=0) (k:=0) rfl tyF72_0,trivial⟩ (fun G21=>zU1)⟩,⟨rfl,.run (L:=[0,2]) ⟨fun G21 A=>fQ 1 1 rfl rfl rfl rfl (.one tyO3),fun G21 A=>fQ 2 1 rfl rfl rfl rfl (.one tyO3),trivial⟩ (fun G21=>zU1)⟩,⟨rfl,.hvy [0,2] ⟨fun G21 A=>aA5 (C:=cQ) rfl tyS24 rfl tyZ42q h24,fun G21 A=>aMN (R:=fP cQ 42 g14 a3) [1,0,2,3,4,5] (aA5 (C:=cQ) rfl tyS24 rfl tyZ42q h24) (fun b_ c_=>⟨[hO cQ (b_) x23.length 42 x23.length x23,hO cQ ((G21 9).1) x23.length 42 x23.length x23,⟨some b20,1,30,3,1,([pS cQ ([]:List Rat)]++[pS cQ ([]:List Rat)]++[pI .i64 0])⟩,⟨some p0,1,72,3,1,([pI .i64 a0]++[pO b4 n6 c5]++[pO b9 n11 c10])⟩,hO (cH g14) b4 c5 24 n6 a1,hO cI b9 c10 3 n11 a2],_,rfl,rfl,rfl⟩),trivial⟩ (fun G21=>zU1)⟩,⟨rfl,.run (L:=[0,1]) ⟨fun G21 A=>aP (.inl rfl),fun G21 A=>aP (.inl rfl),trivial⟩ (fun G21=>zU1)⟩,⟨rfl,.run (L:=[0,1]) ⟨fun G21 A=>oH rfl,fun G21 A=>oH rfl,trivial⟩ (fun G21=>zU1)⟩,⟨rfl,.run (L:=[0,1]) ⟨fun G21 A=>iF (off:=0) (k:=0) rfl tyF72_0,fun G21 A=>iF (off:=0) (k:=0) rfl tyF72_0,trivial⟩ (fun G21=>zU1)⟩,⟨rfl,.run (L:=[0,1]) ⟨fun G21 A=>fQ 1 1 rfl rfl rfl rfl (.one tyO3),fun G21 A=>fQ 2 1 rfl rfl rfl rfl (.one tyO3),trivial⟩ (fun G21=>zU1)⟩,⟨rfl,.hvy [0,1] ⟨fun G21 A=>aA5 (C:=cQ) rfl tyS24 rfl tyZ42q h24,fun G21 A=>aA5 (C:=cQ) rfl tyS24 rfl tyZ42q h24,trivial⟩ (fun G21=>zU1)⟩,⟨rfl,.hvy [3] ⟨fun G21 A=>aMS (Post:=fun b_ x_=>([hO cQ x_ x23.length 42 x23.length x23,hO cQ b_ x23.length 42 x23.length x23,⟨some b20,1,30,3,1,([pS cQ ([]:List Rat)]++[pS cQ ([]:List Rat)]++[pI .i64 0])⟩,⟨some p0,1,72,3,1,([pI .i64 a0]++[pO b4 n6 c5]++[pO b9 n11 c10])⟩,hO (cH g14) b4 c5 24 n6 a1,hO cI b9 c10 3 n11 a2]++fP cQ 42 g14 a3)++A) (out:=fun b_ x_=>.va ([pO b_ x23.length x23.length]++[pO x_ x23.length x23.length]++[pI .i64 0])) ((G21 4).1) ((G21 9).1) (fK (is:=[0,1]) (xs:=[.tmp 11,.tmp 16]) (ps:=[.vc (pO ((G21 4).1) x23.length x23.length),.vc (pO ((G21 9).1) x23.length x23.length)]) rfl tyB30q rfl rfl ⟨trivial,trivial,trivial⟩ rfl),trivial⟩ (fun G21=>zU2)⟩,⟨rfl,.alc tyZ30q⟩,trivial⟩ (fun bs22 G21=>?_)
 refine go ?_ ?_
 refine aK (bE (fun H E=>∃(x69:List Rat),∃(x75:List Rat),jK K x69 x75=some r∧x69.length=x23.length∧x75.length=x23.length∧H=([⟨some (bs22 11),1,30,3,1,([pO ((G21 10).1) x23.length x23.length]++[pO (dB (G21 10).2) x23.length x23.length]++[pI .i64 0])⟩,hO cQ (dB (G21 10).2) x23.length 42 x23.length x69,hO cQ ((G21 10).1) x23.length 42 x23.length x75,⟨some b20,1,30,3,1,([pS cQ ([]:List Rat)]++[pS cQ ([]:List Rat)]++[pI .i64 0])⟩,⟨some p0,1,72,3,1,([pI .i64 a0]++[pO b4 n6 c5]++[pO b9 n11 c10])⟩,hO (cH g14) b4 c5 24 n6 a1,hO cI b9 c10 3 n11 a2]++fP cQ 42 g14 a3)∧E=[(2,.vc (pP (some b20) 0)),(3,.vc (pP (some (bs22 11)) 0))]) ?_ (fun Jj82=>?_))
 ·rintro _ _ ⟨x69,x75,hF,q73,q79,rfl,rfl⟩
  unfold jK at hF
  refine aH (aC (aJ (aDE 2 0 0 rfl q79 rfl rfl rfl rfl rfl ?_)))
  refine aDE 1 0 1 rfl q73 rfl rfl rfl rfl rfl ?_
  refine go ?_ ?_
  refine gL (gN ?_)
  obtain rfl:=jN hF
  exact iE (.inl rfl) Tryz.results46 (tR 1 3 rfl rfl rfl rfl (.agg tyA30) .nil) rfl 5 [2,3,4] rfl rfl (by decide) ⟨rfl,rfl⟩
 obtain⟨⟨x69',x75'⟩,hL,hRl81⟩:=aR hF
 refine fO (fun k a w=>∃(x56:List Rat),∃(x62:List Rat),∃(x68:Int),aY K a0 a1 a2 a3 k x56 x62 x68=some (x69',x75')∧x56.length=x23.length∧x62.length=x23.length∧hs _ ([⟨some (bs22 11),1,30,3,1,([pO ((G21 10).1) x23.length x23.length]++[pO (dB (G21 10).2) x23.length x23.length]++[pI .i64 0])⟩,hO cQ (dB (G21 10).2) x23.length 42 x23.length x56,hO cQ ((G21 10).1) x23.length 42 x23.length x62,⟨some b20,1,30,3,1,([pS cQ ([]:List Rat)]++[pS cQ ([]:List Rat)]++[pI .i64 0])⟩,⟨some p0,1,72,3,1,([pI .i64 a0]++[pO b4 n6 c5]++[pO b9 n11 c10])⟩,hO (cH g14) b4 c5 24 n6 a1,hO cI b9 c10 3 n11 a2]++fP cQ 42 g14 a3) [(0,.vc (pP (some p0) 0)),(2,.vc (pP (some b20) 0)),(3,.vc (pP (some (bs22 11)) 0)),(21,.vc (pO b9 n11 c10)),(22,.vc (pI .i64 (a2.length:Int))),(23,.vc (pI .i64 x68))] a w) K (fun a w ⟨_,_,_,hF,_,_,_⟩=>by cases hF) (fun k a w ⟨x56,x62,x68,hF,q60,q66,hh⟩=>fN ?_ hh) (fun a w hh=>⟨x23,x23,0,hL,rfl,rfl,aS 7 [0,1,2,3,4,5,6] rfl rfl (by decide) (by exact⟨rfl,rfl,rfl,rfl,rfl,rfl,trivial⟩) hh⟩)
 rw [aY.eq_2] at hF
 refine go ?_ ?_
 refine aD hF rfl (fun h83 hF=>?_) (fun h83 hF=>?_)
 ·refine go ?_ ?_
  refine aK ?_
  obtain⟨v84,h85,v88,h89,v90,h91,v92,h93,hF⟩:=bn4 hF
  obtain⟨v94,h95,hF⟩:=aR hF
  refine go ?_ ?_
  refine jI [0,1,3,7,0,31,63,0,128,384,896,1920,3968,8191,16383,0,65535] 16 1 [.v (.vc (pP (some p0) 0)),.v (.vc (pP (some p0) 0)),.v (.vc (pP (some p0) 1)),.v (.vc (pO b4 n6 c5)),.v (.vc (pI .i64 x68)),.v (.vc (pE b4 x68 (cH g14).n 0)),.v (.vc (pO (iG g14 v88).1 (iG g14 v88).2.1 (iG g14 v88).2.2)),.v (.vc (pP (some p0) 0)),.v (.vc (pP (some p0) 0)),.v (.vc (pP (some p0) 0)),.v (.vc (pI .i64 a0)),.v (.vc (pI .i64 v90)),.v (.vc (pI .i64 v92)),.v (.vc (pE (iG g14 v88).1 v92 cQ.n 0)),.v (.va (eQ v94)),.a 42 (eQ 0)] bB ⟨d0 (aP (.inl rfl)) zU1,d0 (oH rfl) zU1,d0 (iF (off:=0) (k:=1) rfl tyF72_1) zU1,d0 (fQ 4 1 rfl rfl rfl rfl (.one tyO23)) zU1,d0 (aP (.inl rfl)) zU1,d0 (iC (C:=(cH g14)) 5 rfl tyS23 rfl q7 (aI h89).1 (aI h89).2.1) zU2,d0 (lA (C:=(cH g14)) (k:=1) 5 rfl rfl h89 rfl (.one tyO24) rfl) zU1,d0 (aP (.inl rfl)) zU1,d0 (oH rfl) zU1,d0 (iF (off:=0) (k:=0) rfl tyF72_0) zU1,d0 (fQ 4 1 rfl rfl rfl rfl (.one tyO3)) zU1,d0 (aCI rfl h91) ⟨oF _ _,rfl,trivial⟩,d0 (wG rfl h93) ⟨rfl,oF _ _,trivial⟩,d0 (iC (7+v88) rfl tyS24 (jL 7 rfl q17 q16 (q18 _ (aW h89))) (fC q17 q16 (q18 _ (aW h89))) (aI h95).1 (aI h95).2.1) zU2,d0 (lA (k:=4) (7+v88) rfl (jL 7 rfl q17 q16 (q18 _ (aW h89))) h95 rfl (.agg tyA42) rfl) zU1,⟨rfl,.alc tyZ42q⟩,trivial⟩ (fun bs87 G86=>?_)
  refine go ?_ ?_
  refine aK (go ?_ ?_)
  refine aD hF rfl (fun h96 hF=>?_) (fun h96 hF=>?_)
  ·obtain⟨v97,h98,x99,h100,v102,h103,hF⟩:=bn3 hF
   refine go ?_ ?_
   exact aG (fun a w hh=>⟨x99,x62,v102,hF,(bH h100 q60),q66,aS 8 [1,2,3,4,5,6,7] rfl rfl (by decide) (by exact⟨rfl,rfl,rfl,rfl,rfl,rfl,trivial⟩) hh⟩)
  have hF:=sR h91 hF
  refine go ?_ ?_
  refine aD hF rfl (fun h106 hF=>?_) (fun h106 hF=>?_)
  ·obtain⟨v109,h110,hF⟩:=aR hF
   obtain⟨v111,h112,hF⟩:=aR hF
   refine dr [0,1,0,0,8,24,56,124,0,511,1023] 10 1 ?_ (fun bs108 G107=>?_)
   obtain⟨x113,h114,v116,h117,hF⟩:=sS hF
   refine go ?_ ?_
   exact aG (fun a w hh=>⟨x56,x113,v116,hF,q60,(bH h114 q66),aS 8 [1,2,3,4,5,6,7] rfl rfl (by decide) (by exact⟨rfl,rfl,rfl,rfl,rfl,rfl,trivial⟩) hh⟩)
  obtain⟨v118,h119,hF⟩:=aR hF
  refine go ?_ ?_
  exact aG (fun a w hh=>⟨x56,x62,v118,hF,q60,q66,aS 8 [1,2,3,4,5,6,7] rfl rfl (by decide) (by exact⟨rfl,rfl,rfl,rfl,rfl,rfl,trivial⟩) hh⟩)
 refine bO ?_
 obtain⟨rfl,rfl⟩:=sm2 hF
 exact fY Jj82 ⟨x56,x62,hRl81,q60,q66,rfl,rfl⟩ 7 [0,1,2,3,4,5,6] rfl rfl zU2
def gI (K:Nat):Option Bool:=
 some false
def cX (K:Nat) (a0:Int) (a1:Rat) (a2:Int) (a3:Rat) (a5:List Nat) (a7:List (List Rat)) (x23:Int) (recl24:Int→Option (LR Bool Unit)) (x28:Int):Option (LR Bool Unit):=
 (bP a5 a0).bind fun v32=>(bP (a7.getD v32 []) x28).bind fun v34=>(aCe v34 a1).bind fun v36=>(bP a5 a2).bind fun v38=>(bP (a7.getD v38 []) x28).bind fun v40=>(aCe v40 a3).bind fun v42=>(aHS v36 v42).bind fun v44=>bif(v44 != 0) then(some (.ret (decide (v44<0)))) else((aO (x23+1)).bind fun v47=>recl24 v47)
def aN (K:Nat) (a0:Int) (a1:Rat) (a2:Int) (a3:Rat) (a4:Int) (a5:List Nat) (a7:List (List Rat)):Nat→Int→Option (LR Bool Unit)
 |0,_=>none
 |k+1,x23=>bif(decide (x23<a4)) then(bif(decide (x23<0)) then((aO (2*a4)).bind fun v50=>(aO (v50+1)).bind fun v52=>cX K a0 a1 a2 a3 a5 a7 x23 (aN K a0 a1 a2 a3 a4 a5 a7 k) v52) else(cX K a0 a1 a2 a3 a5 a7 x23 (aN K a0 a1 a2 a3 a4 a5 a7 k) x23)) else(some (.go ()))
def cZ (K:Nat) (a0:Int) (a1:Rat) (a2:Int) (a3:Rat) (a4:Int) (a5:List Nat) (a6:List Int) (a7:List (List Rat)):Option Bool:=
 (aN K a0 a1 a2 a3 a4 a5 a7 K (-1)).bind fun o=>match o with| .ret r=>some r| .go _=>gI K
theorem o6 {K:Nat} {a0:Int} {a1:Rat} {a2:Int} {a3:Rat} {a4:Int} {a5:List Nat} {a6:List Int} {a7:List (List Rat)} {r:Bool} (hF:cZ K a0 a1 a2 a3 a4 a5 a6 a7=some r) {p0:Nat} {b4:Option Nat} {c5 n6:Nat} {b9:Option Nat} {c10 n11:Nat} {g14:List q0} {N15:Nat} (q7:a5.length=n6) (q12:a6.length=n11) (q16:a7.length=N15) (q17:eF g14 a7) (q18:∀k∈a5,k<N15):yU Tryz.prog 48 ([⟨some p0,1,72,3,1,([pI .i64 a4]++[pO b4 n6 c5]++[pO b9 n11 c10])⟩,hO (cH g14) b4 c5 24 n6 a5,hO cI b9 c10 3 n11 a6]++fP cQ 42 g14 a7) [.vc (pP (some p0) 0),.vc (pI .i64 a0),.va (eQ a1),.vc (pI .i64 a2),.va (eQ a3)] (fun Ho q=>Ho=([⟨some p0,1,72,3,1,([pI .i64 a4]++[pO b4 n6 c5]++[pO b9 n11 c10])⟩,hO (cH g14) b4 c5 24 n6 a5,hO cI b9 c10 3 n11 a6]++fP cQ 42 g14 a7)∧q=.vc (pB r)):=by
 unfold cZ at hF
 refine aB Tryz.func48 rfl (by kernel_rfl) Tryz.ntmps48 rfl (fun w0 M0=>?_)
 refine aC (aJ (dE rfl rfl trivial (fun b20=>?_)))
 refine dE rfl rfl trivial (fun b21=>?_)
 refine go ?_ ?_
 refine aK (bE (fun H E=>gI K=some r∧H=([⟨some p0,1,72,3,1,([pI .i64 a4]++[pO b4 n6 c5]++[pO b9 n11 c10])⟩,hO (cH g14) b4 c5 24 n6 a5,hO cI b9 c10 3 n11 a6]++fP cQ 42 g14 a7)∧E=[]) ?_ (fun Jj25=>?_))
 ·rintro _ _ ⟨hF,rfl,rfl⟩
  unfold gI at hF
  refine go ?_ ?_
  refine gL (gN ?_)
  obtain rfl:=jN hF
  exact iE (.inl rfl) Tryz.results48 (.tmp rfl .nil) rfl 3 [0,1,2] rfl rfl (by decide) ⟨rfl,rfl⟩
 obtain⟨ol24,hL,hRl24⟩:=aR hF
 refine fO (fun k a w=>∃(x23:Int),aN K a0 a1 a2 a3 a4 a5 a7 k x23=some ol24∧hs _ ([⟨some b21,1,42,4,1,(eQ a3)⟩,⟨some b20,1,42,4,1,(eQ a1)⟩,⟨some p0,1,72,3,1,([pI .i64 a4]++[pO b4 n6 c5]++[pO b9 n11 c10])⟩,hO (cH g14) b4 c5 24 n6 a5,hO cI b9 c10 3 n11 a6]++fP cQ 42 g14 a7) [(0,.vc (pP (some p0) 0)),(1,.vc (pI .i64 a0)),(3,.vc (pI .i64 a2)),(7,.vc (pP (some b20) 0)),(9,.vc (pP (some b21) 0)),(11,.vc (pI .i64 x23))] a w) K (fun a w ⟨_,hF,_⟩=>by cases hF) (fun k a w ⟨x23,hF,hh⟩=>fN ?_ hh) (fun a w hh=>⟨(-1),hL,aS 5 [0,1,2,3,4] rfl rfl (by decide) (by exact⟨rfl,rfl,rfl,rfl,rfl,rfl,trivial⟩) hh⟩)
 rw [aN.eq_2] at hF
 refine go ?_ ?_
 refine aD hF rfl (fun h26 hF=>?_) (fun h26 hF=>?_)
 ·refine go ?_ ?_
  refine aK (aC (aJ (gF ?_)))
  refine wU ?_
  refine aV (aH (aC (w4 (fun H E=>∃(x28:Int),cX K a0 a1 a2 a3 a5 a7 x23 (aN K a0 a1 a2 a3 a4 a5 a7 k) x28=some ol24∧H=([⟨some b21,1,42,4,1,(eQ a3)⟩,⟨some b20,1,42,4,1,(eQ a1)⟩,⟨some p0,1,72,3,1,([pI .i64 a4]++[pO b4 n6 c5]++[pO b9 n11 c10])⟩,hO (cH g14) b4 c5 24 n6 a5,hO cI b9 c10 3 n11 a6]++fP cQ 42 g14 a7)∧E=[(0,.vc (pP (some p0) 0)),(1,.vc (pI .i64 a0)),(3,.vc (pI .i64 a2)),(7,.vc (pP (some b20) 0)),(9,.vc (pP (some b21) 0)),(11,.vc (pI .i64 x23)),(12,.vc (pI .i64 x28))]) ?_ (fun Jj29=>?_))))
  ·rintro _ _ ⟨x28,hF,rfl,rfl⟩
   unfold cX at hF
   refine aC ?_
   obtain⟨v32,h33,hF⟩:=aR hF
   obtain⟨v34,h35,hF⟩:=aR hF
   obtain⟨v36,h37,hF⟩:=aZ hF vG
   obtain⟨v38,h39,hF⟩:=aR hF
   obtain⟨v40,h41,hF⟩:=aR hF
   obtain⟨v42,h43,hF⟩:=aZ hF vG
   obtain⟨v44,h45,hF⟩:=aZ hF y6
   refine jI (0::1::3::7::0::31::63::0::255::511::0::2047::0::4096::12288::28672::0::126976::258048::0::1044480::2093056::0::8388607::16777215::33554431::[]) 26 0 (.v (.vc (pP (some p0) 0))::.v (.vc (pP (some p0) 0))::.v (.vc (pP (some p0) 1))::.v (.vc (pO b4 n6 c5))::.v (.vc (pI .i64 a0))::.v (.vc (pE b4 a0 (cH g14).n 0))::.v (.vc (pO (iG g14 v32).1 (iG g14 v32).2.1 (iG g14 v32).2.2))::.v (.vc (pI .i64 x28))::.v (.vc (pE (iG g14 v32).1 x28 cQ.n 0))::.v (.va (eQ v34))::.v (.va (eQ a1))::.v (.va (eQ v36))::.v (.vc (pP (some p0) 0))::.v (.vc (pP (some p0) 0))::.v (.vc (pP (some p0) 1))::.v (.vc (pO b4 n6 c5))::.v (.vc (pI .i64 a2))::.v (.vc (pE b4 a2 (cH g14).n 0))::.v (.vc (pO (iG g14 v38).1 (iG g14 v38).2.1 (iG g14 v38).2.2))::.v (.vc (pI .i64 x28))::.v (.vc (pE (iG g14 v38).1 x28 cQ.n 0))::.v (.va (eQ v40))::.v (.va (eQ a3))::.v (.va (eQ v42))::.v (.vc (pI .i64 v44))::.v (.vc (pI .i64 v44))::[]) bB ⟨d0 (aP (.inl rfl)) zU1,d0 (oH rfl) zU1,d0 (iF (off:=0) (k:=1) rfl tyF72_1) zU1,d0 (fQ 2 1 rfl rfl rfl rfl (.one tyO23)) zU1,d0 (aP (.inl rfl)) zU1,d0 (iC (C:=(cH g14)) 3 rfl tyS23 rfl q7 (aI h33).1 (aI h33).2.1) zU2,d0 (lA (C:=(cH g14)) (k:=1) 3 rfl rfl h33 rfl (.one tyO24) rfl) zU1,d0 (aP (.inl rfl)) zU1,d0 (iC (5+v32) rfl tyS24 (jL 5 rfl q17 q16 (q18 _ (aW h33))) (fC q17 q16 (q18 _ (aW h33))) (aI h35).1 (aI h35).2.1) zU2,d0 (lA (k:=4) (5+v32) rfl (jL 5 rfl q17 q16 (q18 _ (aW h33))) h35 rfl (.agg tyA42) rfl) zU1,d0 (fQ 1 4 rfl rfl rfl rfl (.agg tyA42)) zU1,d0 (bJ rfl h37 rfl) zU2,d0 (aP (.inl rfl)) zU1,d0 (oH rfl) zU1,d0 (iF (off:=0) (k:=1) rfl tyF72_1) zU1,d0 (fQ 2 1 rfl rfl rfl rfl (.one tyO23)) zU1,d0 (aP (.inl rfl)) zU1,d0 (iC (C:=(cH g14)) 3 rfl tyS23 rfl q7 (aI h39).1 (aI h39).2.1) zU2,d0 (lA (C:=(cH g14)) (k:=1) 3 rfl rfl h39 rfl (.one tyO24) rfl) zU1,d0 (aP (.inl rfl)) zU1,d0 (iC (5+v38) rfl tyS24 (jL 5 rfl q17 q16 (q18 _ (aW h39))) (fC q17 q16 (q18 _ (aW h39))) (aI h41).1 (aI h41).2.1) zU2,d0 (lA (k:=4) (5+v38) rfl (jL 5 rfl q17 q16 (q18 _ (aW h39))) h41 rfl (.agg tyA42) rfl) zU1,d0 (fQ 0 4 rfl rfl rfl rfl (.agg tyA42)) zU1,d0 (bJ rfl h43 rfl) zU2,d0 (bJ rfl h45 rfl) zU2,d0 (aP (.inr rfl)) zU1,trivial⟩ (fun bs31 G30=>?_)
   refine go ?_ ?_
   refine aD hF rfl (fun h46 hF=>?_) (fun h46 hF=>?_)
   ·refine go ?_ ?_
    refine gL (gN ?_)
    obtain rfl:=jN hF
    obtain rfl:=jN hRl24
    exact iE (.inl rfl) Tryz.results48 (.tmp rfl .nil) rfl 5 [2,3,4] rfl rfl (by decide) ⟨rfl,rfl⟩
   obtain⟨v47,h48,hF⟩:=aR hF
   refine go ?_ ?_
   exact aG (fun a w hh=>⟨v47,hF,aS 5 [0,1,2,3,4] rfl rfl (by decide) (by exact⟨rfl,rfl,rfl,rfl,rfl,rfl,trivial⟩) hh⟩)
  refine go ?_ ?_
  refine aD hF rfl (fun h49 hF=>?_) (fun h49 hF=>?_)
  ·refine aJ (gF ?_)
   refine aF (oH rfl) zU1 ?_
   refine aF (iF (off:=0) (k:=0) rfl tyF72_0) zU1 ?_
   refine aF (fQ 2 1 rfl rfl rfl rfl (.one tyO3)) zU1 ?_
   obtain⟨v50,h51,hF⟩:=aR hF
   refine aF (aCI rfl h51) ⟨oF _ _,rfl,trivial⟩ ?_
   obtain⟨v52,h53,hF⟩:=aR hF
   refine aF (wG rfl h53) ⟨rfl,oF _ _,trivial⟩ ?_
   refine wU ?_
   refine aV ?_
   exact fY Jj29 ⟨v52,hF,rfl,rfl⟩ 5 [0,1,2,3,4] rfl rfl ⟨rfl,rfl,rfl,rfl,rfl,rfl,rfl,trivial⟩
  refine f7 ?_
  exact fY Jj29 ⟨x23,hF,rfl,rfl⟩ 5 [0,1,2,3,4] rfl rfl ⟨rfl,rfl,rfl,rfl,rfl,rfl,rfl,trivial⟩
 refine bO ?_
 obtain rfl:=jN hF
 exact fY Jj25 ⟨hRl24,rfl,rfl⟩ 5 [2,3,4] rfl rfl trivial
def f8 (K:Nat) (a0:Int) (a1:Int) (a4:List Int) (x57:List Nat) (x71:List (List Rat)):Option (Int×(List Nat)×(List Int)×(List (List Rat))):=
 (bP a4 a0).bind fun v77=>(bP a4 a0).bind fun v79=>(oK a4 a0 a1).bind fun x81=>some (v77,x57,x81,x71)
def fW (K:Nat) (x70:Int) (recl75:(List (List Rat))→Int→Option (List (List Rat))) (x108:List (List Rat)):Option (List (List Rat)):=
 (aO (x70+1)).bind fun v114=>recl75 x108 v114
def bS (K:Nat) (a5:List (List Rat)) (x66:List (List Rat)) (v85:Nat) (v87:Rat):Nat→(List (List Rat))→Int→Option (List (List Rat))
 |0,_,_=>none
 |k+1,x103,x107=>bif(decide (x107<((x66.getD v85 []).length:Int))) then((bP (x103.getD v85 []) x107).bind fun v119=>(bP (x103.getD a5.length []) x107).bind fun v121=>(aCc v87 v121).bind fun v123=>(aEj v119 v123).bind fun v125=>(bP (x103.getD v85 []) x107).bind fun v127=>(oK (x103.getD v85 []) x107 v125).bind fun x129=>(aO (x107+1)).bind fun v132=>bS K a5 x66 v85 v87 k (x103.set v85 x129) v132) else(some x103)
def aU (K:Nat) (a0:Int) (a1:Int) (a5:List (List Rat)) (x57:List Nat):Nat→(List (List Rat))→Int→Option (List (List Rat))
 |0,_,_=>none
 |k+1,x66,x70=>bif(decide (x70<(x57.length:Int))) then((bP x57 x70).bind fun v85=>(bP (x66.getD v85 []) a1).bind fun v87=>bif(x70==a0) then((aO (x70+1)).bind fun v91=>aU K a0 a1 a5 x57 k x66 v91) else((wD v87).bind fun v93=>bif(v93==0) then((aO (x70+1)).bind fun v96=>aU K a0 a1 a5 x57 k x66 v96) else((bS K a5 x66 v85 v87 K x66 0).bind fun x108=>fW K x70 (aU K a0 a1 a5 x57 k) x108))) else(some x66)
def f9 (K:Nat) (a0:Int) (a1:Int) (a3:List Nat) (a4:List Int) (a5:List (List Rat)) (x47:List Rat):Option (Int×(List Nat)×(List Int)×(List (List Rat))):=
 (bP a3 a0).bind fun v55=>(oK a3 a0 a5.length).bind fun x57=>(aU K a0 a1 a5 x57 K (a5++[x47]) 0).bind fun x71=>f8 K a0 a1 a4 x57 x71
def bX (K:Nat) (a5:List (List Rat)) (x22:List Rat) (v27:Nat) (v30:Rat):Nat→(List Rat)→Int→Option (List Rat)
 |0,_,_=>none
 |k+1,x40,x46=>bif(decide (x46<((cpL x22 (a5.getD v27 [])).length:Int))) then((bP x40 x46).bind fun v137=>(aCe v137 v30).bind fun v139=>(bP x40 x46).bind fun v141=>(oK x40 x46 v139).bind fun x143=>(aO (x46+1)).bind fun v146=>bX K a5 x22 v27 v30 k x143 v146) else(some x40)
def fR (K:Nat) (a0:Int) (a1:Int) (a2:Int) (a3:List Nat) (a4:List Int) (a5:List (List Rat)):Option (Int×(List Nat)×(List Int)×(List (List Rat))):=
 (bP a3 a0).bind fun v20=>(wK ((a5.getD v20 []).length:Int) 0).bind fun x22=>(bP a3 a0).bind fun v27=>(bP (cpL x22 (a5.getD v27 [])) a1).bind fun v30=>(bX K a5 x22 v27 v30 K (cpL x22 (a5.getD v27 [])) 0).bind fun x47=>f9 K a0 a1 a3 a4 a5 x47
theorem tX {K:Nat} {a0:Int} {a1:Int} {a2:Int} {a3:List Nat} {a4:List Int} {a5:List (List Rat)} {r:Int×(List Nat)×(List Int)×(List (List Rat))} (hF:fR K a0 a1 a2 a3 a4 a5=some r) {p0:Nat} {b4:Option Nat} {c5 n6:Nat} {b9:Option Nat} {c10 n11:Nat} {g14:List q0} {N15:Nat} (q7:a3.length=n6) (q12:a4.length=n11) (q16:a5.length=N15) (q17:eF g14 a5) (q18:∀k∈a3,k<N15):yU Tryz.prog 49 ([⟨some p0,1,72,3,1,([pI .i64 a2]++[pO b4 n6 c5]++[pO b9 n11 c10])⟩,hO (cH g14) b4 c5 24 n6 a3,hO cI b9 c10 3 n11 a4]++fP cQ 42 g14 a5) [.vc (pP (some p0) 0),.vc (pI .i64 a0),.vc (pI .i64 a1)] (fun Ho q=>∃b1148 c1149 n1150 g1155 N1156,r.2.1.length=n1150∧r.2.2.1.length=n11∧r.2.2.2.length=N1156∧eF g1155 r.2.2.2∧(∀k∈r.2.1,k<N1156)∧Ho=([⟨some p0,1,72,3,1,([pI .i64 a2]++[pO b1148 n1150 c1149]++[pO b9 n11 c10])⟩,hO (cH g1155) b1148 c1149 24 n1150 r.2.1,hO cI b9 c10 3 n11 r.2.2.1]++fP cQ 42 g1155 r.2.2.2)∧q=.vc (pI .i64 r.1)):=by
 unfold fR at hF
 refine aB Tryz.func49 rfl (by kernel_rfl) Tryz.ntmps49 rfl (fun w0 M0=>?_)
 obtain⟨v20,h21,hF⟩:=aR hF
 refine go ?_ ?_
 refine aF (aAP (C:=cQ) (xs:=(a5.getD v20 [])) (T:=42) rfl tyS24 (fC q17 q16 (q18 _ (aW h21)))) zU1 ?_
 obtain⟨x22,h23,hF⟩:=aR hF
 refine o8 (C:=cQ) rfl tyS24 rfl tyZ42q rfl h23 (fun b24=>?_)
 have hF:=sR h21 hF
 refine go ?_ ?_
 refine aF (aNV 0 (4+v20) rfl tyS24 rfl rfl (rU 4 rfl q17 q16 (q18 _ (aW h21))) (fC q17 q16 (q18 _ (aW h21))) rfl) zU2 ?_
 obtain⟨v30,h31,hF⟩:=aR hF
 refine go ?_ ?_
 refine aF (iC (C:=cQ) 0 rfl tyS24 rfl (aAT rfl) (aI h31).1 (aI h31).2.1) zU2 ?_
 refine aF (lA (k:=4) 0 rfl rfl h31 rfl (.agg tyA42) rfl) zU1 ?_
 refine aE rfl tyZ42q (fun b32=>?_)
 refine go ?_ ?_
 refine aF (aAP (C:=cQ) (xs:=(cpL x22 (a5.getD v20 []))) (T:=42) rfl tyS24 (aAT rfl)) zU1 ?_
 refine go ?_ ?_
 refine aK (bE (fun H E=>∃(x47:List Rat),f9 K a0 a1 a3 a4 a5 x47=some r∧x47.length=x22.length∧H=([hO cQ b24 x22.length 42 x22.length x47,⟨some p0,1,72,3,1,([pI .i64 a2]++[pO b4 n6 c5]++[pO b9 n11 c10])⟩,hO (cH g14) b4 c5 24 n6 a3,hO cI b9 c10 3 n11 a4]++fP cQ 42 g14 a5)∧E=[(0,.vc (pP (some p0) 0)),(1,.vc (pI .i64 a0)),(2,.vc (pI .i64 a1)),(7,.vc (pO b24 x22.length x22.length))]) ?_ (fun Jj54=>?_))
 ·rintro _ _ ⟨x47,hF,q51,rfl,rfl⟩
  unfold f9 at hF
  refine aH (aC (aJ (gF ?_)))
  refine aF (oH rfl) zU1 ?_
  refine aF (iF (off:=0) (k:=1) rfl tyF72_1) zU1 ?_
  refine aF (fQ 1 1 rfl rfl rfl rfl (.one tyO23)) zU1 ?_
  refine gF ?_
  refine gF ?_
  have hF:=sR h21 hF
  refine aF (iC (C:=(cH g14)) 2 rfl tyS23 rfl q7 (aI h21).1 (aI h21).2.1) zU2 ?_
  obtain⟨x57,h58,hF⟩:=aR hF
  refine aNA (show([hO cQ b24 x22.length 42 x22.length x47,⟨some p0,1,72,3,1,([pI .i64 a2]++[pO b4 n6 c5]++[pO b9 n11 c10])⟩,hO (cH (g14++[(b24,x22.length,x22.length)])) b4 c5 24 n6 a3,hO cI b9 c10 3 n11 a4]++fP cQ 42 g14 a5)=([hO cQ b24 x22.length 42 x22.length x47,⟨some p0,1,72,3,1,([pI .i64 a2]++[pO b4 n6 c5]++[pO b9 n11 c10])⟩,hO (cH g14) b4 c5 24 n6 a3,hO cI b9 c10 3 n11 a4]++fP cQ 42 g14 a5) from by rw [aFR (N:=a5.length) (b24,x22.length,x22.length) q17.1 (aFY q16 q18)]) ?_
  refine lW (xE (C:=cH (g14++[(b24,x22.length,x22.length)])) (z':=a5.length) 2 rfl rfl h21 h58 tyO24.s (hq:=aJa (b24,x22.length,x22.length) q17.1)) zU2 ?_
  refine aFD (g:=(b24,x22.length,x22.length)) 0 4 rfl rfl rfl q17 ?_
  refine aLS 7 rfl (aIJ (N:=a5.length) (b24,x22.length,x22.length) q17.1) ?_
  refine go ?_ ?_
  refine aK (bE (fun H E=>∃(x71:List (List Rat)),f8 K a0 a1 a4 x57 x71=some r∧x71.length=(N15+1)∧eF (g14++[(b24,x22.length,x22.length)]) x71∧H=([⟨some p0,1,72,3,1,([pI .i64 a2]++[pO b4 n6 c5]++[pO b9 n11 c10])⟩,hO (cH (g14++[(b24,x22.length,x22.length)])) b4 c5 24 n6 x57,hO cI b9 c10 3 n11 a4]++fP cQ 42 (g14++[(b24,x22.length,x22.length)]) x71)∧E=[(0,.vc (pP (some p0) 0)),(1,.vc (pI .i64 a0)),(2,.vc (pI .i64 a1))]) ?_ (fun Jj76=>?_))
  ·rintro _ _ ⟨x71,hF,q72,q73,rfl,rfl⟩
   unfold f8 at hF
   obtain⟨v77,h78,hF⟩:=aR hF
   have hF:=sR h78 hF
   obtain⟨x81,h82,hF⟩:=aR hF
   refine go ?_ ?_
   refine gL (gN ?_)
   obtain rfl:=jN hF
   exact iE (.inl rfl) Tryz.results49 (.tmp rfl .nil) rfl 3 [0,1,2] rfl rfl (by decide) ⟨b4,c5,n6,(g14++[(b24,x22.length,x22.length)]),(N15+1),(bH h58 q7),(bH h82 q12),q72,q73,(rQ q18 h58 q16),rfl,rfl⟩
  obtain⟨x71',hL,hRl75⟩:=aR hF
  refine fO (fun k a w=>∃(x66:List (List Rat)),∃(x70:Int),aU K a0 a1 a5 x57 k x66 x70=some x71'∧x66.length=(N15+1)∧eF (g14++[(b24,x22.length,x22.length)]) x66∧hs _ ([⟨some p0,1,72,3,1,([pI .i64 a2]++[pO b4 n6 c5]++[pO b9 n11 c10])⟩,hO (cH (g14++[(b24,x22.length,x22.length)])) b4 c5 24 n6 x57,hO cI b9 c10 3 n11 a4]++fP cQ 42 (g14++[(b24,x22.length,x22.length)]) x66) [(0,.vc (pP (some p0) 0)),(1,.vc (pI .i64 a0)),(2,.vc (pI .i64 a1)),(7,.vc (pO (iG (g14++[(b24,x22.length,x22.length)]) a5.length).1 (iG (g14++[(b24,x22.length,x22.length)]) a5.length).2.1 (iG (g14++[(b24,x22.length,x22.length)]) a5.length).2.2)),(62,.vc (pO b4 n6 c5)),(63,.vc (pI .i64 (x57.length:Int))),(64,.vc (pI .i64 x70))] a w) K (fun a w ⟨_,_,hF,_,_,_⟩=>by cases hF) (fun k a w ⟨x66,x70,hF,q67,q68,hh⟩=>fN ?_ hh) (fun a w hh=>⟨(a5++[x47]),0,hL,(aCO q16),(aAy q17 q51),aS 3 [0,1,2] rfl rfl (by decide) (by exact⟨rfl,rfl,rfl,rfl,rfl,rfl,rfl,trivial⟩) hh⟩)
  rw [aU.eq_2] at hF
  refine go ?_ ?_
  refine aD hF rfl (fun h84 hF=>?_) (fun h84 hF=>?_)
  ·refine go ?_ ?_
   refine aK ?_
   obtain⟨v85,h86,v87,h88,hF⟩:=sS hF
   refine go ?_ ?_
   refine aF (iC (3+v85) rfl tyS24 (rU 3 rfl q68 q67 ((rQ q18 h58 q16) _ (aW h86))) (fC q68 q67 ((rQ q18 h58 q16) _ (aW h86))) (aI h88).1 (aI h88).2.1) zU2 ?_
   refine aF (lA (k:=4) (3+v85) rfl (rU 3 rfl q68 q67 ((rQ q18 h58 q16) _ (aW h86))) h88 rfl (.agg tyA42) rfl) zU1 ?_
   refine aE rfl tyZ42q (fun b89=>?_)
   refine go ?_ ?_
   refine dG hF (fun h90 hF=>?_) (fun h90 hF=>?_)
   ·refine go ?_ ?_
    refine iR rfl ?_
    refine bO ?_
    obtain⟨v91,h92,hF⟩:=aR hF
    refine go ?_ ?_
    exact aG (fun a w hh=>⟨x66,v91,hF,q67,q68,aS 4 [1,2,3] rfl rfl (by decide) (by exact⟨rfl,rfl,rfl,rfl,rfl,rfl,rfl,trivial⟩) hh⟩)
   obtain⟨v93,h94,hF⟩:=aZ hF fT
   refine go ?_ ?_
   refine aD hF rfl (fun h95 hF=>?_) (fun h95 hF=>?_)
   ·refine bO ?_
    obtain⟨v96,h97,hF⟩:=aR hF
    refine go ?_ ?_
    exact aG (fun a w hh=>⟨x66,v96,hF,q67,q68,aS 4 [1,2,3] rfl rfl (by decide) (by exact⟨rfl,rfl,rfl,rfl,rfl,rfl,rfl,trivial⟩) hh⟩)
   refine go ?_ ?_
   refine aF (aAP (C:=cQ) (xs:=(x66.getD v85 [])) (T:=42) rfl tyS24 (fC q68 q67 ((rQ q18 h58 q16) _ (aW h86)))) zU1 ?_
   refine go ?_ ?_
   refine aK (bE (fun H E=>∃(x108:List (List Rat)),fW K x70 (aU K a0 a1 a5 x57 k) x108=some x71'∧x108.length=(N15+1)∧eF (g14++[(b24,x22.length,x22.length)]) x108∧H=([⟨some p0,1,72,3,1,([pI .i64 a2]++[pO b4 n6 c5]++[pO b9 n11 c10])⟩,hO (cH (g14++[(b24,x22.length,x22.length)])) b4 c5 24 n6 x57,hO cI b9 c10 3 n11 a4]++fP cQ 42 (g14++[(b24,x22.length,x22.length)]) x108)∧E=[(0,.vc (pP (some p0) 0)),(1,.vc (pI .i64 a0)),(2,.vc (pI .i64 a1)),(7,.vc (pO (iG (g14++[(b24,x22.length,x22.length)]) a5.length).1 (iG (g14++[(b24,x22.length,x22.length)]) a5.length).2.1 (iG (g14++[(b24,x22.length,x22.length)]) a5.length).2.2)),(62,.vc (pO b4 n6 c5)),(63,.vc (pI .i64 (x57.length:Int))),(64,.vc (pI .i64 x70)),(77,.va (eQ v87)),(78,.vc (pI .i64 v93)),(79,.vc (pB (v93==0)))]) ?_ (fun Jj113=>?_))
   ·rintro _ _ ⟨x108,hF,q109,q110,rfl,rfl⟩
    unfold fW at hF
    obtain⟨v114,h115,hF⟩:=aR hF
    refine go ?_ ?_
    exact aG (fun a w hh=>⟨x108,v114,hF,q109,q110,aS 3 [0,1,2] rfl rfl (by decide) (by exact⟨rfl,rfl,rfl,rfl,rfl,rfl,rfl,trivial⟩) hh⟩)
   obtain⟨x108',hL,hRl112⟩:=aR hF
   refine fO (fun k a w=>∃(x103:List (List Rat)),∃(x107:Int),bS K a5 x66 v85 v87 k x103 x107=some x108'∧x103.length=(N15+1)∧eF (g14++[(b24,x22.length,x22.length)]) x103∧hs _ ([⟨some b89,1,42,4,1,(eQ v87)⟩,⟨some p0,1,72,3,1,([pI .i64 a2]++[pO b4 n6 c5]++[pO b9 n11 c10])⟩,hO (cH (g14++[(b24,x22.length,x22.length)])) b4 c5 24 n6 x57,hO cI b9 c10 3 n11 a4]++fP cQ 42 (g14++[(b24,x22.length,x22.length)]) x103) [(0,.vc (pP (some p0) 0)),(1,.vc (pI .i64 a0)),(2,.vc (pI .i64 a1)),(7,.vc (pO (iG (g14++[(b24,x22.length,x22.length)]) a5.length).1 (iG (g14++[(b24,x22.length,x22.length)]) a5.length).2.1 (iG (g14++[(b24,x22.length,x22.length)]) a5.length).2.2)),(11,.vc (pO (iG (g14++[(b24,x22.length,x22.length)]) v85).1 (iG (g14++[(b24,x22.length,x22.length)]) v85).2.1 (iG (g14++[(b24,x22.length,x22.length)]) v85).2.2)),(12,.vc (pP (some b89) 0)),(62,.vc (pO b4 n6 c5)),(63,.vc (pI .i64 (x57.length:Int))),(64,.vc (pI .i64 x70)),(77,.va (eQ v87)),(78,.vc (pI .i64 v93)),(79,.vc (pB (v93==0))),(82,.vc (pI .i64 ((x66.getD v85 []).length:Int))),(83,.vc (pI .i64 x107))] a w) K (fun a w ⟨_,_,hF,_,_,_⟩=>by cases hF) (fun k a w ⟨x103,x107,hF,q104,q105,hh⟩=>fN ?_ hh) (fun a w hh=>⟨x66,0,hL,q67,q68,aS 4 [0,1,2,3] rfl rfl (by decide) (by exact⟨rfl,rfl,rfl,rfl,rfl,rfl,rfl,rfl,rfl,rfl,rfl,rfl,rfl,rfl,trivial⟩) hh⟩)
   rw [bS.eq_2] at hF
   refine go ?_ ?_
   refine aD hF rfl (fun h116 hF=>?_) (fun h116 hF=>?_)
   ·refine go ?_ ?_
    refine aK ?_
    obtain⟨v119,h120,v121,h122,hF⟩:=sS hF
    obtain⟨v123,h124,hF⟩:=aZ hF vS
    obtain⟨v125,h126,hF⟩:=aZ hF vH
    have hF:=sR h120 hF
    refine go ?_ ?_
    refine jI [0,0,0,0,12,28,0,0,0,384,896,1984,4092,8191,16383] 14 1 [.v (.vc (pO (iG (g14++[(b24,x22.length,x22.length)]) v85).1 (iG (g14++[(b24,x22.length,x22.length)]) v85).2.1 (iG (g14++[(b24,x22.length,x22.length)]) v85).2.2)),.v (.vc (pI .i64 x107)),.v (.vc (pO (iG (g14++[(b24,x22.length,x22.length)]) v85).1 (iG (g14++[(b24,x22.length,x22.length)]) v85).2.1 (iG (g14++[(b24,x22.length,x22.length)]) v85).2.2)),.v (.vc (pI .i64 x107)),.v (.vc (pE (iG (g14++[(b24,x22.length,x22.length)]) v85).1 x107 cQ.n 0)),.v (.va (eQ v119)),.v (.va (eQ v87)),.v (.vc (pO (iG (g14++[(b24,x22.length,x22.length)]) a5.length).1 (iG (g14++[(b24,x22.length,x22.length)]) a5.length).2.1 (iG (g14++[(b24,x22.length,x22.length)]) a5.length).2.2)),.v (.vc (pI .i64 x107)),.v (.vc (pE (iG (g14++[(b24,x22.length,x22.length)]) a5.length).1 x107 cQ.n 0)),.v (.va (eQ v121)),.v (.va (eQ v123)),.v (.va (eQ v125)),.v (.vc (pE (iG (g14++[(b24,x22.length,x22.length)]) v85).1 x107 cQ.n 0))] bB ⟨d0 (aP (.inl rfl)) zU1,d0 (aP (.inl rfl)) zU1,d0 (aP (.inl rfl)) zU1,d0 (aP (.inl rfl)) zU1,d0 (iC (4+v85) rfl tyS24 (jL 4 rfl q105 q104 ((rQ q18 h58 q16) _ (aW h86))) (fC q105 q104 ((rQ q18 h58 q16) _ (aW h86))) (aI h120).1 (aI h120).2.1) zU2,d0 (lA (k:=4) (4+v85) rfl (jL 4 rfl q105 q104 ((rQ q18 h58 q16) _ (aW h86))) h120 rfl (.agg tyA42) rfl) zU1,d0 (fQ 0 4 rfl rfl rfl rfl (.agg tyA42)) zU1,d0 (aP (.inl rfl)) zU1,d0 (aP (.inl rfl)) zU1,d0 (iC (4+a5.length) rfl tyS24 (jL 4 rfl q105 q104 (aEC q16)) (fC q105 q104 (aEC q16)) (aI h122).1 (aI h122).2.1) zU2,d0 (lA (k:=4) (4+a5.length) rfl (jL 4 rfl q105 q104 (aEC q16)) h122 rfl (.agg tyA42) rfl) zU1,d0 (bJ rfl h124 rfl) zU2,d0 (bJ rfl h126 rfl) zU2,d0 (iC (4+v85) rfl tyS24 (jL 4 rfl q105 q104 ((rQ q18 h58 q16) _ (aW h86))) (fC q105 q104 ((rQ q18 h58 q16) _ (aW h86))) (aI h120).1 (aI h120).2.1) zU2,trivial⟩ (fun bs118 G117=>?_)
    obtain⟨x129,h130,hF⟩:=aR hF
    refine lW (xE (H':=([⟨some b89,1,42,4,1,(eQ v87)⟩,⟨some p0,1,72,3,1,([pI .i64 a2]++[pO b4 n6 c5]++[pO b9 n11 c10])⟩,hO (cH (g14++[(b24,x22.length,x22.length)])) b4 c5 24 n6 x57,hO cI b9 c10 3 n11 a4]++fP cQ 42 (g14++[(b24,x22.length,x22.length)]) (x103.set v85 x129))) (4+v85) rfl (rU 4 rfl q105 q104 ((rQ q18 h58 q16) _ (aW h86))) h120 h130 tyA42.s (hH:=stN 4 rfl q105 q104 ((rQ q18 h58 q16) _ (aW h86)))) zU2 ?_
    obtain⟨v132,h133,hF⟩:=aR hF
    refine go ?_ ?_
    exact aG (fun a w hh=>⟨(x103.set v85 x129),v132,hF,(aEz q104),(aF0 q105 q104 ((rQ q18 h58 q16) _ (aW h86)) (bH h130 rfl)),aS 4 [0,1,2,3] rfl rfl (by decide) (by exact⟨rfl,rfl,rfl,rfl,rfl,rfl,rfl,rfl,rfl,rfl,rfl,rfl,rfl,rfl,trivial⟩) hh⟩)
   refine bO ?_
   obtain rfl:=jN hF
   exact fY Jj113 ⟨x103,hRl112,q104,q105,rfl,rfl⟩ 4 [1,2,3] rfl rfl ⟨rfl,rfl,rfl,rfl,rfl,rfl,rfl,rfl,rfl,rfl,trivial⟩
  refine bO ?_
  obtain rfl:=jN hF
  exact fY Jj76 ⟨x66,hRl75,q67,q68,rfl,rfl⟩ 3 [0,1,2] rfl rfl ⟨rfl,rfl,rfl,trivial⟩
 obtain⟨x47',hL,hRl53⟩:=aR hF
 refine fO (fun k a w=>∃(x40:List Rat),∃(x46:Int),bX K a5 x22 v20 v30 k x40 x46=some x47'∧x40.length=x22.length∧hs _ ([⟨some b32,1,42,4,1,(eQ v30)⟩,hO cQ b24 x22.length 42 x22.length x40,⟨some p0,1,72,3,1,([pI .i64 a2]++[pO b4 n6 c5]++[pO b9 n11 c10])⟩,hO (cH g14) b4 c5 24 n6 a3,hO cI b9 c10 3 n11 a4]++fP cQ 42 g14 a5) [(0,.vc (pP (some p0) 0)),(1,.vc (pI .i64 a0)),(2,.vc (pI .i64 a1)),(7,.vc (pO b24 x22.length x22.length)),(8,.vc (pP (some b32) 0)),(38,.vc (pI .i64 ((cpL x22 (a5.getD v20 [])).length:Int))),(39,.vc (pI .i64 x46))] a w) K (fun a w ⟨_,_,hF,_,_⟩=>by cases hF) (fun k a w ⟨x40,x46,hF,q44,hh⟩=>fN ?_ hh) (fun a w hh=>⟨(cpL x22 (a5.getD v20 [])),0,hL,(aAT rfl),aS 5 [0,1,2,3,4] rfl rfl (by decide) (by exact⟨rfl,rfl,rfl,rfl,rfl,rfl,rfl,trivial⟩) hh⟩)
 rw [bX.eq_2] at hF
 refine go ?_ ?_
 refine aD hF rfl (fun h134 hF=>?_) (fun h134 hF=>?_)
 ·refine go ?_ ?_
  refine aK ?_
  obtain⟨v137,h138,hF⟩:=aR hF
  obtain⟨v139,h140,hF⟩:=aZ hF vG
  have hF:=sR h138 hF
  refine go ?_ ?_
  refine dr [0,0,0,0,12,28,0,124,255,511] 9 1 ?_ (fun bs136 G135=>?_)
  obtain⟨x143,h144,v146,h147,hF⟩:=sS hF
  refine go ?_ ?_
  exact aG (fun a w hh=>⟨x143,v146,hF,(bH h144 q44),aS 5 [0,1,2,3,4] rfl rfl (by decide) (by exact⟨rfl,rfl,rfl,rfl,rfl,rfl,rfl,trivial⟩) hh⟩)
 refine bO ?_
 obtain rfl:=jN hF
 exact fY Jj54 ⟨x40,hRl53,q44,rfl,rfl⟩ 5 [1,2,3,4] rfl rfl ⟨rfl,rfl,rfl,rfl,trivial⟩
def pN (K:Nat):Option (aM×Int):=
 none
def mC (K:Nat) (x86:Int) (v90:Int×(List Nat)×(List Int)×(List (List Rat))) (x116:Int) (recl87:(List Nat)→(List Int)→(List (List Rat))→Int→Int→Int→Option (LR (aM×Int) Unit)) (x122:Int):Option (LR (aM×Int) Unit):=
 bif(decide (x122<0)) then(some (.ret ((⟨([]:List Rat),([]:List Rat),0⟩:aM),15))) else((aO (x86+1)).bind fun v126=>recl87 v90.2.1 v90.2.2.1 v90.2.2.2 x122 x116 v126)
def cG (K:Nat) (v6:Int×(List Nat)×(List Int)×(List (List Rat))) (v90:Int×(List Nat)×(List Int)×(List (List Rat))) (x116:Int):Nat→Int→Int→Option Int
 |0,_,_=>none
 |k+1,x120,x121=>bif(decide (x121<(v90.2.1.length:Int))) then((bP v90.2.1 x121).bind fun v129=>(bP (v90.2.2.2.getD v129 []) x116).bind fun v133=>(wD v133).bind fun v135=>bif(decide (0<v135)) then(bif(decide (x120<0)) then((aO (x121+1)).bind fun v139=>cG K v6 v90 x116 k x121 v139) else((bP (v90.2.2.2.getD v129 []) x116).bind fun v141=>(bP v90.2.1 x120).bind fun v143=>(bP (v90.2.2.2.getD v143 []) x116).bind fun v145=>(cZ K x121 v141 x120 v145 v6.1 v90.2.1 v90.2.2.1 v90.2.2.2).bind fun v147=>bif v147 then((aO (x121+1)).bind fun v150=>cG K v6 v90 x116 k x121 v150) else((aO (x121+1)).bind fun v152=>cG K v6 v90 x116 k x120 v152))) else((aO (x121+1)).bind fun v154=>cG K v6 v90 x116 k x120 v154)) else(some x120)
def gQ (K:Nat) (v6:Int×(List Nat)×(List Int)×(List (List Rat))) (x86:Int) (v90:Int×(List Nat)×(List Int)×(List (List Rat))) (recl87:(List Nat)→(List Int)→(List (List Rat))→Int→Int→Int→Option (LR (aM×Int) Unit)) (x116:Int):Option (LR (aM×Int) Unit):=
 (cG K v6 v90 x116 K (-1) 0).bind fun x122=>mC K x86 v90 x116 recl87 x122
def bZ (K:Nat) (a2:Int) (v6:Int×(List Nat)×(List Int)×(List (List Rat))):Nat→(List Nat)→(List Int)→(List (List Rat))→Int→Int→Int→Option (LR (aM×Int) Unit)
 |0,_,_,_,_,_,_=>none
 |k+1,x66,x72,x78,x84,x85,x86=>bif(x86==a2) then(some (.ret ((⟨([]:List Rat),([]:List Rat),0⟩:aM),16))) else((fR K x84 x85 v6.1 x66 x72 x78).bind fun v90=>(aO (2*v6.1)).bind fun v105=>bif(v90.1==v105) then((dM K v6.1 v90.2.1 v90.2.2.1 v90.2.2.2).bind fun v108=>(aO (x86+1)).bind fun v111=>some (.ret ((⟨v108.z,v108.w,v111⟩:aM),0))) else((aO (v90.1+v6.1)).bind fun v113=>bif(decide (v6.1≤v90.1)) then((aO (v90.1-v6.1)).bind fun v157=>gQ K v6 x86 v90 (bZ K a2 v6 k) v157) else(gQ K v6 x86 v90 (bZ K a2 v6 k) v113)))
def mY (K:Nat) (a2:Int) (v6:Int×(List Nat)×(List Int)×(List (List Rat))) (x40:Int):Option (aM×Int):=
 (aO (2*v6.1)).bind fun v43=>(bZ K a2 v6 K v6.2.1 v6.2.2.1 v6.2.2.2 x40 v43 0).bind fun o=>match o with| .ret r=>some r| .go _=>pN K
def eK (K:Nat) (v6:Int×(List Nat)×(List Int)×(List (List Rat))) (v33:Rat):Nat→Int→Int→Option Int
 |0,_,_=>none
 |k+1,x38,x39=>bif(decide (x39<v6.1)) then((cZ K x39 v33 x38 v33 v6.1 v6.2.1 v6.2.2.1 v6.2.2.2).bind fun v160=>bif v160 then((aO (x39+1)).bind fun v163=>eK K v6 v33 k x39 v163) else((aO (x39+1)).bind fun v165=>eK K v6 v33 k x38 v165)) else(some x38)
def bU (K:Nat) (a0:List (List Rat)) (a1:List Rat) (a2:Int):Option (aM×Int):=
 (g8 K a0 a1).bind fun v2=>bif(!v2) then(some ((⟨([]:List Rat),([]:List Rat),0⟩:aM),1)) else(bif(decide (a2<0)) then(some ((⟨([]:List Rat),([]:List Rat),0⟩:aM),1)) else((k5 K a0 a1).bind fun v6=>(fA K a1).bind fun v28=>bif(!v28) then((dM K v6.1 v6.2.1 v6.2.2.1 v6.2.2.2).bind fun v31=>some (v31,0)) else((yN 1 1).bind fun v33=>(eK K v6 v33 K 0 0).bind fun x40=>mY K a2 v6 x40)))
theorem fB {K:Nat} {a0:List (List Rat)} {a1:List Rat} {a2:Int} {r:aM×Int} (hF:bU K a0 a1 a2=some r):Ct Tryz.prog 13 [.vc (pS (pC cQ) a0),.vc (pS cQ a1),.vc (pI .i64 a2)] (.t2 (.va (aM.enc r.1)) (.vc (pI .i64 r.2))):=by
 unfold bU at hF
 refine aB Tryz.func13 rfl (by kernel_rfl) Tryz.ntmps13 rfl (fun w0 M0=>?_)
 refine aC (aJ (aE rfl tyZ30q (fun b1=>?_)))
 obtain⟨v2,h3,hF⟩:=aZ hF oW
 refine go ?_ ?_
 refine dG hF (fun h4 hF=>?_) (fun h4 hF=>?_)
 ·refine go ?_ ?_
  refine iR rfl ?_
  refine aC (aJ (aF (fK (is:=[]) (xs:=[]) (ps:=[]) rfl tyB30q rfl rfl trivial rfl) trivial ?_))
  exact bV
 refine go ?_ ?_
 refine aD hF rfl (fun h5 hF=>?_) (fun h5 hF=>?_)
 ·refine aC (aJ (aF (fK (is:=[]) (xs:=[]) (ps:=[]) rfl tyB30q rfl rfl trivial rfl) trivial ?_))
  exact bV
 obtain⟨v6,h7,hF⟩:=aR hF
 refine go ?_ ?_
 refine aEk [] [0] rfl (xJ h7) zU2 rfl rfl (by decide) ?_
 rintro _ _ ⟨b8,b12,c13,n14,b17,c18,n19,g22,N23,q15,q20,q24,q25,q26,rfl,rfl⟩
 refine kE (gX [⟨some b8,1,72,3,1,([pI .i64 v6.1]++[pO b12 n14 c13]++[pO b17 n19 c18])⟩,hO (cH g22) b12 c13 24 n14 v6.2.1,hO cI b17 c18 3 n19 v6.2.2.1] (fP cQ 42 g22 v6.2.2.2) [⟨some b1,1,30,3,1,([pS cQ ([]:List Rat)]++[pS cQ ([]:List Rat)]++[pI .i64 0])⟩]) ?_
 obtain⟨v28,h29,hF⟩:=aZ hF mS
 refine go ?_ ?_
 refine aD hF rfl (fun h30 hF=>?_) (fun h30 hF=>?_)
 ·obtain⟨v31,h32,hF⟩:=aR hF
  refine go ?_ ?_
  refine lQ 4 [0,1,2] [3] rfl (oG h32 q15 q20 q24 q25 q26) zU1 rfl rfl rfl (by decide) ?_
  rintro _ _ ⟨rfl,rfl⟩
  refine kE (gX [⟨some b8,1,72,3,1,([pI .i64 v6.1]++[pO b12 n14 c13]++[pO b17 n19 c18])⟩,hO (cH g22) b12 c13 24 n14 v6.2.1,hO cI b17 c18 3 n19 v6.2.2.1] (fP cQ 42 g22 v6.2.2.2) [⟨some b1,1,30,3,1,([pS cQ ([]:List Rat)]++[pS cQ ([]:List Rat)]++[pI .i64 0])⟩]) ?_
  exact bV
 obtain⟨v33,h34,hF⟩:=aZ hF qG
 refine go ?_ ?_
 refine aE rfl tyZ42q (fun b35=>?_)
 refine go ?_ ?_
 refine aK (bE (fun H E=>∃(x40:Int),mY K a2 v6 x40=some r∧H=([⟨some b8,1,72,3,1,([pI .i64 v6.1]++[pO b12 n14 c13]++[pO b17 n19 c18])⟩,hO (cH g22) b12 c13 24 n14 v6.2.1,hO cI b17 c18 3 n19 v6.2.2.1,⟨some b1,1,30,3,1,([pS cQ ([]:List Rat)]++[pS cQ ([]:List Rat)]++[pI .i64 0])⟩]++fP cQ 42 g22 v6.2.2.2)∧E=[(2,.vc (pI .i64 a2)),(6,.vc (pP (some b1) 0)),(8,.vc (pP (some b8) 0)),(10,.vc (pI .i64 x40))]) ?_ (fun Jj42=>?_))
 ·rintro _ _ ⟨x40,hF,rfl,rfl⟩
  unfold mY at hF
  obtain⟨v43,h44,hF⟩:=aR hF
  refine go ?_ ?_
  refine aK (bE (fun H E=>pN K=some r∧H=[]∧E=[]) ?_ (fun Jj88=>?_))
  ·rintro _ _ ⟨hF,rfl,rfl⟩
   unfold pN at hF
   cases hF
  obtain⟨ol87,hL,hRl87⟩:=aR hF
  refine fO (fun k a w=>∃(x66:List Nat),∃(x72:List Int),∃(x78:List (List Rat)),∃(x84:Int),∃(x85:Int),∃(x86:Int),∃(b67:Option Nat),∃(c68:Nat),∃(n69:Nat),∃(g79:List q0),∃(N80:Nat),bZ K a2 v6 k x66 x72 x78 x84 x85 x86=some ol87∧x66.length=n69∧x72.length=n19∧x78.length=N80∧eF g79 x78∧(∀k∈x66,k<N80)∧hs _ ([⟨some b8,1,72,3,1,([pI .i64 v6.1]++[pO b67 n69 c68]++[pO b17 n19 c18])⟩,hO (cH g79) b67 c68 24 n69 x66,hO cI b17 c18 3 n19 x72,⟨some b1,1,30,3,1,([pS cQ ([]:List Rat)]++[pS cQ ([]:List Rat)]++[pI .i64 0])⟩]++fP cQ 42 g79 x78) [(2,.vc (pI .i64 a2)),(6,.vc (pP (some b1) 0)),(8,.vc (pP (some b8) 0)),(10,.vc (pI .i64 x84)),(12,.vc (pI .i64 x85)),(13,.vc (pI .i64 x86))] a w) K (fun a w ⟨_,_,_,_,_,_,_,_,_,_,_,hF,_,_,_,_,_,_⟩=>by cases hF) (fun k a w ⟨x66,x72,x78,x84,x85,x86,b67,c68,n69,g79,N80,hF,q70,q76,q81,q82,q83,hh⟩=>fN ?_ hh) (fun a w hh=>⟨v6.2.1,v6.2.2.1,v6.2.2.2,x40,v43,0,b12,c13,n14,g22,N23,hL,q15,q20,q24,q25,q26,aS 4 [0,1,2,3] rfl rfl (by decide) (by exact⟨rfl,rfl,rfl,rfl,rfl,rfl,trivial⟩) hh⟩)
  rw [bZ.eq_2] at hF
  refine aC (aK (go ?_ ?_))
  refine aD hF rfl (fun h89 hF=>?_) (fun h89 hF=>?_)
  ·refine aC (aJ (aF (fK (is:=[]) (xs:=[]) (ps:=[]) rfl tyB30q rfl rfl trivial rfl) trivial ?_))
   exact bV
  obtain⟨v90,h91,hF⟩:=aR hF
  refine go ?_ ?_
  refine lQ 4 [0,1,2] [3] rfl (tX h91 q70 q76 q81 q82 q83) ⟨rfl,rfl,rfl,trivial⟩ rfl rfl rfl (by decide) ?_
  rintro _ _ ⟨b92,c93,n94,g99,N100,q95,q97,q101,q102,q103,rfl,rfl⟩
  refine kE (gX [⟨some b8,1,72,3,1,([pI .i64 v6.1]++[pO b92 n94 c93]++[pO b17 n19 c18])⟩,hO (cH g99) b92 c93 24 n94 v90.2.1,hO cI b17 c18 3 n19 v90.2.2.1] (fP cQ 42 g99 v90.2.2.2) [⟨some b1,1,30,3,1,([pS cQ ([]:List Rat)]++[pS cQ ([]:List Rat)]++[pI .i64 0])⟩]) ?_
  have hF:=sR h44 hF
  refine go ?_ ?_
  refine aD hF rfl (fun h107 hF=>?_) (fun h107 hF=>?_)
  ·obtain⟨v108,h109,hF⟩:=aR hF
   refine go ?_ ?_
   refine lQ 4 [0,1,2] [3] rfl (oG h109 q95 q97 q101 q102 q103) zU1 rfl rfl rfl (by decide) ?_
   rintro _ _ ⟨rfl,rfl⟩
   refine kE (gX [⟨some b8,1,72,3,1,([pI .i64 v6.1]++[pO b92 n94 c93]++[pO b17 n19 c18])⟩,hO (cH g99) b92 c93 24 n94 v90.2.1,hO cI b17 c18 3 n19 v90.2.2.1] (fP cQ 42 g99 v90.2.2.2) [⟨some b1,1,30,3,1,([pS cQ ([]:List Rat)]++[pS cQ ([]:List Rat)]++[pI .i64 0])⟩]) ?_
   refine aE rfl tyZ30q (fun b110=>?_)
   obtain⟨v111,h112,hF⟩:=aR hF
   exact bV
  refine f7 (aH (aC (aJ (gF ?_))))
  refine gF ?_
  refine aF (oH rfl) zU1 ?_
  refine aF (iF (off:=0) (k:=0) rfl tyF72_0) zU1 ?_
  refine aF (fQ 0 1 rfl rfl rfl rfl (.one tyO3)) zU1 ?_
  obtain⟨v113,h114,hF⟩:=aR hF
  refine aF (wG rfl h114) zU2 ?_
  refine wU ?_
  refine aV (aH (aC (w4 (fun H E=>∃(x116:Int),gQ K v6 x86 v90 (bZ K a2 v6 k) x116=some ol87∧H=([⟨some b8,1,72,3,1,([pI .i64 v6.1]++[pO b92 n94 c93]++[pO b17 n19 c18])⟩,hO (cH g99) b92 c93 24 n94 v90.2.1,hO cI b17 c18 3 n19 v90.2.2.1,⟨some b1,1,30,3,1,([pS cQ ([]:List Rat)]++[pS cQ ([]:List Rat)]++[pI .i64 0])⟩]++fP cQ 42 g99 v90.2.2.2)∧E=[(2,.vc (pI .i64 a2)),(6,.vc (pP (some b1) 0)),(8,.vc (pP (some b8) 0)),(12,.vc (pI .i64 x116)),(13,.vc (pI .i64 x86))]) ?_ (fun Jj117=>?_))))
  ·rintro _ _ ⟨x116,hF,rfl,rfl⟩
   unfold gQ at hF
   refine go ?_ ?_
   refine aK (bE (fun H E=>∃(x122:Int),mC K x86 v90 x116 (bZ K a2 v6 k) x122=some ol87∧H=([⟨some b8,1,72,3,1,([pI .i64 v6.1]++[pO b92 n94 c93]++[pO b17 n19 c18])⟩,hO (cH g99) b92 c93 24 n94 v90.2.1,hO cI b17 c18 3 n19 v90.2.2.1,⟨some b1,1,30,3,1,([pS cQ ([]:List Rat)]++[pS cQ ([]:List Rat)]++[pI .i64 0])⟩]++fP cQ 42 g99 v90.2.2.2)∧E=[(2,.vc (pI .i64 a2)),(6,.vc (pP (some b1) 0)),(8,.vc (pP (some b8) 0)),(10,.vc (pI .i64 x122)),(12,.vc (pI .i64 x116)),(13,.vc (pI .i64 x86))]) ?_ (fun Jj124=>?_))
   ·rintro _ _ ⟨x122,hF,rfl,rfl⟩
    unfold mC at hF
    refine go ?_ ?_
    refine aD hF rfl (fun h125 hF=>?_) (fun h125 hF=>?_)
    ·refine aC (aJ (aF (fK (is:=[]) (xs:=[]) (ps:=[]) rfl tyB30q rfl rfl trivial rfl) trivial ?_))
     exact bV
    obtain⟨v126,h127,hF⟩:=aR hF
    refine go ?_ ?_
    exact aG (fun a w hh=>⟨v90.2.1,v90.2.2.1,v90.2.2.2,x122,x116,v126,b92,c93,n94,g99,N100,hF,q95,q97,q101,q102,q103,aS 4 [0,1,2,3] rfl rfl (by decide) (by exact⟨rfl,rfl,rfl,rfl,rfl,rfl,trivial⟩) hh⟩)
   obtain⟨x122',hL,hRl123⟩:=aR hF
   refine fO (fun k a w=>∃(x120:Int),∃(x121:Int),cG K v6 v90 x116 k x120 x121=some x122'∧hs _ ([⟨some b8,1,72,3,1,([pI .i64 v6.1]++[pO b92 n94 c93]++[pO b17 n19 c18])⟩,hO (cH g99) b92 c93 24 n94 v90.2.1,hO cI b17 c18 3 n19 v90.2.2.1,⟨some b1,1,30,3,1,([pS cQ ([]:List Rat)]++[pS cQ ([]:List Rat)]++[pI .i64 0])⟩]++fP cQ 42 g99 v90.2.2.2) [(2,.vc (pI .i64 a2)),(6,.vc (pP (some b1) 0)),(8,.vc (pP (some b8) 0)),(10,.vc (pI .i64 x120)),(12,.vc (pI .i64 x116)),(13,.vc (pI .i64 x86)),(100,.vc (pO b92 n94 c93)),(101,.vc (pI .i64 (v90.2.1.length:Int))),(102,.vc (pI .i64 x121))] a w) K (fun a w ⟨_,_,hF,_⟩=>by cases hF) (fun k a w ⟨x120,x121,hF,hh⟩=>fN ?_ hh) (fun a w hh=>⟨(-1),0,hL,aS 4 [0,1,2,3] rfl rfl (by decide) (by exact⟨rfl,rfl,rfl,rfl,rfl,rfl,rfl,rfl,rfl,trivial⟩) hh⟩)
   rw [cG.eq_2] at hF
   refine go ?_ ?_
   refine aD hF rfl (fun h128 hF=>?_) (fun h128 hF=>?_)
   ·refine go ?_ ?_
    refine aK ?_
    obtain⟨v129,h130,v133,h134,hF⟩:=sS hF
    obtain⟨v135,h136,hF⟩:=aZ hF fT
    refine go ?_ ?_
    rcases Bool.eq_false_or_eq_true (decide (0<v135)) with h137|h137
    ·have hF:=rA h137 hF
     rcases Bool.eq_false_or_eq_true (decide (x120<0)) with h138|h138
     ·have hF:=rA h138 hF
      refine jI (0::0::3::7::15::31::63::127::255::511::1023::1023::1023::1023::13311::29695::1023::1023::132095::394239::918527::1023::4064255::8258559::1023::33424383::66978815::134217727::268435455::536870911::[]) 27 3 (.v (.vc (pO (iG g99 v129).1 (iG g99 v129).2.1 (iG g99 v129).2.2))::.v (.vc (pI .i64 x116))::.v (.vc (pE (iG g99 v129).1 x116 cQ.n 0))::.v (.va (eQ v133))::.v (.vc (pI .i64 v135))::.v (.vc (pB (decide (0<v135))))::.v (.vc (pB true))::.v (.vc (pI .i64 x120))::.v (.vc (pB (decide (x120<0))))::.v (.vc (pB true))::.v .un::.v .un::.v .un::.v .un::.v .un::.v .un::.v .un::.v .un::.v .un::.v .un::.v .un::.v .un::.v .un::.v .un::.v .un::.v .un::.v .un::[]) bB ⟨d0 (aP (.inl rfl)) zU1,d0 (aP (.inl rfl)) zU1,d0 (iC (4+v129) rfl tyS24 (jL 4 rfl q102 q101 (q103 _ (aW h130))) (fC q102 q101 (q103 _ (aW h130))) (aI h134).1 (aI h134).2.1) zU2,d0 (lA (k:=4) (4+v129) rfl (jL 4 rfl q102 q101 (q103 _ (aW h130))) h134 rfl (.agg tyA42) rfl) zU1,d0 (bJ rfl h136 rfl) zU1,d0 (aHP rfl) ⟨rfl,oF _ _,trivial⟩,d0 (kZ (aP (.inl rfl)) h137) zU1,g0 (aP (.inl rfl)) zU1,g0 (aDZ rfl) ⟨rfl,oF _ _,trivial⟩,g0 (kZ (aP (.inl rfl)) h138) zU1,⟨rfl,.skipN⟩,⟨rfl,.skipN⟩,⟨rfl,.skipN⟩,⟨rfl,.skipN⟩,⟨rfl,.skipN⟩,⟨rfl,.skipN⟩,⟨rfl,.skipN⟩,⟨rfl,.skipN⟩,⟨rfl,.skipN⟩,⟨rfl,.skipN⟩,⟨rfl,.skipN⟩,⟨rfl,.skipN⟩,⟨rfl,.skipN⟩,⟨rfl,.skipN⟩,⟨rfl,.skipN⟩,⟨rfl,.skipN⟩,⟨rfl,.skipN⟩,trivial⟩ (fun bs132 G131=>?_)
      refine go ?_ ?_
      refine iR rfl ?_
      obtain⟨v139,h140,hF⟩:=aR hF
      refine go ?_ ?_
      exact aG (fun a w hh=>⟨x121,v139,hF,aS 4 [0,1,2,3] rfl rfl (by decide) (by exact⟨rfl,rfl,rfl,rfl,rfl,rfl,rfl,rfl,rfl,trivial⟩) hh⟩)
     have hF:=pD h138 hF
     have hF:=sR h134 hF
     obtain⟨v143,h144,hF⟩:=aR hF
     obtain⟨v145,h146,hF⟩:=aR hF
     refine jI (0::0::3::7::15::31::63::127::255::511::1023::1023::1023::1023::13311::29695::1023::1023::132095::394239::918527::1023::4064255::8258559::1023::33424383::66978815::134217727::268435455::536870911::[]) 27 3 (.v (.vc (pO (iG g99 v129).1 (iG g99 v129).2.1 (iG g99 v129).2.2))::.v (.vc (pI .i64 x116))::.v (.vc (pE (iG g99 v129).1 x116 cQ.n 0))::.v (.va (eQ v133))::.v (.vc (pI .i64 v135))::.v (.vc (pB (decide (0<v135))))::.v (.vc (pB true))::.v (.vc (pI .i64 x120))::.v (.vc (pB (decide (x120<0))))::.v (.vc (pB false))::.v (.vc (pP (some b8) 0))::.v (.vc (pI .i64 x121))::.v (.vc (pO (iG g99 v129).1 (iG g99 v129).2.1 (iG g99 v129).2.2))::.v (.vc (pI .i64 x116))::.v (.vc (pE (iG g99 v129).1 x116 cQ.n 0))::.v (.va (eQ v133))::.v (.vc (pI .i64 x120))::.v (.vc (pP (some b8) 0))::.v (.vc (pP (some b8) 0))::.v (.vc (pP (some b8) 1))::.v (.vc (pO b92 n94 c93))::.v (.vc (pI .i64 x120))::.v (.vc (pE b92 x120 (cH g99).n 0))::.v (.vc (pO (iG g99 v143).1 (iG g99 v143).2.1 (iG g99 v143).2.2))::.v (.vc (pI .i64 x116))::.v (.vc (pE (iG g99 v143).1 x116 cQ.n 0))::.v (.va (eQ v145))::[]) bB ⟨d0 (aP (.inl rfl)) zU1,d0 (aP (.inl rfl)) zU1,d0 (iC (4+v129) rfl tyS24 (jL 4 rfl q102 q101 (q103 _ (aW h130))) (fC q102 q101 (q103 _ (aW h130))) (aI h134).1 (aI h134).2.1) zU2,d0 (lA (k:=4) (4+v129) rfl (jL 4 rfl q102 q101 (q103 _ (aW h130))) h134 rfl (.agg tyA42) rfl) zU1,d0 (bJ rfl h136 rfl) zU1,d0 (aHP rfl) ⟨rfl,oF _ _,trivial⟩,d0 (kZ (aP (.inl rfl)) h137) zU1,g0 (aP (.inl rfl)) zU1,g0 (aDZ rfl) ⟨rfl,oF _ _,trivial⟩,g0 (kZ (aP (.inl rfl)) h138) zU1,g0 (aP (.inl rfl)) zU1,g0 (aP (.inl rfl)) zU1,g0 (aP (.inl rfl)) zU1,g0 (aP (.inl rfl)) zU1,g0 (iC (4+v129) rfl tyS24 (jL 4 rfl q102 q101 (q103 _ (aW h130))) (fC q102 q101 (q103 _ (aW h130))) (aI h134).1 (aI h134).2.1) zU2,g0 (lA (k:=4) (4+v129) rfl (jL 4 rfl q102 q101 (q103 _ (aW h130))) h134 rfl (.agg tyA42) rfl) zU1,g0 (aP (.inl rfl)) zU1,g0 (aP (.inl rfl)) zU1,g0 (oH rfl) zU1,g0 (iF (off:=0) (k:=1) rfl tyF72_1) zU1,g0 (fQ 0 1 rfl rfl rfl rfl (.one tyO23)) zU1,g0 (aP (.inl rfl)) zU1,g0 (iC (C:=(cH g99)) 1 rfl tyS23 rfl q95 (aI h144).1 (aI h144).2.1) zU2,g0 (lA (C:=(cH g99)) (k:=1) 1 rfl rfl h144 rfl (.one tyO24) rfl) zU1,g0 (aP (.inl rfl)) zU1,g0 (iC (4+v143) rfl tyS24 (jL 4 rfl q102 q101 (q103 _ (aW h144))) (fC q102 q101 (q103 _ (aW h144))) (aI h146).1 (aI h146).2.1) zU2,g0 (lA (k:=4) (4+v143) rfl (jL 4 rfl q102 q101 (q103 _ (aW h144))) h146 rfl (.agg tyA42) rfl) zU1,trivial⟩ (fun bs132 G131=>?_)
     obtain⟨v147,h148,hF⟩:=aR hF
     refine t5 (aHV 4 [0,1,2] [3] [0,1,2,3] rfl (o6 h148 q95 q97 q101 q102 q103) rfl rfl rfl rfl (by decide) (by decide) rfl) ⟨rfl,rfl,rfl,rfl,rfl,trivial⟩ ?_
     refine go ?_ ?_
     refine aD hF rfl (fun h149 hF=>?_) (fun h149 hF=>?_)
     ·obtain⟨v150,h151,hF⟩:=aR hF
      refine go ?_ ?_
      exact aG (fun a w hh=>⟨x121,v150,hF,aS 4 [0,1,2,3] rfl rfl (by decide) (by exact⟨rfl,rfl,rfl,rfl,rfl,rfl,rfl,rfl,rfl,trivial⟩) hh⟩)
     obtain⟨v152,h153,hF⟩:=aR hF
     refine go ?_ ?_
     exact aG (fun a w hh=>⟨x120,v152,hF,aS 4 [0,1,2,3] rfl rfl (by decide) (by exact⟨rfl,rfl,rfl,rfl,rfl,rfl,rfl,rfl,rfl,trivial⟩) hh⟩)
    have hF:=pD h137 hF
    refine jI (0::0::3::7::15::31::63::127::255::511::1023::1023::1023::1023::13311::29695::1023::1023::132095::394239::918527::1023::4064255::8258559::1023::33424383::66978815::134217727::268435455::536870911::[]) 27 3 (.v (.vc (pO (iG g99 v129).1 (iG g99 v129).2.1 (iG g99 v129).2.2))::.v (.vc (pI .i64 x116))::.v (.vc (pE (iG g99 v129).1 x116 cQ.n 0))::.v (.va (eQ v133))::.v (.vc (pI .i64 v135))::.v (.vc (pB (decide (0<v135))))::.v (.vc (pB false))::.v .un::.v .un::.v .un::.v .un::.v .un::.v .un::.v .un::.v .un::.v .un::.v .un::.v .un::.v .un::.v .un::.v .un::.v .un::.v .un::.v .un::.v .un::.v .un::.v .un::[]) bB ⟨d0 (aP (.inl rfl)) zU1,d0 (aP (.inl rfl)) zU1,d0 (iC (4+v129) rfl tyS24 (jL 4 rfl q102 q101 (q103 _ (aW h130))) (fC q102 q101 (q103 _ (aW h130))) (aI h134).1 (aI h134).2.1) zU2,d0 (lA (k:=4) (4+v129) rfl (jL 4 rfl q102 q101 (q103 _ (aW h130))) h134 rfl (.agg tyA42) rfl) zU1,d0 (bJ rfl h136 rfl) zU1,d0 (aHP rfl) ⟨rfl,oF _ _,trivial⟩,d0 (kZ (aP (.inl rfl)) h137) zU1,⟨rfl,.skipN⟩,⟨rfl,.skipN⟩,⟨rfl,.skipN⟩,⟨rfl,.skipU⟩,⟨rfl,.skipU⟩,⟨rfl,.skipU⟩,⟨rfl,.skipU⟩,⟨rfl,.skipU⟩,⟨rfl,.skipU⟩,⟨rfl,.skipU⟩,⟨rfl,.skipU⟩,⟨rfl,.skipU⟩,⟨rfl,.skipU⟩,⟨rfl,.skipU⟩,⟨rfl,.skipU⟩,⟨rfl,.skipU⟩,⟨rfl,.skipU⟩,⟨rfl,.skipU⟩,⟨rfl,.skipU⟩,⟨rfl,.skipU⟩,trivial⟩ (fun bs132 G131=>?_)
    refine go ?_ ?_
    refine tT rfl ?_
    obtain⟨v154,h155,hF⟩:=aR hF
    refine go ?_ ?_
    exact aG (fun a w hh=>⟨x120,v154,hF,aS 4 [0,1,2,3] rfl rfl (by decide) (by exact⟨rfl,rfl,rfl,rfl,rfl,rfl,rfl,rfl,rfl,trivial⟩) hh⟩)
   refine bO ?_
   obtain rfl:=jN hF
   exact fY Jj124 ⟨x120,hRl123,rfl,rfl⟩ 4 [0,1,2,3] rfl rfl ⟨rfl,rfl,rfl,rfl,rfl,rfl,trivial⟩
  refine go ?_ ?_
  refine aD hF rfl (fun h156 hF=>?_) (fun h156 hF=>?_)
  ·refine aJ (gF ?_)
   refine gF ?_
   refine aF (oH rfl) zU1 ?_
   refine aF (iF (off:=0) (k:=0) rfl tyF72_0) zU1 ?_
   refine aF (fQ 0 1 rfl rfl rfl rfl (.one tyO3)) zU1 ?_
   obtain⟨v157,h158,hF⟩:=aR hF
   refine aF (aJw rfl h158) zU2 ?_
   refine wU ?_
   refine aV ?_
   exact fY Jj117 ⟨v157,hF,rfl,rfl⟩ 4 [0,1,2,3] rfl rfl ⟨rfl,rfl,rfl,rfl,rfl,trivial⟩
  refine f7 ?_
  exact fY Jj117 ⟨v113,hF,rfl,rfl⟩ 4 [0,1,2,3] rfl rfl ⟨rfl,rfl,rfl,rfl,rfl,trivial⟩
 obtain⟨x40',hL,hRl41⟩:=aR hF
 refine fO (fun k a w=>∃(x38:Int),∃(x39:Int),eK K v6 v33 k x38 x39=some x40'∧hs _ ([⟨some b35,1,42,4,1,(eQ v33)⟩,⟨some b8,1,72,3,1,([pI .i64 v6.1]++[pO b12 n14 c13]++[pO b17 n19 c18])⟩,hO (cH g22) b12 c13 24 n14 v6.2.1,hO cI b17 c18 3 n19 v6.2.2.1,⟨some b1,1,30,3,1,([pS cQ ([]:List Rat)]++[pS cQ ([]:List Rat)]++[pI .i64 0])⟩]++fP cQ 42 g22 v6.2.2.2) [(2,.vc (pI .i64 a2)),(6,.vc (pP (some b1) 0)),(8,.vc (pP (some b8) 0)),(9,.vc (pP (some b35) 0)),(10,.vc (pI .i64 x38)),(39,.vc (pI .i64 v6.1)),(40,.vc (pI .i64 x39))] a w) K (fun a w ⟨_,_,hF,_⟩=>by cases hF) (fun k a w ⟨x38,x39,hF,hh⟩=>fN ?_ hh) (fun a w hh=>⟨0,0,hL,aS 5 [0,1,2,3,4] rfl rfl (by decide) (by exact⟨rfl,rfl,rfl,rfl,rfl,rfl,rfl,trivial⟩) hh⟩)
 rw [eK.eq_2] at hF
 refine go ?_ ?_
 refine aD hF rfl (fun h159 hF=>?_) (fun h159 hF=>?_)
 ·refine go ?_ ?_
  refine aK ?_
  obtain⟨v160,h161,hF⟩:=aR hF
  refine go ?_ ?_
  refine lQ 5 [1,2,3] [0,4] rfl (o6 h161 q15 q20 q24 q25 q26) ⟨rfl,rfl,rfl,rfl,rfl,trivial⟩ rfl rfl rfl (by decide) ?_
  rintro _ _ ⟨rfl,rfl⟩
  refine kE (gX [⟨some b8,1,72,3,1,([pI .i64 v6.1]++[pO b12 n14 c13]++[pO b17 n19 c18])⟩,hO (cH g22) b12 c13 24 n14 v6.2.1,hO cI b17 c18 3 n19 v6.2.2.1] (fP cQ 42 g22 v6.2.2.2) [⟨some b35,1,42,4,1,(eQ v33)⟩,⟨some b1,1,30,3,1,([pS cQ ([]:List Rat)]++[pS cQ ([]:List Rat)]++[pI .i64 0])⟩]) ?_
  refine aV (aH (aD hF rfl (fun h162 hF=>?_) (fun h162 hF=>?_)))
  ·obtain⟨v163,h164,hF⟩:=aR hF
   refine go ?_ ?_
   exact aG (fun a w hh=>⟨x39,v163,hF,aS 5 [3,0,1,2,4] rfl rfl (by decide) (by exact⟨rfl,rfl,rfl,rfl,rfl,rfl,rfl,trivial⟩) hh⟩)
  obtain⟨v165,h166,hF⟩:=aR hF
  refine go ?_ ?_
  exact aG (fun a w hh=>⟨x38,v165,hF,aS 5 [3,0,1,2,4] rfl rfl (by decide) (by exact⟨rfl,rfl,rfl,rfl,rfl,rfl,rfl,trivial⟩) hh⟩)
 refine bO ?_
 obtain rfl:=jN hF
 exact fY Jj42 ⟨x38,hRl41,rfl,rfl⟩ 5 [1,2,3,4] rfl rfl ⟨rfl,rfl,rfl,rfl,trivial⟩
def nR (K:Nat):Option Bool:=
 some true
def gE (K:Nat) (a0:List Rat) (a1:List Rat):Nat→Int→Option (LR Bool Unit)
 |0,_=>none
 |k+1,x3=>bif(decide (x3<(a0.length:Int))) then((bP a0 x3).bind fun v9=>(bP a1 x3).bind fun v11=>(aGR v9 v11).bind fun v13=>bif(!v13) then(some (.ret false)) else((aO (x3+1)).bind fun v16=>gE K a0 a1 k v16)) else(some (.go ()))
def eO (K:Nat) (a0:List Rat) (a1:List Rat):Option Bool:=
 bif((a0.length:Int) != (a1.length:Int)) then(some false) else((gE K a0 a1 K 0).bind fun o=>match o with| .ret r=>some r| .go _=>nR K)
theorem mQ {K:Nat} {a0:List Rat} {a1:List Rat} {r:Bool} (hF:eO K a0 a1=some r):Ct Tryz.prog 15 [.vc (pS cQ a0),.vc (pS cQ a1)] (.vc (pB r)):=by
 unfold eO at hF
 refine aB Tryz.func15 rfl (by kernel_rfl) Tryz.ntmps15 rfl (fun w0 M0=>?_)
 refine go ?_ ?_
 refine aD hF rfl (fun h1 hF=>?_) (fun h1 hF=>?_)
 ·exact bV
 refine go ?_ ?_
 refine aK (bE (fun H E=>nR K=some r∧H=[]∧E=[]) ?_ (fun Jj5=>?_))
 ·rintro _ _ ⟨hF,rfl,rfl⟩
  unfold nR at hF
  exact bV
 obtain⟨ol4,hL,hRl4⟩:=aR hF
 refine fO (fun k a w=>∃(x3:Int),gE K a0 a1 k x3=some ol4∧hs _ [] [(0,.vc (pS cQ a0)),(1,.vc (pS cQ a1)),(5,.vc (pI .i64 x3))] a w) K (fun a w ⟨_,hF,_⟩=>by cases hF) (fun k a w ⟨x3,hF,hh⟩=>fN ?_ hh) (fun a w hh=>⟨0,hL,jY [] hh⟩)
 rw [gE.eq_2] at hF
 refine go ?_ ?_
 refine aD hF rfl (fun h6 hF=>?_) (fun h6 hF=>?_)
 ·refine go ?_ ?_
  refine aK (aC ?_)
  obtain⟨v9,h10,hF⟩:=aR hF
  obtain⟨v11,h12,hF⟩:=aR hF
  obtain⟨v13,h14,hF⟩:=aZ hF z5
  refine dr [0,0,3,7,0,0,48,112,255,511] 10 0 ?_ (fun bs8 G7=>?_)
  refine aV (aH (aD hF rfl (fun h15 hF=>?_) (fun h15 hF=>?_)))
  ·exact bV
  obtain⟨v16,h17,hF⟩:=aR hF
  refine go ?_ ?_
  exact aG (fun a w hh=>⟨v16,hF,jY [] hh⟩)
 refine bO ?_
 obtain rfl:=jN hF
 exact rD Jj5 ⟨hRl4,rfl,rfl⟩ []
def yD (K:Nat) (x7:Rat):Option Rat:=
 some x7
def u9 (K:Nat) (a0:List Rat):Nat→Rat→Int→Option Rat
 |0,_,_=>none
 |k+1,x5,x6=>bif(decide (x6<(a0.length:Int))) then((bP a0 x6).bind fun v11=>(aC6 x5 v11).bind fun v14=>(aO (x6+1)).bind fun v16=>u9 K a0 k v14 v16) else(some x5)
def aBr (K:Nat) (a0:List Rat):Option Rat:=
 (u9 K a0 K 0 0).bind fun x7=>yD K x7
theorem aFP {K:Nat} {a0:List Rat} {r:Rat} (hF:aBr K a0=some r):Ct Tryz.prog 126 [.vc (pS cQ a0)] (.va (eQ r)):=by
 unfold aBr at hF
 refine aB Tryz.func126 rfl (by kernel_rfl) Tryz.ntmps126 rfl (fun w0 M0=>?_)
 refine aC (aJ (aE rfl tyZ42q (fun b1=>?_)))
 refine go ?_ ?_
 refine aE rfl tyZ42q (fun b2=>?_)
 refine go ?_ ?_
 refine aK (bE (fun H E=>∃(x7:Rat),yD K x7=some r∧H=[⟨some b2,1,42,4,1,(eQ x7)⟩,⟨some b1,1,42,4,1,(eQ 0)⟩]∧E=[(2,.vc (pP (some b1) 0)),(3,.vc (pP (some b2) 0))]) ?_ (fun Jj9=>?_))
 ·rintro _ _ ⟨x7,hF,rfl,rfl⟩
  unfold yD at hF
  exact bV
 obtain⟨x7',hL,hRl8⟩:=aR hF
 refine fO (fun k a w=>∃(x5:Rat),∃(x6:Int),u9 K a0 k x5 x6=some x7'∧hs _ [⟨some b2,1,42,4,1,(eQ x5)⟩,⟨some b1,1,42,4,1,(eQ 0)⟩] [(2,.vc (pP (some b1) 0)),(3,.vc (pP (some b2) 0)),(6,.vc (pS cQ a0)),(7,.vc (pI .i64 (a0.length:Int))),(8,.vc (pI .i64 x6))] a w) K (fun a w ⟨_,_,hF,_⟩=>by cases hF) (fun k a w ⟨x5,x6,hF,hh⟩=>fN ?_ hh) (fun a w hh=>⟨0,0,hL,jY [0,1] hh⟩)
 rw [u9.eq_2] at hF
 refine go ?_ ?_
 refine aD hF rfl (fun h10 hF=>?_) (fun h10 hF=>?_)
 ·refine go ?_ ?_
  refine aK ?_
  obtain⟨v11,h12,hF⟩:=aR hF
  refine go ?_ ?_
  refine aE rfl tyZ42q (fun b13=>?_)
  obtain⟨v14,h15,hF⟩:=aZ hF aAi
  obtain⟨v16,h17,hF⟩:=aR hF
  refine go ?_ ?_
  exact aG (fun a w hh=>⟨v14,v16,hF,jY [1,2] hh⟩)
 refine bO ?_
 obtain rfl:=jN hF
 exact rD Jj9 ⟨x5,hRl8,rfl,rfl⟩ [0,1]
def wY (K:Nat) (x18:List Rat):Option Rat:=
 (aBr K x18).bind fun v26=>some v26
def uI (K:Nat) (a0:List Rat) (a1:List Rat):Nat→(List Rat)→Int→Option (List Rat)
 |0,_,_=>none
 |k+1,x11,x17=>bif(decide (x17<(min (a0.length:Int) (a1.length:Int)))) then((bP a0 x17).bind fun v31=>(bP a1 x17).bind fun v33=>(aCc v31 v33).bind fun v35=>(sK x11 [v35]).bind fun x37=>(aO (x17+1)).bind fun v44=>uI K a0 a1 k x37 v44) else(some x11)
def w5 (K:Nat) (a0:List Rat) (a1:List Rat):Option Rat:=
 (uI K a0 a1 K ([]:List Rat) 0).bind fun x18=>wY K x18
theorem aAk {K:Nat} {a0:List Rat} {a1:List Rat} {r:Rat} (hF:w5 K a0 a1=some r):Ct Tryz.prog 73 [.vc (pS cQ a0),.vc (pS cQ a1)] (.va (eQ r)):=by
 unfold w5 at hF
 refine aB Tryz.func73 rfl (by kernel_rfl) Tryz.ntmps73 rfl (fun w0 M0=>?_)
 refine aC (aJ (aE rfl tyZ42q (fun b1=>?_)))
 refine aV (aH (aC (aJ (sV cQ 42 rfl ?_))))
 refine go ?_ ?_
 refine aK (bE (fun H E=>∃(x18:List Rat),∃(b19:Option Nat),∃(c20:Nat),∃(n21:Nat),wY K x18=some r∧x18.length=n21∧H=[hO cQ b19 c20 42 n21 x18,⟨some b1,1,42,4,1,(eQ 0)⟩]∧E=[(4,.vc (pP (some b1) 0)),(5,.vc (pO b19 n21 c20))]) ?_ (fun Jj25=>?_))
 ·rintro _ _ ⟨x18,b19,c20,n21,hF,q22,rfl,rfl⟩
  unfold wY at hF
  refine aH (aC (aJ (gF ?_)))
  refine xC 0 [5,28] rfl q22 zU2 rfl ?_
  obtain⟨v26,h27,hF⟩:=aZ hF aFP
  exact bV
 obtain⟨x18',hL,hRl24⟩:=aR hF
 refine fO (fun k a w=>∃(x11:List Rat),∃(x17:Int),∃(b12:Option Nat),∃(c13:Nat),∃(n14:Nat),uI K a0 a1 k x11 x17=some x18'∧x11.length=n14∧hs _ [hO cQ b12 c13 42 n14 x11,⟨some b1,1,42,4,1,(eQ 0)⟩] [(0,.vc (pS cQ a0)),(1,.vc (pS cQ a1)),(4,.vc (pP (some b1) 0)),(5,.vc (pO b12 n14 c13)),(11,.vc (pI .i64 (min (a0.length:Int) (a1.length:Int)))),(12,.vc (pI .i64 x17))] a w) K (fun a w ⟨_,_,_,_,_,hF,_,_⟩=>by cases hF) (fun k a w ⟨x11,x17,b12,c13,n14,hF,q15,hh⟩=>fN ?_ hh) (fun a w hh=>⟨([]:List Rat),0,none,0,0,hL,rfl,jY [0,1] hh⟩)
 rw [uI.eq_2] at hF
 refine go ?_ ?_
 refine aD hF rfl (fun h28 hF=>?_) (fun h28 hF=>?_)
 ·refine go ?_ ?_
  refine aK ?_
  obtain⟨v31,h32,v33,h34,hF⟩:=sS hF
  obtain⟨v35,h36,hF⟩:=aZ hF vS
  refine go ?_ ?_
  refine jI [0,0,0,6,14,0,0,96,224,510,1022,2047,4095] 11 2 [.v (.vc (pO b12 n14 c13)),.v (.vc (pS cQ a0)),.v (.vc (pI .i64 x17)),.v (.vc (pM (cQ.e v31))),.v (.va (eQ v31)),.v (.vc (pS cQ a1)),.v (.vc (pI .i64 x17)),.v (.vc (pM (cQ.e v33))),.v (.va (eQ v33)),.v (.va (eQ v35)),.v (.vc (pS cQ [v35]))] bB ⟨d0 (aP (.inl rfl)) zU1,d0 (aP (.inl rfl)) zU1,d0 (aP (.inl rfl)) zU1,d0 (aEJ rfl tyS24 h32) zU2,d0 (aBX 4 rfl rfl (.agg tyA42)) zU1,d0 (aP (.inl rfl)) zU1,d0 (aP (.inl rfl)) zU1,d0 (aEJ rfl tyS24 h34) zU2,d0 (aBX 4 rfl rfl (.agg tyA42)) zU1,d0 (bJ rfl h36 rfl) zU2,d0 (gO (C:=cQ) (xs:=[.tmp 24]) (ps:=[.va (eQ v35)]) (zs:=[v35]) rfl tyS24 rfl ⟨⟨trivial,rfl⟩,trivial⟩ rfl) zU1,trivial⟩ (fun bs30 G29=>?_)
  obtain⟨x37,h38,hF⟩:=aR hF
  refine o9 0 rfl tyS24 rfl rfl q15 rfl rfl h38 (fun b39 c40 H41 e42=>?_)
  cases e42
  obtain⟨v44,h45,hF⟩:=aR hF
  refine go ?_ ?_
  exact aG (fun a w hh=>⟨x37,v44,b39,c40,(n14+[v35].length),hF,(fI h38 q15),jY [0,1] hh⟩)
 refine bO ?_
 obtain rfl:=jN hF
 exact rD Jj25 ⟨x11,b12,c13,n14,hRl24,q15,rfl,rfl⟩ [0,1]
def oY (K:Nat) (x20:List Rat):Option (List Rat):=
 some x20
def l6 (K:Nat) (a0:List (List Rat)) (a1:List Rat) (a2:List Rat):Nat→(List Rat)→Int→Option (List Rat)
 |0,_,_=>none
 |k+1,x13,x19=>bif(decide (x19<(a0.length:Int))) then((bP a0 x19).bind fun v29=>(w5 K v29 a2).bind fun v33=>(bP a1 x19).bind fun v35=>(aC6 v33 v35).bind fun v37=>(bP x13 x19).bind fun v39=>(oK x13 x19 v37).bind fun x41=>(aO (x19+1)).bind fun v44=>l6 K a0 a1 a2 k x41 v44) else(some x13)
def sB (K:Nat) (a0:List (List Rat)) (a1:List Rat) (a2:List Rat):Option (List Rat):=
 (wK (a1.length:Int) 0).bind fun x1=>(l6 K a0 a1 a2 K x1 0).bind fun x20=>oY K x20
theorem zE {K:Nat} {a0:List (List Rat)} {a1:List Rat} {a2:List Rat} {r:List Rat} (hF:sB K a0 a1 a2=some r):Ct Tryz.prog 57 [.vc (pS (pC cQ) a0),.vc (pS cQ a1),.vc (pS cQ a2)] (.vc (pS cQ r)):=by
 unfold sB at hF
 refine aB Tryz.func57 rfl (by kernel_rfl) Tryz.ntmps57 rfl (fun w0 M0=>?_)
 refine aC (aJ (aF (aP (.inr rfl)) ⟨gM cQ,trivial⟩ ?_))
 obtain⟨x1,h2,hF⟩:=aR hF
 refine go ?_ ?_
 refine o8 (C:=cQ) rfl tyS24 rfl tyZ42q rfl h2 (fun b3=>?_)
 refine go ?_ ?_
 refine aK (bE (fun H E=>∃(x20:List Rat),oY K x20=some r∧x20.length=x1.length∧H=[hO cQ b3 x1.length 42 x1.length x20]∧E=[(7,.vc (pO b3 x1.length x1.length))]) ?_ (fun Jj27=>?_))
 ·rintro _ _ ⟨x20,hF,q24,rfl,rfl⟩
  unfold oY at hF
  refine go ?_ ?_
  refine gL (gN (sF 0 [6,7,32] rfl q24 ⟨rfl,rfl,rfl,trivial⟩ rfl ?_))
  obtain rfl:=jN hF
  exact kX (.inl rfl) Tryz.results57 (.tmp rfl .nil) rfl rfl
 obtain⟨x20',hL,hRl26⟩:=aR hF
 refine fO (fun k a w=>∃(x13:List Rat),∃(x19:Int),l6 K a0 a1 a2 k x13 x19=some x20'∧x13.length=x1.length∧hs _ [hO cQ b3 x1.length 42 x1.length x13] [(1,.vc (pS cQ a1)),(2,.vc (pS cQ a2)),(7,.vc (pO b3 x1.length x1.length)),(13,.vc (pS (pC cQ) a0)),(14,.vc (pI .i64 (a0.length:Int))),(15,.vc (pI .i64 x19))] a w) K (fun a w ⟨_,_,hF,_,_⟩=>by cases hF) (fun k a w ⟨x13,x19,hF,q17,hh⟩=>fN ?_ hh) (fun a w hh=>⟨x1,0,hL,rfl,jY [0] hh⟩)
 rw [l6.eq_2] at hF
 refine go ?_ ?_
 refine aD hF rfl (fun h28 hF=>?_) (fun h28 hF=>?_)
 ·refine go ?_ ?_
  refine aK ?_
  obtain⟨v29,h30,hF⟩:=aR hF
  obtain⟨v33,h34,hF⟩:=aZ hF aAk
  obtain⟨v35,h36,hF⟩:=aR hF
  obtain⟨v37,h38,hF⟩:=aZ hF aAi
  obtain⟨v39,h40,hF⟩:=aR hF
  refine go ?_ ?_
  refine dr [0,0,0,0,12,0,0,96,224,508,1023,2047] 11 1 ?_ (fun bs32 G31=>?_)
  obtain⟨x41,h42,v44,h45,hF⟩:=sS hF
  refine go ?_ ?_
  exact aG (fun a w hh=>⟨x41,v44,hF,(bH h42 q17),jY [0] hh⟩)
 refine bO ?_
 obtain rfl:=jN hF
 exact rD Jj27 ⟨x13,hRl26,q17,rfl,rfl⟩ [0]
def pU (K:Nat) (v11:List Rat):Option Bool:=
 (fA K v11).bind fun v17=>some (!v17)
def kJ (K:Nat) (a2:List Rat) (v11:List Rat):Nat→Int→Option (LR Bool Unit)
 |0,_=>none
 |k+1,x14=>bif(decide (x14<(a2.length:Int))) then((bP a2 x14).bind fun v20=>(wD v20).bind fun v22=>bif(decide (0<v22)) then((bP v11 x14).bind fun v25=>(wD v25).bind fun v27=>bif(v27 != 0) then(some (.ret false)) else((aO (x14+1)).bind fun v30=>kJ K a2 v11 k v30)) else((aO (x14+1)).bind fun v32=>kJ K a2 v11 k v32)) else(some (.go ()))
def sT (K:Nat) (a0:List (List Rat)) (a1:List Rat) (a2:List Rat):Option Bool:=
 (g8 K a0 a1).bind fun v1=>bif(!v1) then(some false) else(bif((a2.length:Int) != (a1.length:Int)) then(some false) else((iN K a2).bind fun v5=>bif(!v5) then(some false) else((fA K a2).bind fun v8=>bif v8 then(some false) else((sB K a0 a1 a2).bind fun v11=>(kJ K a2 v11 K 0).bind fun o=>match o with| .ret r=>some r| .go _=>pU K v11))))
theorem aAc {K:Nat} {a0:List (List Rat)} {a1:List Rat} {a2:List Rat} {r:Bool} (hF:sT K a0 a1 a2=some r):Ct Tryz.prog 16 [.vc (pS (pC cQ) a0),.vc (pS cQ a1),.vc (pS cQ a2)] (.vc (pB r)):=by
 unfold sT at hF
 refine aB Tryz.func16 rfl (by kernel_rfl) Tryz.ntmps16 rfl (fun w0 M0=>?_)
 obtain⟨v1,h2,hF⟩:=aZ hF oW
 refine go ?_ ?_
 refine dG hF (fun h3 hF=>?_) (fun h3 hF=>?_)
 ·refine go ?_ ?_
  refine iR rfl ?_
  exact bV
 refine go ?_ ?_
 refine dG hF (fun h4 hF=>?_) (fun h4 hF=>?_)
 ·refine go ?_ ?_
  refine iR rfl ?_
  exact bV
 obtain⟨v5,h6,hF⟩:=aZ hF qA
 refine go ?_ ?_
 refine dG hF (fun h7 hF=>?_) (fun h7 hF=>?_)
 ·refine go ?_ ?_
  refine iR rfl ?_
  exact bV
 obtain⟨v8,h9,hF⟩:=aZ hF mS
 refine go ?_ ?_
 refine aD hF rfl (fun h10 hF=>?_) (fun h10 hF=>?_)
 ·exact bV
 obtain⟨v11,h12,hF⟩:=aZ hF zE
 refine go ?_ ?_
 refine aK (bE (fun H E=>pU K v11=some r∧H=[]∧E=[(7,.vc (pS cQ v11))]) ?_ (fun Jj16=>?_))
 ·rintro _ _ ⟨hF,rfl,rfl⟩
  unfold pU at hF
  obtain⟨v17,h18,hF⟩:=aZ hF mS
  exact bV
 obtain⟨ol15,hL,hRl15⟩:=aR hF
 refine fO (fun k a w=>∃(x14:Int),kJ K a2 v11 k x14=some ol15∧hs _ [] [(2,.vc (pS cQ a2)),(7,.vc (pS cQ v11)),(34,.vc (pI .i64 (a2.length:Int))),(35,.vc (pI .i64 x14))] a w) K (fun a w ⟨_,hF,_⟩=>by cases hF) (fun k a w ⟨x14,hF,hh⟩=>fN ?_ hh) (fun a w hh=>⟨0,hL,jY [] hh⟩)
 rw [kJ.eq_2] at hF
 refine go ?_ ?_
 refine aD hF rfl (fun h19 hF=>?_) (fun h19 hF=>?_)
 ·refine go ?_ ?_
  refine aK ?_
  obtain⟨v20,h21,hF⟩:=aR hF
  obtain⟨v22,h23,hF⟩:=aZ hF fT
  refine go ?_ ?_
  refine dG hF (fun h24 hF=>?_) (fun h24 hF=>?_)
  ·obtain⟨v25,h26,hF⟩:=aR hF
   obtain⟨v27,h28,hF⟩:=aZ hF fT
   refine go ?_ ?_
   refine aD hF rfl (fun h29 hF=>?_) (fun h29 hF=>?_)
   ·exact bV
   obtain⟨v30,h31,hF⟩:=aR hF
   refine go ?_ ?_
   exact aG (fun a w hh=>⟨v30,hF,jY [] hh⟩)
  refine go ?_ ?_
  refine tT rfl ?_
  obtain⟨v32,h33,hF⟩:=aR hF
  refine go ?_ ?_
  exact aG (fun a w hh=>⟨v32,hF,jY [] hh⟩)
 refine bO ?_
 obtain rfl:=jN hF
 exact rD Jj16 ⟨hRl15,rfl,rfl⟩ []
def rJ (K:Nat) (x17:List Rat):Option (List Rat):=
 some x17
def n5 (K:Nat) (a0:List Int):Nat→(List Rat)→Int→Option (List Rat)
 |0,_,_=>none
 |k+1,x10,x16=>bif(decide (x16<(a0.length:Int))) then((bP a0 x16).bind fun v26=>(yN v26 1).bind fun v28=>(sK x10 [v28]).bind fun x30=>(aO (x16+1)).bind fun v37=>n5 K a0 k x30 v37) else(some x10)
def cW (K:Nat) (a0:List Int):Option (List Rat):=
 (n5 K a0 K ([]:List Rat) 0).bind fun x17=>rJ K x17
theorem dO {K:Nat} {a0:List Int} {r:List Rat} (hF:cW K a0=some r):Ct Tryz.prog 21 [.vc (pS cI a0)] (.vc (pS cQ r)):=by
 unfold cW at hF
 refine aB Tryz.func21 rfl (by kernel_rfl) Tryz.ntmps21 rfl (fun w0 M0=>?_)
 refine aC (aJ (aF (aP (.inr rfl)) ⟨gM cQ,trivial⟩ ?_))
 refine aV (aH (aC (aJ (sV cQ 42 rfl ?_))))
 refine go ?_ ?_
 refine aK (bE (fun H E=>∃(x17:List Rat),∃(b18:Option Nat),∃(c19:Nat),∃(n20:Nat),rJ K x17=some r∧x17.length=n20∧H=[hO cQ b18 c19 42 n20 x17]∧E=[(3,.vc (pO b18 n20 c19))]) ?_ (fun Jj24=>?_))
 ·rintro _ _ ⟨x17,b18,c19,n20,hF,q21,rfl,rfl⟩
  unfold rJ at hF
  refine go ?_ ?_
  refine gL (gN (sF 0 [2,3,19] rfl q21 ⟨rfl,rfl,rfl,trivial⟩ rfl ?_))
  obtain rfl:=jN hF
  exact kX (.inl rfl) Tryz.results21 (.tmp rfl .nil) rfl rfl
 obtain⟨x17',hL,hRl23⟩:=aR hF
 refine fO (fun k a w=>∃(x10:List Rat),∃(x16:Int),∃(b11:Option Nat),∃(c12:Nat),∃(n13:Nat),n5 K a0 k x10 x16=some x17'∧x10.length=n13∧hs _ [hO cQ b11 c12 42 n13 x10] [(0,.vc (pS cI a0)),(3,.vc (pO b11 n13 c12)),(4,.vc (pI .i64 x16))] a w) K (fun a w ⟨_,_,_,_,_,hF,_,_⟩=>by cases hF) (fun k a w ⟨x10,x16,b11,c12,n13,hF,q14,hh⟩=>fN ?_ hh) (fun a w hh=>⟨([]:List Rat),0,none,0,0,hL,rfl,jY [0] hh⟩)
 rw [n5.eq_2] at hF
 refine go ?_ ?_
 refine aD hF rfl (fun h25 hF=>?_) (fun h25 hF=>?_)
 ·refine go ?_ ?_
  refine aK ?_
  obtain⟨v26,h27,hF⟩:=aR hF
  obtain⟨v28,h29,hF⟩:=aZ hF dP
  refine go ?_ ?_
  refine aF (gO (C:=cQ) (xs:=[.tmp 16]) (ps:=[.va (eQ v28)]) (zs:=[v28]) rfl tyS24 rfl ⟨⟨trivial,rfl⟩,trivial⟩ rfl) zU1 ?_
  obtain⟨x30,h31,hF⟩:=aR hF
  refine o9 0 rfl tyS24 rfl rfl q14 rfl rfl h31 (fun b32 c33 H34 e35=>?_)
  cases e35
  obtain⟨v37,h38,hF⟩:=aR hF
  refine go ?_ ?_
  exact aG (fun a w hh=>⟨x30,v37,b32,c33,(n13+[v28].length),hF,(fI h31 q14),jY [0] hh⟩)
 refine bO ?_
 obtain rfl:=jN hF
 exact rD Jj24 ⟨x10,b11,c12,n13,hRl23,q14,rfl,rfl⟩ [0]
def nE (K:Nat):Option Int:=
 some (-1)
def kR (K:Nat) (a0:List aL) (a1:(aL→Option Bool)):Nat→Int→Option (LR Int Unit)
 |0,_=>none
 |k+1,x2=>bif(decide (x2<(a0.length:Int))) then((bP a0 x2).bind fun v6=>(a1 v6).bind fun v8=>bif v8 then(some (.ret x2)) else((aO (x2+1)).bind fun v11=>kR K a0 a1 k v11)) else(some (.go ()))
def o7 (K:Nat) (a0:List aL) (a1:(aL→Option Bool)):Option Int:=
 (kR K a0 a1 K 0).bind fun o=>match o with| .ret r=>some r| .go _=>nE K
theorem wO {K:Nat} {a0:List aL} {a1:(aL→Option Bool)} {r:Int} (hF:o7 K a0 a1=some r):Ct Tryz.prog 168 [.vc (pS aL.cod a0),.vc (pFn Tryz.prog (fun x:aL=>[.va (aL.enc x)]) (fun r:Bool=>.vc (pB r)) a1)] (.vc (pI .i64 r)):=by
 unfold o7 at hF
 refine aB Tryz.func168 rfl (by kernel_rfl) Tryz.ntmps168 rfl (fun w0 M0=>?_)
 refine go ?_ ?_
 refine aK (bE (fun H E=>nE K=some r∧H=[]∧E=[]) ?_ (fun Jj4=>?_))
 ·rintro _ _ ⟨hF,rfl,rfl⟩
  unfold nE at hF
  exact bV
 obtain⟨ol3,hL,hRl3⟩:=aR hF
 refine fO (fun k a w=>∃(x2:Int),kR K a0 a1 k x2=some ol3∧hs _ [] [(0,.vc (pS aL.cod a0)),(1,.vc (pFn Tryz.prog (fun x:aL=>[.va (aL.enc x)]) (fun r:Bool=>.vc (pB r)) a1)),(7,.vc (pI .i64 (a0.length:Int))),(8,.vc (pI .i64 x2))] a w) K (fun a w ⟨_,hF,_⟩=>by cases hF) (fun k a w ⟨x2,hF,hh⟩=>fN ?_ hh) (fun a w hh=>⟨0,hL,jY [] hh⟩)
 rw [kR.eq_2] at hF
 refine go ?_ ?_
 refine aD hF rfl (fun h5 hF=>?_) (fun h5 hF=>?_)
 ·refine go ?_ ?_
  refine aK ?_
  obtain⟨v6,h7,v8,h9,hF⟩:=sS hF
  refine go ?_ ?_
  refine aF (aB6 (pre:=fun x:aL=>[.va (aL.enc x)]) (post:=fun r:Bool=>.vc (pB r)) (x:=v6) (r:=v8) rfl h9 rfl) zU2 ?_
  refine aV (aH (aD hF rfl (fun h10 hF=>?_) (fun h10 hF=>?_)))
  ·exact bV
  obtain⟨v11,h12,hF⟩:=aR hF
  refine go ?_ ?_
  exact aG (fun a w hh=>⟨v11,hF,jY [] hh⟩)
 refine bO ?_
 obtain rfl:=jN hF
 exact rD Jj4 ⟨hRl3,rfl,rfl⟩ []
def nI (K:Nat) (a0:List aL) (a1:(aL→Option Bool)):Option Bool:=
 (o7 K a0 a1).bind fun v1=>some (decide (0≤v1))
theorem vA {K:Nat} {a0:List aL} {a1:(aL→Option Bool)} {r:Bool} (hF:nI K a0 a1=some r):Ct Tryz.prog 145 [.vc (pS aL.cod a0),.vc (pFn Tryz.prog (fun x:aL=>[.va (aL.enc x)]) (fun r:Bool=>.vc (pB r)) a1)] (.vc (pB r)):=by
 unfold nI at hF
 refine aB Tryz.func145 rfl (by kernel_rfl) Tryz.ntmps145 rfl (fun w0 M0=>?_)
 obtain⟨v1,h2,hF⟩:=aZ hF wO
 exact bV
def qS (c0:aQ) (a0:aL):Option Bool:=
 some ((a0.a.length:Int) != c0.vars)
theorem aAF {c0:aQ} {a0:aL} {r:Bool} (hF:qS c0 a0=some r):Ct Tryz.prog 146 [.va (aL.enc a0),.vc (pM (aQ.cod.e c0))] (.vc (pB r)):=by
 unfold qS at hF
 refine aB Tryz.func146 rfl (by kernel_rfl) Tryz.ntmps146 rfl (fun w0 M0=>?_)
 refine aC (aJ (dE rfl rfl trivial (fun b1=>?_)))
 exact bV
def uS (K:Nat) (a0:aQ):Option Int:=
 bif(decide (32<a0.vars)) then(some 4) else(bif(decide (64<(a0.lines.length:Int))) then(some 4) else(bif(decide (a0.vars<0)) then(some 1) else(bif((a0.goal.length:Int) != a0.vars) then(some 1) else((nI K a0.lines (qS a0)).bind fun v6=>bif v6 then(some 1) else(some 0)))))
theorem aBA {K:Nat} {a0:aQ} {r:Int} (hF:uS K a0=some r):Ct Tryz.prog 110 [.va (aQ.enc a0)] (.vc (pI .i64 r)):=by
 unfold uS at hF
 refine aB Tryz.func110 rfl (by kernel_rfl) Tryz.ntmps110 rfl (fun w0 M0=>?_)
 refine aC (aJ (dE rfl rfl trivial (fun b1=>?_)))
 refine go ?_ ?_
 refine aK (go ?_ ?_)
 refine dG hF (fun h2 hF=>?_) (fun h2 hF=>?_)
 ·refine go ?_ ?_
  refine iR rfl ?_
  exact bV
 refine go ?_ ?_
 refine aD hF rfl (fun h3 hF=>?_) (fun h3 hF=>?_)
 ·exact bV
 refine go ?_ ?_
 refine dG hF (fun h4 hF=>?_) (fun h4 hF=>?_)
 ·refine go ?_ ?_
  refine iR rfl ?_
  exact bV
 refine go ?_ ?_
 refine dG hF (fun h5 hF=>?_) (fun h5 hF=>?_)
 ·refine go ?_ ?_
  refine iR rfl ?_
  exact bV
 refine t5 (iF (off:=0) (k:=1) rfl tyF90_1) zU1 ?_
 refine t5 (fQ 0 1 rfl rfl rfl rfl (.one tyO88)) zU1 ?_
 refine aHb 0 [(1,0),(4,0),(8,1),(14,0),(18,2),(21,0),(26,1)] rfl ⟨rfl,rfl,rfl,rfl,rfl,rfl,rfl,trivial⟩ rfl ?_
 refine t5 (aJC (φ:=(qS a0)) (pre:=fun x:aL=>[.va (aL.enc x)]) (post:=fun r:Bool=>.vc (pB r)) (xs:=[.tmp 1]) (cs:=[pM (aQ.cod.e a0)]) rfl rfl (fun x r h=>aAF h)) zU1 ?_
 obtain⟨v6,h7,hF⟩:=aZ hF vA
 refine go ?_ ?_
 refine aD hF rfl (fun h8 hF=>?_) (fun h8 hF=>?_)
 ·exact bV
 exact bV
def m8 (c0:Bool) (c1:List Rat) (a0:Int) (a1:Rat):Option (List Rat):=
 bif c0 then((aAo a1).bind fun v9=>(bP c1 a0).bind fun v11=>(oK c1 a0 v9).bind fun x13=>some x13) else((bP c1 a0).bind fun v16=>(oK c1 a0 a1).bind fun x18=>some x18)
theorem pT {c0:Bool} {c1:List Rat} {a0:Int} {a1:Rat} {r:List Rat} (hF:m8 c0 c1 a0 a1=some r) {p1:Nat} {b3:Option Nat} {c4 n2:Nat} (q5:c1.length=n2):yU Tryz.prog 147 [⟨some p1,1,24,1,1,[pO b3 n2 c4]⟩,hO cQ b3 c4 42 n2 c1] [.vc (pI .i64 a0),.va (eQ a1),.vc (pM (cB.e c0)),.vc (pP (some p1) 0)] (fun Ho q=>∃b23 c24 n22,r.length=n22∧Ho=[⟨some p1,1,24,1,1,[pO b23 n22 c24]⟩,hO cQ b23 c24 42 n22 r]∧q=.any):=by
 unfold m8 at hF
 refine aB Tryz.func147 rfl (by kernel_rfl) Tryz.ntmps147 rfl (fun w0 M0=>?_)
 refine aC (aJ (dE rfl rfl trivial (fun b7=>?_)))
 refine go ?_ ?_
 refine aD hF rfl (fun h8 hF=>?_) (fun h8 hF=>?_)
 ·obtain⟨v9,h10,hF⟩:=aZ hF uA
  obtain⟨v11,h12,x13,h14,hF⟩:=sS hF
  obtain rfl:=jN hF
  refine go ?_ ?_
  exact aBH (.inr rfl) Tryz.results147 .nil rfl [1,2] rfl (by decide) ⟨b3,c4,n2,(bH h14 q5),rfl,rfl⟩
 obtain⟨v16,h17,x18,h19,hF⟩:=sS hF
 obtain rfl:=jN hF
 refine go ?_ ?_
 exact aBH (.inr rfl) Tryz.results147 .nil rfl [1,2] rfl (by decide) ⟨b3,c4,n2,(bH h19 q5),rfl,rfl⟩
def qQ (c0:Int) (a0:Int):Option Rat:=
 bif(decide (c0≤a0)) then((yN 1 1).bind fun v3=>some v3) else(some 0)
theorem aAz {c0:Int} {a0:Int} {r:Rat} (hF:qQ c0 a0=some r):Ct Tryz.prog 113 [.vc (pI .i64 a0),.vc (pM (cI.e c0))] (.va (eQ r)):=by
 unfold qQ at hF
 refine aB Tryz.func113 rfl (by kernel_rfl) Tryz.ntmps113 rfl (fun w0 M0=>?_)
 refine aC (aJ (aE rfl tyZ42q (fun b1=>?_)))
 refine go ?_ ?_
 refine aD hF rfl (fun h2 hF=>?_) (fun h2 hF=>?_)
 ·obtain⟨v3,h4,hF⟩:=aZ hF qG
  exact bV
 refine go ?_ ?_
 refine aF (fK (is:=[]) (xs:=[]) (ps:=[]) rfl tyB42q rfl rfl trivial rfl) trivial ?_
 exact bV
def nH (a0:List Rat):Option (List Rat):=
 (sK ([]:List Rat) a0).bind fun x9=>some x9
theorem zA {a0:List Rat} {r:List Rat} (hF:nH a0=some r):yU Tryz.prog 77 [] [.vc (pS cQ a0)] (fun Ho q=>∃b18 c19 n17,r.length=n17∧Ho=[hO cQ b18 c19 42 n17 r]∧q=.vc (pO b18 n17 c19)):=by
 unfold nH at hF
 refine aB Tryz.func77 rfl (by kernel_rfl) Tryz.ntmps77 rfl (fun w0 M0=>?_)
 refine aC (aJ (sV cQ 42 rfl ?_))
 refine aV (aH (aC (aC (aJ (gF ?_)))))
 refine aKM rfl Tryz.underlying24 rfl (fun h3=>?_) ?_
 ·skip
  subst h3
  have hF:some ([]:List Rat)=some r:=by simpa [sK] using hF
  refine aV (aH (iR rfl ?_))
  refine aC (aJ (sV cQ 42 rfl ?_))
  refine aV (aH (gL (gN ?_)))
  obtain rfl:=jN hF
  exact aBH (.inl rfl) Tryz.results77 (.tmp rfl .nil) rfl [0] rfl (by decide) ⟨none,0,0,rfl,rfl,rfl⟩
 refine aV (aH (tT rfl ?_))
 refine go ?_ ?_
 refine aIS (aHs (C:=cQ) (xs:=[]) (ps:=[]) (zs:=([]:List Rat)) rfl tyS24 rfl trivial rfl) trivial (fun b6 _=>?_)
 refine gF ?_
 obtain⟨x9,h10,hF⟩:=aR hF
 refine o9 0 rfl tyS24 rfl rfl rfl rfl rfl h10 (fun b11 c12 H13 e14=>?_)
 cases e14
 refine go ?_ ?_
 refine gL (gN ?_)
 obtain rfl:=jN hF
 exact aBH (.inl rfl) Tryz.results77 (.tmp rfl .nil) rfl [0] rfl (by decide) ⟨b11,c12,(0+a0.length),(fI h10 rfl),rfl,rfl⟩
theorem uY {a0:List Rat} {r:List Rat} (hF:nH a0=some r):Ct Tryz.prog 77 [.vc (pS cQ a0)] (.vc (pS cQ r)):=aIh (zA hF)
def nX (K:Nat):Option Int:=
 some (-1)
def kW (K:Nat) (a0:List Rat) (a1:(Rat→Option Bool)):Nat→Int→Option (LR Int Unit)
 |0,_=>none
 |k+1,x2=>bif(decide (x2<(a0.length:Int))) then((bP a0 x2).bind fun v6=>(a1 v6).bind fun v8=>bif v8 then(some (.ret x2)) else((aO (x2+1)).bind fun v11=>kW K a0 a1 k v11)) else(some (.go ()))
def pL (K:Nat) (a0:List Rat) (a1:(Rat→Option Bool)):Option Int:=
 (kW K a0 a1 K 0).bind fun o=>match o with| .ret r=>some r| .go _=>nX K
theorem xO {K:Nat} {a0:List Rat} {a1:(Rat→Option Bool)} {r:Int} (hF:pL K a0 a1=some r):Ct Tryz.prog 152 [.vc (pS cQ a0),.vc (pFn Tryz.prog (fun x:Rat=>[.va (eQ x)]) (fun r:Bool=>.vc (pB r)) a1)] (.vc (pI .i64 r)):=by
 unfold pL at hF
 refine aB Tryz.func152 rfl (by kernel_rfl) Tryz.ntmps152 rfl (fun w0 M0=>?_)
 refine go ?_ ?_
 refine aK (bE (fun H E=>nX K=some r∧H=[]∧E=[]) ?_ (fun Jj4=>?_))
 ·rintro _ _ ⟨hF,rfl,rfl⟩
  unfold nX at hF
  exact bV
 obtain⟨ol3,hL,hRl3⟩:=aR hF
 refine fO (fun k a w=>∃(x2:Int),kW K a0 a1 k x2=some ol3∧hs _ [] [(0,.vc (pS cQ a0)),(1,.vc (pFn Tryz.prog (fun x:Rat=>[.va (eQ x)]) (fun r:Bool=>.vc (pB r)) a1)),(7,.vc (pI .i64 (a0.length:Int))),(8,.vc (pI .i64 x2))] a w) K (fun a w ⟨_,hF,_⟩=>by cases hF) (fun k a w ⟨x2,hF,hh⟩=>fN ?_ hh) (fun a w hh=>⟨0,hL,jY [] hh⟩)
 rw [kW.eq_2] at hF
 refine go ?_ ?_
 refine aD hF rfl (fun h5 hF=>?_) (fun h5 hF=>?_)
 ·refine go ?_ ?_
  refine aK ?_
  obtain⟨v6,h7,v8,h9,hF⟩:=sS hF
  refine go ?_ ?_
  refine aF (aB6 (pre:=fun x:Rat=>[.va (eQ x)]) (post:=fun r:Bool=>.vc (pB r)) (x:=v6) (r:=v8) rfl h9 rfl) zU2 ?_
  refine aV (aH (aD hF rfl (fun h10 hF=>?_) (fun h10 hF=>?_)))
  ·exact bV
  obtain⟨v11,h12,hF⟩:=aR hF
  refine go ?_ ?_
  exact aG (fun a w hh=>⟨v11,hF,jY [] hh⟩)
 refine bO ?_
 obtain rfl:=jN hF
 exact rD Jj4 ⟨hRl3,rfl,rfl⟩ []
def jW (a0:Rat):Option Bool:=
 (wD a0).bind fun v2=>some (v2 != 0)
theorem wW {a0:Rat} {r:Bool} (hF:jW a0=some r):Ct Tryz.prog 153 [.va (eQ a0)] (.vc (pB r)):=by
 unfold jW at hF
 refine aB Tryz.func153 rfl (by kernel_rfl) Tryz.ntmps153 rfl (fun w0 M0=>?_)
 refine aC (aJ (dE rfl rfl trivial (fun b1=>?_)))
 obtain⟨v2,h3,hF⟩:=aZ hF fT
 exact bV
def qX (c0:aQ) (a0:Int):Option Rat:=
 bif(decide (a0<c0.vars)) then((bP c0.goal a0).bind fun v3=>(aAo v3).bind fun v5=>some v5) else((aO (2*c0.vars)).bind fun v7=>bif(decide (a0<v7)) then((aO (a0-c0.vars)).bind fun v10=>(bP c0.goal v10).bind fun v12=>some v12) else(some 0))
theorem aAG {c0:aQ} {a0:Int} {r:Rat} (hF:qX c0 a0=some r):Ct Tryz.prog 117 [.vc (pI .i64 a0),.vc (pM (aQ.cod.e c0))] (.va (eQ r)):=by
 unfold qX at hF
 refine aB Tryz.func117 rfl (by kernel_rfl) Tryz.ntmps117 rfl (fun w0 M0=>?_)
 refine aC (aJ (aE rfl tyZ42q (fun b1=>?_)))
 refine go ?_ ?_
 refine aK (go ?_ ?_)
 refine aD hF rfl (fun h2 hF=>?_) (fun h2 hF=>?_)
 ·obtain⟨v3,h4,hF⟩:=aR hF
  obtain⟨v5,h6,hF⟩:=aZ hF uA
  exact bV
 obtain⟨v7,h8,hF⟩:=aR hF
 refine go ?_ ?_
 refine aD hF rfl (fun h9 hF=>?_) (fun h9 hF=>?_)
 ·obtain⟨v10,h11,v12,h13,hF⟩:=sS hF
  exact bV
 refine go ?_ ?_
 refine aF (fK (is:=[]) (xs:=[]) (ps:=[]) rfl tyB42q rfl rfl trivial rfl) trivial ?_
 exact bV
def qP (K:Nat):Option Int:=
 some (-1)
def nQ (K:Nat) (a0:List Int) (a1:Int):Nat→Int→Option (LR Int Unit)
 |0,_=>none
 |k+1,x2=>bif(decide (x2<(a0.length:Int))) then((bP a0 x2).bind fun v6=>bif(a1==v6) then(some (.ret x2)) else((aO (x2+1)).bind fun v9=>nQ K a0 a1 k v9)) else(some (.go ()))
def pZ (K:Nat) (a0:List Int) (a1:Int):Option Int:=
 (nQ K a0 a1 K 0).bind fun o=>match o with| .ret r=>some r| .go _=>qP K
theorem uV {K:Nat} {a0:List Int} {a1:Int} {r:Int} (hF:pZ K a0 a1=some r):Ct Tryz.prog 154 [.vc (pS cI a0),.vc (pI .i64 a1)] (.vc (pI .i64 r)):=by
 unfold pZ at hF
 refine aB Tryz.func154 rfl (by kernel_rfl) Tryz.ntmps154 rfl (fun w0 M0=>?_)
 refine go ?_ ?_
 refine aK (bE (fun H E=>qP K=some r∧H=[]∧E=[]) ?_ (fun Jj4=>?_))
 ·rintro _ _ ⟨hF,rfl,rfl⟩
  unfold qP at hF
  exact bV
 obtain⟨ol3,hL,hRl3⟩:=aR hF
 refine fO (fun k a w=>∃(x2:Int),nQ K a0 a1 k x2=some ol3∧hs _ [] [(0,.vc (pS cI a0)),(1,.vc (pI .i64 a1)),(7,.vc (pI .i64 (a0.length:Int))),(8,.vc (pI .i64 x2))] a w) K (fun a w ⟨_,hF,_⟩=>by cases hF) (fun k a w ⟨x2,hF,hh⟩=>fN ?_ hh) (fun a w hh=>⟨0,hL,jY [] hh⟩)
 rw [nQ.eq_2] at hF
 refine go ?_ ?_
 refine aD hF rfl (fun h5 hF=>?_) (fun h5 hF=>?_)
 ·refine go ?_ ?_
  refine aK ?_
  obtain⟨v6,h7,hF⟩:=aR hF
  refine go ?_ ?_
  refine aD hF rfl (fun h8 hF=>?_) (fun h8 hF=>?_)
  ·exact bV
  obtain⟨v9,h10,hF⟩:=aR hF
  refine go ?_ ?_
  exact aG (fun a w hh=>⟨v9,hF,jY [] hh⟩)
 refine bO ?_
 obtain rfl:=jN hF
 exact rD Jj4 ⟨hRl3,rfl,rfl⟩ []
def qJ (K:Nat) (a0:aQ) (v6:Int) (x72:List Int) (x78:List Nat) (x84:List (List Rat)):Option (Int×Int×Int×(List Nat)×(List Rat)×(List Int)×(List (List Rat))):=
 some (a0.vars,(a0.lines.length:Int),v6,x78,([]:List Rat),x72,x84)
def mT (K:Nat) (x53:List Int) (x59:List Nat) (x65:List (List Rat)) (x71:Int) (recl90:(List Int)→(List Nat)→(List (List Rat))→Int→Option ((List Int)×(List Nat)×(List (List Rat)))) (x160:List Rat) (x166:Int):Option ((List Int)×(List Nat)×(List (List Rat))):=
 (sK x59 [x65.length]).bind fun x172=>(sK x53 [x166]).bind fun x175=>(aO (x71+1)).bind fun v182=>recl90 x175 x172 (x65++[x160]) v182
def pX (K:Nat) (a0:aQ) (v6:Int) (x53:List Int) (x59:List Nat) (x65:List (List Rat)) (x71:Int) (v93:aL) (v104:Int) (recl90:(List Int)→(List Nat)→(List (List Rat))→Int→Option ((List Int)×(List Nat)×(List (List Rat)))) (x121:List Rat):Option ((List Int)×(List Nat)×(List (List Rat))):=
 (aO (2*a0.vars)).bind fun v131=>(aO (v131+x71)).bind fun v133=>(yN 1 1).bind fun v135=>(m8 (decide (v104<0)) x121 v133 v135).bind fun v137=>(m8 (decide (v104<0)) v137 v6 v93.b).bind fun v147=>(aO (2*a0.vars)).bind fun v155=>(aO (v155+x71)).bind fun v157=>bif(decide (v104<0)) then((aO (2*a0.vars)).bind fun v185=>(aO (v185+(a0.lines.length:Int))).bind fun v187=>(aO (v187+x71)).bind fun v189=>(yN 1 1).bind fun v193=>(bP v147 v189).bind fun v195=>(oK v147 v189 v193).bind fun x197=>mT K x53 x59 x65 x71 recl90 x197 v189) else(mT K x53 x59 x65 x71 recl90 v147 v157)
def mZ (K:Nat) (a0:aQ) (v93:aL) (v104:Int):Nat→(List Rat)→Int→Option (List Rat)
 |0,_,_=>none
 |k+1,x114,x120=>bif(decide (x120<(v93.a.length:Int))) then((bP v93.a x120).bind fun v201=>(m8 (decide (v104<0)) x114 x120 v201).bind fun v204=>(aO (a0.vars+x120)).bind fun v214=>(aAo v201).bind fun v216=>(m8 (decide (v104<0)) v204 v214 v216).bind fun v218=>(aO (x120+1)).bind fun v226=>mZ K a0 v93 v104 k v218 v226) else(some x114)
def iT (K:Nat) (a0:aQ) (v6:Int):Nat→(List Int)→(List Nat)→(List (List Rat))→Int→Option ((List Int)×(List Nat)×(List (List Rat)))
 |0,_,_,_,_=>none
 |k+1,x53,x59,x65,x71=>bif(decide (x71<(a0.lines.length:Int))) then((bP a0.lines x71).bind fun v93=>(aO (v6+1)).bind fun v96=>(wK v96 0).bind fun x98=>(wD v93.b).bind fun v104=>(mZ K a0 v93 v104 K x98 0).bind fun x121=>pX K a0 v6 x53 x59 x65 x71 v93 v104 (iT K a0 v6 k) x121) else(some (x53,x59,x65))
def tI (K:Nat) (a0:aQ):Option (Int×Int×Int×(List Nat)×(List Rat)×(List Int)×(List (List Rat))):=
 (aO (2*a0.vars)).bind fun v2=>(aO (2*(a0.lines.length:Int))).bind fun v4=>(aO (v2+v4)).bind fun v6=>(iT K a0 v6 K ([]:List Int) ([]:List Nat) ([]:List (List Rat)) 0).bind fun(x72,x78,x84)=>qJ K a0 v6 x72 x78 x84
theorem aAd {K:Nat} {a0:aQ} {r:Int×Int×Int×(List Nat)×(List Rat)×(List Int)×(List (List Rat))} (hF:tI K a0=some r):yU Tryz.prog 111 [] [.va (aQ.enc a0)] (fun Ho q=>∃b1228 b1233 c1234 n1235 b1238 c1239 n1240 b1243 c1244 n1245 g1248 N1249,r.2.2.2.1.length=n1235∧r.2.2.2.2.1.length=n1240∧r.2.2.2.2.2.1.length=n1245∧r.2.2.2.2.2.2.length=N1249∧eF g1248 r.2.2.2.2.2.2∧(∀k∈r.2.2.2.1,k<N1249)∧Ho=([⟨some b1228,1,123,6,1,([pI .i64 r.1]++[pI .i64 r.2.1]++[pI .i64 r.2.2.1]++[pO b1233 n1235 c1234]++[pO b1238 n1240 c1239]++[pO b1243 n1245 c1244])⟩,hO (cH g1248) b1233 c1234 24 n1235 r.2.2.2.1,hO cQ b1238 c1239 42 n1240 r.2.2.2.2.1,hO cI b1243 c1244 3 n1245 r.2.2.2.2.2.1]++fP cQ 42 g1248 r.2.2.2.2.2.2)∧q=.vc (pP (some b1228) 0)):=by
 unfold tI at hF
 refine aB Tryz.func111 rfl (by kernel_rfl) Tryz.ntmps111 rfl (fun w0 M0=>?_)
 refine aC (aJ (dE rfl rfl trivial (fun b1=>?_)))
 refine aF (aP (p:=.any) (.inr rfl)) ⟨fun _=>trivial,trivial⟩ ?_
 refine aV (aH (aC (aJ (aF (iF (off:=0) (k:=1) rfl tyF90_1) zU1 ?_))))
 refine aF (fQ 0 1 rfl rfl rfl rfl (.one tyO88)) zU1 ?_
 refine aF (aFz rfl tyS88) zU1 ?_
 refine wU ?_
 refine aV (aH (aC (aJ (aF (iF (off:=0) (k:=0) rfl tyF90_0) zU1 ?_))))
 refine aF (fQ 0 1 rfl rfl rfl rfl (.one tyO3)) zU1 ?_
 refine gF ?_
 refine aF (iF (off:=0) (k:=0) rfl tyF90_0) zU1 ?_
 refine aF (fQ 0 1 rfl rfl rfl rfl (.one tyO3)) zU1 ?_
 obtain⟨v2,h3,hF⟩:=aR hF
 refine aF (aCI rfl h3) ⟨oF _ _,rfl,trivial⟩ ?_
 refine gF ?_
 obtain⟨v4,h5,hF⟩:=aR hF
 refine aF (aCI rfl h5) ⟨oF _ _,rfl,trivial⟩ ?_
 obtain⟨v6,h7,hF⟩:=aR hF
 refine aF (wG rfl h7) zU2 ?_
 refine aGw cQ 42 ?_
 refine aAE (cH ([]:List q0)) 24 ?_
 refine aAE cQ 42 ?_
 refine aAE cI 3 ?_
 refine aF (fK (is:=[0,1,2]) (xs:=[.tmp 17,.tmp 18,.tmp 24]) (ps:=[.vc (pI .i64 a0.vars),.vc (pI .i64 (a0.lines.length:Int)),.vc (pI .i64 v6)]) rfl tyB123_o3_o4_o5q rfl rfl ⟨trivial,trivial,trivial,trivial⟩ rfl) ⟨rfl,rfl,rfl,trivial⟩ ?_
 refine dE rfl rfl trivial (fun b33=>?_)
 refine go ?_ ?_
 refine aK (bE (fun H E=>∃(x72:List Int),∃(x78:List Nat),∃(x84:List (List Rat)),∃(b73:Option Nat),∃(c74:Nat),∃(n75:Nat),∃(b79:Option Nat),∃(c80:Nat),∃(n81:Nat),∃(g85:List q0),∃(N86:Nat),qJ K a0 v6 x72 x78 x84=some r∧x72.length=n75∧x78.length=n81∧x84.length=N86∧eF g85 x84∧(∀k∈x78,k<N86)∧H=([⟨some b33,1,123,6,1,([pI .i64 a0.vars]++[pI .i64 (a0.lines.length:Int)]++[pI .i64 v6]++[pO b79 n81 c80]++[pO none 0 0]++[pO b73 n75 c74])⟩,hO cI b73 c74 3 n75 x72,hO cQ none 0 42 0 ([]:List Rat),hO (cH g85) b79 c80 24 n81 x78]++fP cQ 42 g85 x84)∧E=[(4,.vc (pP (some b33) 0))]) ?_ (fun Jj91=>?_))
 ·rintro _ _ ⟨x72,x78,x84,b73,c74,n75,b79,c80,n81,g85,N86,hF,q76,q82,q87,q88,q89,rfl,rfl⟩
  unfold qJ at hF
  refine go ?_ ?_
  refine gL (gN ?_)
  obtain rfl:=jN hF
  exact iE (.inl rfl) Tryz.results111 (.tmp rfl .nil) rfl 4 [0,3,2,1] rfl rfl (by decide) ⟨b33,b79,c80,n81,none,0,0,b73,c74,n75,g85,N86,q82,rfl,q76,q87,q88,q89,rfl,rfl⟩
 obtain⟨⟨x72',x78',x84'⟩,hL,hRl90⟩:=aR hF
 refine fO (fun k a w=>∃(x53:List Int),∃(x59:List Nat),∃(x65:List (List Rat)),∃(x71:Int),∃(b54:Option Nat),∃(c55:Nat),∃(n56:Nat),∃(b60:Option Nat),∃(c61:Nat),∃(n62:Nat),∃(g66:List q0),∃(N67:Nat),iT K a0 v6 k x53 x59 x65 x71=some (x72',x78',x84')∧x53.length=n56∧x59.length=n62∧x65.length=N67∧eF g66 x65∧(∀k∈x59,k<N67)∧hs _ ([⟨some b33,1,123,6,1,([pI .i64 a0.vars]++[pI .i64 (a0.lines.length:Int)]++[pI .i64 v6]++[pO b60 n62 c61]++[pO none 0 0]++[pO b54 n56 c55])⟩,hO cI b54 c55 3 n56 x53,hO cQ none 0 42 0 ([]:List Rat),hO (cH g66) b60 c61 24 n62 x59,⟨some b1,1,90,3,1,(aQ.enc a0)⟩]++fP cQ 42 g66 x65) [(1,.vc (pP (some b1) 0)),(3,.vc (pI .i64 (a0.lines.length:Int))),(4,.vc (pP (some b33) 0)),(28,.vc (pS aL.cod a0.lines)),(29,.vc (pI .i64 (a0.lines.length:Int))),(30,.vc (pI .i64 x71))] a w) K (fun a w ⟨_,_,_,_,_,_,_,_,_,_,_,_,hF,_,_,_,_,_,_⟩=>by cases hF) (fun k a w ⟨x53,x59,x65,x71,b54,c55,n56,b60,c61,n62,g66,N67,hF,q57,q63,q68,q69,q70,hh⟩=>fN ?_ hh) (fun a w hh=>⟨([]:List Int),([]:List Nat),([]:List (List Rat)),0,none,0,0,none,0,0,([]:List q0),0,hL,rfl,rfl,(rfl),aDG,(by simp),aS 5 [0,1,2,3,4] rfl rfl (by decide) (by exact⟨rfl,rfl,rfl,rfl,rfl,rfl,trivial⟩) hh⟩)
 rw [iT.eq_2] at hF
 refine go ?_ ?_
 refine aD hF rfl (fun h92 hF=>?_) (fun h92 hF=>?_)
 ·refine go ?_ ?_
  refine aK ?_
  obtain⟨v93,h94,hF⟩:=aR hF
  refine go ?_ ?_
  refine aE rfl tyZ92q (fun b95=>?_)
  obtain⟨v96,h97,x98,h99,hF⟩:=sS hF
  refine go ?_ ?_
  refine o8 (C:=cQ) rfl tyS24 rfl tyZ42q rfl h99 (fun b100=>?_)
  refine aE rfl tyZ24q (fun b103=>?_)
  obtain⟨v104,h105,hF⟩:=aZ hF fT
  refine go ?_ ?_
  refine aE rfl tyZ4q (fun b106=>?_)
  refine lW (t_s 0 rfl rfl rfl tyO4.s) zU2 ?_
  refine aV (aH (aC (aJ (aHb 0 [(8,0)] rfl zU1 rfl ?_))))
  refine aF (aKJ (xs:=[.tmp 8,.tmp 7]) (cs:=[pM (cB.e (decide (v104<0))),pP (some b103) 0]) rfl rfl) zU2 ?_
  refine go ?_ ?_
  refine aK (bE (fun H E=>∃(x121:List Rat),∃(b122:Option Nat),∃(c123:Nat),∃(n124:Nat),pX K a0 v6 x53 x59 x65 x71 v93 v104 (iT K a0 v6 k) x121=some (x72',x78',x84')∧x121.length=n124∧H=([⟨some b103,1,24,1,1,[pO b122 n124 c123]⟩,hO cQ b122 c123 42 n124 x121,⟨some b95,1,92,5,1,(aL.enc v93)⟩,⟨some b33,1,123,6,1,([pI .i64 a0.vars]++[pI .i64 (a0.lines.length:Int)]++[pI .i64 v6]++[pO b60 n62 c61]++[pO none 0 0]++[pO b54 n56 c55])⟩,hO cI b54 c55 3 n56 x53,hO cQ none 0 42 0 ([]:List Rat),hO (cH g66) b60 c61 24 n62 x59,⟨some b1,1,90,3,1,(aQ.enc a0)⟩]++fP cQ 42 g66 x65)∧E=[(1,.vc (pP (some b1) 0)),(3,.vc (pI .i64 (a0.lines.length:Int))),(4,.vc (pP (some b33) 0)),(5,.vc (pI .i64 x71)),(6,.vc (pP (some b95) 0)),(7,.vc (pP (some b103) 0)),(8,.vc (pM (cB.e (decide (v104<0))))),(9,.vc (pF 147 [pM (cB.e (decide (v104<0))),pP (some b103) 0])),(28,.vc (pS aL.cod a0.lines)),(29,.vc (pI .i64 (a0.lines.length:Int))),(30,.vc (pI .i64 x71))]) ?_ (fun Jj128=>?_))
  ·rintro _ _ ⟨x121,b122,c123,n124,hF,q125,rfl,rfl⟩
   unfold pX at hF
   refine aH (aC ?_)
   have hF:=sR h3 hF
   obtain⟨v133,h134,hF⟩:=aR hF
   obtain⟨v135,h136,hF⟩:=aZ hF qG
   refine dr [0,0,2,6,0,30,0,127] 7 1 ?_ (fun bs130 G129=>?_)
   obtain⟨v137,h138,hF⟩:=aR hF
   refine aA8 (f:=147) (cs:=[pM (cB.e (decide (v104<0))),pP (some b103) 0]) (pre:=[.vc (pI .i64 v133),.va (eQ v135)]) (xs:=[.tmp 72,.tmp 73]) 8 [0,1] [2,3,4,5,6,7] rfl (pT h138 q125) ⟨rfl,rfl,rfl,trivial⟩ rfl rfl rfl (by decide) ?_
   rintro _ _ ⟨b141,c142,n140,q143,rfl,rfl⟩
   refine go ?_ ?_
   refine dr [0,0,2,6,14,0,32,127] 7 1 ?_ (fun bs146 G145=>?_)
   obtain⟨v147,h148,hF⟩:=aR hF
   refine aA8 (f:=147) (cs:=[pM (cB.e (decide (v104<0))),pP (some b103) 0]) (pre:=[.vc (pI .i64 v6),.va (eQ v93.b)]) (xs:=[.tmp 79,.tmp 81]) 8 [0,1] [2,3,4,5,6,7] rfl (pT h148 q143) ⟨rfl,rfl,rfl,trivial⟩ rfl rfl rfl (by decide) ?_
   rintro _ _ ⟨b151,c152,n150,q153,rfl,rfl⟩
   refine aV (aH (aC (aJ (aF (iF (off:=0) (k:=0) rfl tyF90_0) zU1 ?_))))
   refine aF (fQ 7 1 rfl rfl rfl rfl (.one tyO3)) zU1 ?_
   have hF:=sR h3 hF
   refine aF (aCI rfl h3) ⟨oF _ _,rfl,trivial⟩ ?_
   refine gF ?_
   have hF:=sR h134 hF
   refine aF (wG rfl h134) zU2 ?_
   refine wU ?_
   refine aV (aH (aC (w4 (fun H E=>∃(x160:List Rat),∃(x166:Int),mT K x53 x59 x65 x71 (iT K a0 v6 k) x160 x166=some (x72',x78',x84')∧x160.length=n150∧H=([⟨some b103,1,24,1,1,[pO b151 n150 c152]⟩,hO cQ b151 c152 42 n150 x160,⟨some b33,1,123,6,1,([pI .i64 a0.vars]++[pI .i64 (a0.lines.length:Int)]++[pI .i64 v6]++[pO b60 n62 c61]++[pO none 0 0]++[pO b54 n56 c55])⟩,hO cI b54 c55 3 n56 x53,hO cQ none 0 42 0 ([]:List Rat),hO (cH g66) b60 c61 24 n62 x59,⟨some b1,1,90,3,1,(aQ.enc a0)⟩]++fP cQ 42 g66 x65)∧E=[(1,.vc (pP (some b1) 0)),(3,.vc (pI .i64 (a0.lines.length:Int))),(4,.vc (pP (some b33) 0)),(7,.vc (pP (some b103) 0)),(12,.vc (pI .i64 x166)),(28,.vc (pS aL.cod a0.lines)),(29,.vc (pI .i64 (a0.lines.length:Int))),(30,.vc (pI .i64 x71))]) ?_ (fun Jj167=>?_))))
   ·rintro _ _ ⟨x160,x166,hF,q164,rfl,rfl⟩
    unfold mT at hF
    obtain⟨x172,h173,hF⟩:=aR hF
    obtain⟨x175,h176,hF⟩:=aR hF
    refine rP (HsM [(0,fun G168=>([⟨some b103,1,24,1,1,[pO b151 n150 c152]⟩,hO cQ b151 c152 42 n150 x160,⟨some b33,1,123,6,1,([pI .i64 a0.vars]++[pI .i64 (a0.lines.length:Int)]++[pI .i64 v6]++[pO b60 n62 c61]++[pO none 0 0]++[pO b54 n56 c55])⟩,hO cI b54 c55 3 n56 x53,hO cQ none 0 42 0 ([]:List Rat),hO (cH g66) b60 c61 24 n62 x59,⟨some b1,1,90,3,1,(aQ.enc a0)⟩]++fP cQ 42 g66 x65)),(1,fun G168=>([⟨some b103,1,24,1,1,[pO ((G168 7).1) n150 ((G168 7).2)]⟩,hO cQ ((G168 7).1) ((G168 7).2) 42 n150 x160,⟨some b33,1,123,6,1,([pI .i64 a0.vars]++[pI .i64 (a0.lines.length:Int)]++[pI .i64 v6]++[pO b60 n62 c61]++[pO none 0 0]++[pO b54 n56 c55])⟩,hO cI b54 c55 3 n56 x53,hO cQ none 0 42 0 ([]:List Rat),hO (cH (g66++[((G168 7).1,n150,(G168 7).2)])) b60 c61 24 n62 x59,⟨some b1,1,90,3,1,(aQ.enc a0)⟩]++fP cQ 42 g66 x65)),(3,fun G168=>([⟨some b103,1,24,1,1,[pO ((G168 7).1) n150 ((G168 7).2)]⟩,⟨some b33,1,123,6,1,([pI .i64 a0.vars]++[pI .i64 (a0.lines.length:Int)]++[pI .i64 v6]++[pO b60 n62 c61]++[pO none 0 0]++[pO b54 n56 c55])⟩,hO cI b54 c55 3 n56 x53,hO cQ none 0 42 0 ([]:List Rat),hO (cH (g66++[((G168 7).1,n150,(G168 7).2)])) ((G168 8).1) ((G168 8).2) 24 (n62+[x65.length].length) x172,⟨some b1,1,90,3,1,(aQ.enc a0)⟩]++fP cQ 42 (g66++[((G168 7).1,n150,(G168 7).2)]) (x65++[x160]))),(7,fun G168=>([⟨some b103,1,24,1,1,[pO ((G168 7).1) n150 ((G168 7).2)]⟩,⟨some b33,1,123,6,1,([pI .i64 a0.vars]++[pI .i64 (a0.lines.length:Int)]++[pI .i64 v6]++[pO b60 n62 c61]++[pO none 0 0]++[pO b54 n56 c55])⟩,hO cI ((G168 15).1) ((G168 15).2) 3 (n56+[x166].length) x175,hO cQ none 0 42 0 ([]:List Rat),hO (cH (g66++[((G168 7).1,n150,(G168 7).2)])) ((G168 8).1) ((G168 8).2) 24 (n62+[x65.length].length) x172,⟨some b1,1,90,3,1,(aQ.enc a0)⟩]++fP cQ 42 (g66++[((G168 7).1,n150,(G168 7).2)]) (x65++[x160]))),(15,fun G168=>([⟨some b103,1,24,1,1,[pO ((G168 7).1) n150 ((G168 7).2)]⟩,⟨some b33,1,123,6,1,([pI .i64 a0.vars]++[pI .i64 (a0.lines.length:Int)]++[pI .i64 v6]++[pO ((G168 8).1) (n62+[x65.length].length) ((G168 8).2)]++[pO none 0 0]++[pO b54 n56 c55])⟩,hO cI ((G168 15).1) ((G168 15).2) 3 (n56+[x166].length) x175,hO cQ none 0 42 0 ([]:List Rat),hO (cH (g66++[((G168 7).1,n150,(G168 7).2)])) ((G168 8).1) ((G168 8).2) 24 (n62+[x65.length].length) x172,⟨some b1,1,90,3,1,(aQ.enc a0)⟩]++fP cQ 42 (g66++[((G168 7).1,n150,(G168 7).2)]) (x65++[x160])))]) [7,8,15,18] [0,0,0,4,12,28,0,64,252,0,512,1536,3584,0,8192,32764,65533,131069,262141,524287,1048575,2097151] 21 1 [.v (.vc (pP (some b33) 0)),.v (.vc (pP (some b33) 0)),.v (.vc (pP (some b33) 0)),.v (.vc (pP (some b33) 0)),.v (.vc (pP (some b33) 3)),.v (.vc (pO b60 n62 c61)),.v (.vc (pO b151 n150 c152)),.g (fun b c=>.vc (pS (cH (g66++[(b,n150,c)])) [x65.length])),.g (fun b c=>.vc (pO b (n62+[x65.length].length) c)),.v (.vc (pP (some b33) 0)),.v (.vc (pP (some b33) 0)),.v (.vc (pP (some b33) 5)),.v (.vc (pO b54 n56 c55)),.v (.vc (pI .i64 x166)),.v (.vc (pS cI [x166])),.g (fun b c=>.vc (pO b (n56+[x166].length) c)),.v (.vc (pP (some b33) 0)),.v (.vc (pP (some b33) 3)),.g (fun _ _=>.any),.v (.vc (pP (some b33) 0)),.v (.vc (pP (some b33) 5))] bB ⟨⟨rfl,.run (L:=[0,1,3,7]) ⟨fun G168 A=>aP (.inl rfl),fun G168 A=>aP (.inl rfl),fun G168 A=>aP (.inl rfl),fun G168 A=>aP (.inl rfl),trivial⟩ (fun G168=>zU1)⟩,⟨rfl,.run (L:=[0,1,3,7,15]) ⟨fun G168 A=>aP (.inl rfl),fun G168 A=>aP (.inl rfl),fun G168 A=>aP (.inl rfl),fun G168 A=>aP (.inl rfl),fun G168 A=>aP (.inl rfl),trivial⟩ (fun G168=>zU1)⟩,⟨rfl,.run (L:=[0,1]) ⟨fun G168 A=>aP (.inl rfl),fun G168 A=>aP (.inl rfl),trivial⟩ (fun G168=>zU1)⟩,⟨rfl,.run (L:=[0,1]) ⟨fun G168 A=>oH rfl,fun G168 A=>oH rfl,trivial⟩ (fun G168=>zU1)⟩,⟨rfl,.run (L:=[0,1]) ⟨fun G168 A=>iF (off:=0) (k:=3) rfl tyF123_3,fun G168 A=>iF (off:=0) (k:=3) rfl tyF123_3,trivial⟩ (fun G168=>zU1)⟩,⟨rfl,.run (L:=[0,1]) ⟨fun G168 A=>fQ 2 1 rfl rfl rfl rfl (.one tyO23),fun G168 A=>fQ 2 1 rfl rfl rfl rfl (.one tyO23),trivial⟩ (fun G168=>zU1)⟩,d1 0 (fQ 0 1 rfl rfl rfl rfl (.one tyO24)) zU1,⟨rfl,.hvy [0] ⟨fun G168 A=>aGz b151 c152 (aLx (rs:=x65) rfl tyS23 q69.1 (show([⟨some b103,1,24,1,1,[pO b151 n150 c152]⟩,hO cQ b151 c152 42 n150 x160,⟨some b33,1,123,6,1,([pI .i64 a0.vars]++[pI .i64 (a0.lines.length:Int)]++[pI .i64 v6]++[pO b60 n62 c61]++[pO none 0 0]++[pO b54 n56 c55])⟩,hO cI b54 c55 3 n56 x53,hO cQ none 0 42 0 ([]:List Rat),hO (cH (g66++[(b151,n150,c152)])) b60 c61 24 n62 x59,⟨some b1,1,90,3,1,(aQ.enc a0)⟩]++fP cQ 42 g66 x65)++A=([⟨some b103,1,24,1,1,[pO b151 n150 c152]⟩,hO cQ b151 c152 42 n150 x160,⟨some b33,1,123,6,1,([pI .i64 a0.vars]++[pI .i64 (a0.lines.length:Int)]++[pI .i64 v6]++[pO b60 n62 c61]++[pO none 0 0]++[pO b54 n56 c55])⟩,hO cI b54 c55 3 n56 x53,hO cQ none 0 42 0 ([]:List Rat),hO (cH g66) b60 c61 24 n62 x59,⟨some b1,1,90,3,1,(aQ.enc a0)⟩]++fP cQ 42 g66 x65)++A from by rw [aFR (N:=x65.length) (b151,n150,c152) q69.1 (aFY q68 q70)])),trivial⟩ (fun G168=>zU1)⟩,⟨rfl,.hvy (ins:=fun G168=>[(.tmp 105,.vc (pO b60 n62 c61)),(.tmp 107,.vc (pS (cH (g66++[((G168 7).1,n150,(G168 7).2)])) [x65.length]))]) [1] ⟨fun G168 A=>aNv (X:=[⟨some b103,1,24,1,1,[pO ((G168 7).1) n150 ((G168 7).2)]⟩,hO cQ ((G168 7).1) ((G168 7).2) 42 n150 x160,⟨some b33,1,123,6,1,([pI .i64 a0.vars]++[pI .i64 (a0.lines.length:Int)]++[pI .i64 v6]++[pO b60 n62 c61]++[pO none 0 0]++[pO b54 n56 c55])⟩,hO cI b54 c55 3 n56 x53,hO cQ none 0 42 0 ([]:List Rat),hO (cH (g66++[((G168 7).1,n150,(G168 7).2)])) b60 c61 24 n62 x59,⟨some b1,1,90,3,1,(aQ.enc a0)⟩]) (X':=[⟨some b103,1,24,1,1,[pO ((G168 7).1) n150 ((G168 7).2)]⟩,⟨some b33,1,123,6,1,([pI .i64 a0.vars]++[pI .i64 (a0.lines.length:Int)]++[pI .i64 v6]++[pO b60 n62 c61]++[pO none 0 0]++[pO b54 n56 c55])⟩,hO cI b54 c55 3 n56 x53,hO cQ none 0 42 0 ([]:List Rat),hO (cH (g66++[((G168 7).1,n150,(G168 7).2)])) b60 c61 24 n62 x59,⟨some b1,1,90,3,1,(aQ.enc a0)⟩]) (gs:=g66) (rs:=x65) (r:=x160) (A:=A) (g:=((G168 7).1,n150,(G168 7).2)) 1 rfl rfl q69 (aCC (C:=(cH (g66++[((G168 7).1,n150,(G168 7).2)]))) (T:=24) 4 rfl tyS23 rfl rfl q63 h173),trivial⟩ (fun G168=>zU2)⟩,⟨rfl,.run (L:=[0,1,3]) ⟨fun G168 A=>aP (.inl rfl),fun G168 A=>aP (.inl rfl),fun G168 A=>aP (.inl rfl),trivial⟩ (fun G168=>zU1)⟩,⟨rfl,.run (L:=[0,1,3]) ⟨fun G168 A=>oH rfl,fun G168 A=>oH rfl,fun G168 A=>oH rfl,trivial⟩ (fun G168=>zU1)⟩,⟨rfl,.run (L:=[0,1,3]) ⟨fun G168 A=>iF (off:=0) (k:=5) rfl tyF123_5,fun G168 A=>iF (off:=0) (k:=5) rfl tyF123_5,fun G168 A=>iF (off:=0) (k:=5) rfl tyF123_5,trivial⟩ (fun G168=>zU1)⟩,⟨rfl,.run (L:=[0,1,3]) ⟨fun G168 A=>fQ 2 1 rfl rfl rfl rfl (.one tyO22),fun G168 A=>fQ 2 1 rfl rfl rfl rfl (.one tyO22),fun G168 A=>fQ 1 1 rfl rfl rfl rfl (.one tyO22),trivial⟩ (fun G168=>zU1)⟩,⟨rfl,.run (L:=[0,1,3]) ⟨fun G168 A=>aP (.inl rfl),fun G168 A=>aP (.inl rfl),fun G168 A=>aP (.inl rfl),trivial⟩ (fun G168=>zU1)⟩,⟨rfl,.run (L:=[0,1,3]) ⟨fun G168 A=>gO (C:=cI) (xs:=[.tmp 113]) (ps:=[.vc (pI .i64 x166)]) (zs:=[x166]) rfl tyS22 rfl ⟨⟨trivial,rfl⟩,trivial⟩ rfl,fun G168 A=>gO (C:=cI) (xs:=[.tmp 113]) (ps:=[.vc (pI .i64 x166)]) (zs:=[x166]) rfl tyS22 rfl ⟨⟨trivial,rfl⟩,trivial⟩ rfl,fun G168 A=>gO (C:=cI) (xs:=[.tmp 113]) (ps:=[.vc (pI .i64 x166)]) (zs:=[x166]) rfl tyS22 rfl ⟨⟨trivial,rfl⟩,trivial⟩ rfl,trivial⟩ (fun G168=>zU1)⟩,⟨rfl,.hvy (ins:=fun G168=>[(.tmp 112,.vc (pO b54 n56 c55)),(.tmp 114,.vc (pS cI [x166]))]) [3] ⟨fun G168 A=>aCC 2 rfl tyS22 rfl rfl q57 h176,trivial⟩ (fun G168=>zU2)⟩,d1 7 (oH rfl) zU1,d1 7 (iF (off:=0) (k:=3) rfl tyF123_3) zU1,⟨rfl,.hvy (ins:=fun G168=>[(.tmp 117,.vc (pP (some b33) 3)),(.tmp 108,.vc (pO ((G168 8).1) (n62+[x65.length].length) ((G168 8).2)))]) [7] ⟨fun G168 A=>aGz none 0 (t_s 1 rfl rfl rfl tyO23.s),trivial⟩ (fun G168=>zU2)⟩,d1 15 (oH rfl) zU1,d1 15 (iF (off:=0) (k:=5) rfl tyF123_5) zU1,trivial⟩ (fun bs169 G168=>?_)
    obtain⟨v182,h183,hF⟩:=aR hF
    refine go ?_ ?_
    exact aG (fun a w hh=>⟨x175,x172,(x65++[x160]),v182,((G168 15).1),((G168 15).2),(n56+[x166].length),((G168 8).1),((G168 8).2),(n62+[x65.length].length),(g66++[((G168 7).1,n150,(G168 7).2)]),(N67+1),hF,(fI h176 q57),(fI h173 q63),(aCO q68),(aAy q69 q164),(aIz q70 q68 h173),aS 6 [1,2,3,4,5] rfl rfl (by decide) (by exact⟨rfl,rfl,rfl,rfl,rfl,rfl,trivial⟩) hh⟩)
   refine go ?_ ?_
   refine aD hF rfl (fun h184 hF=>?_) (fun h184 hF=>?_)
   ·have hF:=sR h3 hF
    obtain⟨v187,h188,v189,h190,hF⟩:=sS hF
    obtain⟨v193,h194,hF⟩:=aZ hF qG
    obtain⟨v195,h196,hF⟩:=aR hF
    refine go ?_ ?_
    refine dr [0,0,0,7,15] 4 1 ?_ (fun bs192 G191=>?_)
    obtain⟨x197,h198,hF⟩:=aR hF
    refine lW (xE 1 rfl rfl h196 h198 tyA42.s) zU2 ?_
    refine aV ?_
    exact fY Jj167 ⟨x197,v189,hF,(bH h198 q153),rfl,rfl⟩ 8 [0,1,3,4,5,6,7] rfl rfl ⟨rfl,rfl,rfl,rfl,rfl,rfl,rfl,rfl,trivial⟩
   refine f7 ?_
   exact fY Jj167 ⟨v147,v133,hF,q153,rfl,rfl⟩ 8 [0,1,3,4,5,6,7] rfl rfl ⟨rfl,rfl,rfl,rfl,rfl,rfl,rfl,rfl,trivial⟩
  obtain⟨x121',hL,hRl127⟩:=aR hF
  refine fO (fun k a w=>∃(x114:List Rat),∃(x120:Int),∃(b115:Option Nat),∃(c116:Nat),∃(n117:Nat),mZ K a0 v93 v104 k x114 x120=some x121'∧x114.length=n117∧hs _ ([⟨some b103,1,24,1,1,[pO b115 n117 c116]⟩,hO cQ b115 c116 42 n117 x114,⟨some b95,1,92,5,1,(aL.enc v93)⟩,⟨some b33,1,123,6,1,([pI .i64 a0.vars]++[pI .i64 (a0.lines.length:Int)]++[pI .i64 v6]++[pO b60 n62 c61]++[pO none 0 0]++[pO b54 n56 c55])⟩,hO cI b54 c55 3 n56 x53,hO cQ none 0 42 0 ([]:List Rat),hO (cH g66) b60 c61 24 n62 x59,⟨some b1,1,90,3,1,(aQ.enc a0)⟩]++fP cQ 42 g66 x65) [(1,.vc (pP (some b1) 0)),(3,.vc (pI .i64 (a0.lines.length:Int))),(4,.vc (pP (some b33) 0)),(5,.vc (pI .i64 x71)),(6,.vc (pP (some b95) 0)),(7,.vc (pP (some b103) 0)),(8,.vc (pM (cB.e (decide (v104<0))))),(9,.vc (pF 147 [pM (cB.e (decide (v104<0))),pP (some b103) 0])),(28,.vc (pS aL.cod a0.lines)),(29,.vc (pI .i64 (a0.lines.length:Int))),(30,.vc (pI .i64 x71)),(47,.vc (pS cQ v93.a)),(48,.vc (pI .i64 (v93.a.length:Int))),(49,.vc (pI .i64 x120))] a w) K (fun a w ⟨_,_,_,_,_,hF,_,_⟩=>by cases hF) (fun k a w ⟨x114,x120,b115,c116,n117,hF,q118,hh⟩=>fN ?_ hh) (fun a w hh=>⟨x98,0,b100,x98.length,x98.length,hL,rfl,aS 8 [0,1,2,3,4,5,6,7] rfl rfl (by decide) (by exact⟨rfl,rfl,rfl,rfl,rfl,rfl,rfl,rfl,rfl,rfl,rfl,rfl,rfl,rfl,trivial⟩) hh⟩)
  rw [mZ.eq_2] at hF
  refine go ?_ ?_
  refine aD hF rfl (fun h200 hF=>?_) (fun h200 hF=>?_)
  ·refine go ?_ ?_
   refine aK ?_
   obtain⟨v201,h202,hF⟩:=aR hF
   refine go ?_ ?_
   refine aE rfl tyZ42q (fun b203=>?_)
   obtain⟨v204,h205,hF⟩:=aR hF
   refine go ?_ ?_
   refine aA8 (f:=147) (cs:=[pM (cB.e (decide (v104<0))),pP (some b103) 0]) (pre:=[.vc (pI .i64 x120),.va (eQ v201)]) (xs:=[.tmp 55,.tmp 56]) 9 [1,2] [0,3,4,5,6,7,8] rfl (pT h205 q118) ⟨rfl,rfl,rfl,trivial⟩ rfl rfl rfl (by decide) ?_
   rintro _ _ ⟨b208,c209,n207,q210,rfl,rfl⟩
   refine aV (aH ?_)
   obtain⟨v214,h215,hF⟩:=aR hF
   obtain⟨v216,h217,hF⟩:=aZ hF uA
   refine dr [0,0,2,0,14,0,32,127] 7 1 ?_ (fun bs213 G212=>?_)
   obtain⟨v218,h219,hF⟩:=aR hF
   refine aA8 (f:=147) (cs:=[pM (cB.e (decide (v104<0))),pP (some b103) 0]) (pre:=[.vc (pI .i64 v214),.va (eQ v216)]) (xs:=[.tmp 62,.tmp 64]) 9 [0,1] [2,3,4,5,6,7,8] rfl (pT h219 q210) ⟨rfl,rfl,rfl,trivial⟩ rfl rfl rfl (by decide) ?_
   rintro _ _ ⟨b222,c223,n221,q224,rfl,rfl⟩
   obtain⟨v226,h227,hF⟩:=aR hF
   refine go ?_ ?_
   exact aG (fun a w hh=>⟨v218,v226,b222,c223,n221,hF,q224,aS 9 [0,1,3,4,5,6,7,8] rfl rfl (by decide) (by exact⟨rfl,rfl,rfl,rfl,rfl,rfl,rfl,rfl,rfl,rfl,rfl,rfl,rfl,rfl,trivial⟩) hh⟩)
  refine bO ?_
  obtain rfl:=jN hF
  exact fY Jj128 ⟨x114,b115,c116,n117,hRl127,q118,rfl,rfl⟩ 8 [0,1,2,3,4,5,6,7] rfl rfl ⟨rfl,rfl,rfl,rfl,rfl,rfl,rfl,rfl,rfl,rfl,rfl,trivial⟩
 refine bO ?_
 obtain⟨rfl,rfl,rfl⟩:=sm3 hF
 exact fY Jj91 ⟨x53,x59,x65,b54,c55,n56,b60,c61,n62,g66,N67,hRl90,q57,q63,q68,q69,q70,rfl,rfl⟩ 5 [0,1,2,3] rfl rfl zU1
def qN (K:Nat) (x34:List Rat):Option (List Rat):=
 some x34
def k9 (K:Nat) (a0:Nat) (a3:List (List Rat)) (v14:Rat):Nat→(List Rat)→Int→Option (List Rat)
 |0,_,_=>none
 |k+1,x27,x33=>bif(decide (x33<((a3.getD a0 []).length:Int))) then((bP (a3.getD a0 []) x33).bind fun v43=>(wD v43).bind fun v46=>bif(v46 != 0) then((bP x27 x33).bind fun v51=>(aCc v14 v43).bind fun v53=>(aEj v51 v53).bind fun v55=>(bP x27 x33).bind fun v57=>(oK x27 x33 v55).bind fun x59=>(aO (x33+1)).bind fun v62=>k9 K a0 a3 v14 k x59 v62) else((aO (x33+1)).bind fun v64=>k9 K a0 a3 v14 k x27 v64)) else(some x27)
def qW (K:Nat) (a0:Nat) (a1:Int) (a2:List Rat) (a3:List (List Rat)):Option (List Rat):=
 (bP a2 a1).bind fun v14=>(wD v14).bind fun v17=>bif(v17==0) then(some a2) else((k9 K a0 a3 v14 K a2 0).bind fun x34=>qN K x34)
theorem uZ {K:Nat} {a0:Nat} {a1:Int} {a2:List Rat} {a3:List (List Rat)} {r:List Rat} (hF:qW K a0 a1 a2 a3=some r) {b4:Option Nat} {c5 n6:Nat} {g9:List q0} {N10:Nat} (q7:a2.length=n6) (q11:a3.length=N10) (q12:eF g9 a3) (q3:a0<N10):yU Tryz.prog 148 ([hO cQ b4 c5 42 n6 a2]++fP cQ 42 g9 a3) [.vc (pO b4 n6 c5),.vc (pO (iG g9 a0).1 (iG g9 a0).2.1 (iG g9 a0).2.2),.vc (pI .i64 a1)] (fun Ho q=>r.length=n6∧Ho=([hO cQ b4 c5 42 n6 r]++fP cQ 42 g9 a3)∧q=.any):=by
 unfold qW at hF
 refine aB Tryz.func148 rfl (by kernel_rfl) Tryz.ntmps148 rfl (fun w0 M0=>?_)
 obtain⟨v14,h15,hF⟩:=aR hF
 refine go ?_ ?_
 refine aE rfl tyZ42q (fun b16=>?_)
 obtain⟨v17,h18,hF⟩:=aZ hF fT
 refine go ?_ ?_
 refine aD hF rfl (fun h19 hF=>?_) (fun h19 hF=>?_)
 ·refine gL (gN ?_)
  obtain rfl:=jN hF
  exact iE (.inl rfl) Tryz.results148 .nil rfl 2 [1] rfl rfl (by decide) ⟨q7,rfl,rfl⟩
 refine go ?_ ?_
 refine aF (aAP (C:=cQ) (xs:=(a3.getD a0 [])) (T:=42) rfl tyS24 (fC q12 q11 q3)) zU1 ?_
 refine go ?_ ?_
 refine aK (bE (fun H E=>∃(x34:List Rat),qN K x34=some r∧x34.length=n6∧H=([hO cQ b4 c5 42 n6 x34]++fP cQ 42 g9 a3)∧E=[]) ?_ (fun Jj41=>?_))
 ·rintro _ _ ⟨x34,hF,q38,rfl,rfl⟩
  unfold qN at hF
  obtain rfl:=jN hF
  exact iE (.inr rfl) Tryz.results148 .nil rfl 1 [0] rfl rfl (by decide) ⟨q38,rfl,rfl⟩
 obtain⟨x34',hL,hRl40⟩:=aR hF
 refine fO (fun k a w=>∃(x27:List Rat),∃(x33:Int),k9 K a0 a3 v14 k x27 x33=some x34'∧x27.length=n6∧hs _ ([⟨some b16,1,42,4,1,(eQ v14)⟩,hO cQ b4 c5 42 n6 x27]++fP cQ 42 g9 a3) [(0,.vc (pO b4 n6 c5)),(6,.vc (pP (some b16) 0)),(16,.vc (pO (iG g9 a0).1 (iG g9 a0).2.1 (iG g9 a0).2.2)),(17,.vc (pI .i64 ((a3.getD a0 []).length:Int))),(18,.vc (pI .i64 x33))] a w) K (fun a w ⟨_,_,hF,_,_⟩=>by cases hF) (fun k a w ⟨x27,x33,hF,q31,hh⟩=>fN ?_ hh) (fun a w hh=>⟨a2,0,hL,q7,aS 2 [0,1] rfl rfl (by decide) (by exact⟨rfl,rfl,rfl,rfl,rfl,trivial⟩) hh⟩)
 rw [k9.eq_2] at hF
 refine go ?_ ?_
 refine aD hF rfl (fun h42 hF=>?_) (fun h42 hF=>?_)
 ·refine go ?_ ?_
  refine aK ?_
  obtain⟨v43,h44,hF⟩:=aR hF
  refine go ?_ ?_
  refine aF (iC (2+a0) rfl tyS24 (rU 2 rfl q12 q11 q3) (fC q12 q11 q3) (aI h44).1 (aI h44).2.1) zU2 ?_
  refine aF (lA (k:=4) (2+a0) rfl (rU 2 rfl q12 q11 q3) h44 rfl (.agg tyA42) rfl) zU1 ?_
  refine aE rfl tyZ42q (fun b45=>?_)
  obtain⟨v46,h47,hF⟩:=aZ hF fT
  refine go ?_ ?_
  refine aD hF rfl (fun h48 hF=>?_) (fun h48 hF=>?_)
  ·obtain⟨v51,h52,hF⟩:=aR hF
   obtain⟨v53,h54,hF⟩:=aZ hF vS
   obtain⟨v55,h56,hF⟩:=aZ hF vH
   have hF:=sR h52 hF
   refine dr [0,0,0,0,12,28,0,0,192,508,1023,2047] 11 1 ?_ (fun bs50 G49=>?_)
   obtain⟨x59,h60,v62,h63,hF⟩:=sS hF
   refine go ?_ ?_
   exact aG (fun a w hh=>⟨x59,v62,hF,(bH h60 q31),aS 3 [1,2] rfl rfl (by decide) (by exact⟨rfl,rfl,rfl,rfl,rfl,trivial⟩) hh⟩)
  obtain⟨v64,h65,hF⟩:=aR hF
  refine go ?_ ?_
  exact aG (fun a w hh=>⟨x27,v64,hF,q31,aS 3 [1,2] rfl rfl (by decide) (by exact⟨rfl,rfl,rfl,rfl,rfl,trivial⟩) hh⟩)
 refine bO ?_
 obtain rfl:=jN hF
 exact fY Jj41 ⟨x27,hRl40,q31,rfl,rfl⟩ 2 [1] rfl rfl trivial
def mK (K:Nat) (x69:List Rat):Option (List Rat):=
 some x69
def iZ (K:Nat) (a4:List Nat) (a6:List Int) (a7:List (List Rat)):Nat→(List Rat)→Int→Option (List Rat)
 |0,_,_=>none
 |k+1,x62,x68=>bif(decide (x68<(a6.length:Int))) then((bP a6 x68).bind fun v78=>(bP a4 x68).bind fun v82=>(qW K v82 v78 x62 a7).bind fun v84=>(aO (x68+1)).bind fun v88=>iZ K a4 a6 a7 k v84 v88) else(some x62)
def mI (K:Nat) (a4:List Nat) (a6:List Int) (a7:List (List Rat)) (x47:List Rat):Option (List Rat):=
 (iZ K a4 a6 a7 K x47 0).bind fun x69=>mK K x69
def jC (K:Nat) (a0:(Int→Option Rat)) (a3:Int):Nat→(List Rat)→Int→Option (List Rat)
 |0,_,_=>none
 |k+1,x40,x46=>bif(decide (x46<a3)) then((a0 x46).bind fun v93=>(bP x40 x46).bind fun v95=>(oK x40 x46 v93).bind fun x97=>(aO (x46+1)).bind fun v100=>jC K a0 a3 k x97 v100) else(some x40)
def lL (K:Nat) (a0:(Int→Option Rat)) (a1:Int) (a2:Int) (a3:Int) (a4:List Nat) (a5:List Rat) (a6:List Int) (a7:List (List Rat)):Option (List Rat):=
 (aO (a3+1)).bind fun v26=>(wK v26 0).bind fun x28=>(jC K a0 a3 K x28 0).bind fun x47=>mI K a4 a6 a7 x47
theorem rK {K:Nat} {a0:(Int→Option Rat)} {a1:Int} {a2:Int} {a3:Int} {a4:List Nat} {a5:List Rat} {a6:List Int} {a7:List (List Rat)} {r:List Rat} (hF:lL K a0 a1 a2 a3 a4 a5 a6 a7=some r) {p0:Nat} {b5:Option Nat} {c6 n7:Nat} {b10:Option Nat} {c11 n12:Nat} {b15:Option Nat} {c16 n17:Nat} {g20:List q0} {N21:Nat} (q8:a4.length=n7) (q13:a5.length=n12) (q18:a6.length=n17) (q22:a7.length=N21) (q23:eF g20 a7) (q24:∀k∈a4,k<N21):yU Tryz.prog 112 ([⟨some p0,1,123,6,1,([pI .i64 a1]++[pI .i64 a2]++[pI .i64 a3]++[pO b5 n7 c6]++[pO b10 n12 c11]++[pO b15 n17 c16])⟩,hO (cH g20) b5 c6 24 n7 a4,hO cQ b10 c11 42 n12 a5,hO cI b15 c16 3 n17 a6]++fP cQ 42 g20 a7) [.vc (pP (some p0) 0),.vc (pFn Tryz.prog (fun x:Int=>[.vc (pI .i64 x)]) (fun r:Rat=>.va (eQ r)) a0)] (fun Ho q=>∃b1103 c1104 n1105,r.length=n1105∧Ho=([⟨some p0,1,123,6,1,([pI .i64 a1]++[pI .i64 a2]++[pI .i64 a3]++[pO b5 n7 c6]++[pO b1103 n1105 c1104]++[pO b15 n17 c16])⟩,hO (cH g20) b5 c6 24 n7 a4,hO cQ b10 c11 42 n12 a5,hO cI b15 c16 3 n17 a6,hO cQ b1103 c1104 42 n1105 r]++fP cQ 42 g20 a7)∧q=.any):=by
 unfold lL at hF
 refine aB Tryz.func112 rfl (by kernel_rfl) Tryz.ntmps112 rfl (fun w0 M0=>?_)
 obtain⟨v26,h27,x28,h29,hF⟩:=sS hF
 refine go ?_ ?_
 refine o8 (C:=cQ) rfl tyS24 rfl tyZ42q rfl h29 (fun b30=>?_)
 refine go ?_ ?_
 refine aK (bE (fun H E=>∃(x47:List Rat),mI K a4 a6 a7 x47=some r∧x47.length=x28.length∧H=([hO cQ b30 x28.length 42 x28.length x47,⟨some p0,1,123,6,1,([pI .i64 a1]++[pI .i64 a2]++[pI .i64 a3]++[pO b5 n7 c6]++[pO b30 x28.length x28.length]++[pO b15 n17 c16])⟩,hO (cH g20) b5 c6 24 n7 a4,hO cQ b10 c11 42 n12 a5,hO cI b15 c16 3 n17 a6]++fP cQ 42 g20 a7)∧E=[(0,.vc (pP (some p0) 0))]) ?_ (fun Jj54=>?_))
 ·rintro _ _ ⟨x47,hF,q51,rfl,rfl⟩
  unfold mI at hF
  refine go ?_ ?_
  refine aK (bE (fun H E=>∃(x69:List Rat),mK K x69=some r∧x69.length=x28.length∧H=([hO cQ b30 x28.length 42 x28.length x69,⟨some p0,1,123,6,1,([pI .i64 a1]++[pI .i64 a2]++[pI .i64 a3]++[pO b5 n7 c6]++[pO b30 x28.length x28.length]++[pO b15 n17 c16])⟩,hO (cH g20) b5 c6 24 n7 a4,hO cQ b10 c11 42 n12 a5,hO cI b15 c16 3 n17 a6]++fP cQ 42 g20 a7)∧E=[]) ?_ (fun Jj76=>?_))
  ·rintro _ _ ⟨x69,hF,q73,rfl,rfl⟩
   unfold mK at hF
   obtain rfl:=jN hF
   exact iE (.inr rfl) Tryz.results112 .nil rfl 5 [1,2,3,4,0] rfl rfl (by decide) ⟨b30,x28.length,x28.length,q73,rfl,rfl⟩
  obtain⟨x69',hL,hRl75⟩:=aR hF
  refine fO (fun k a w=>∃(x62:List Rat),∃(x68:Int),iZ K a4 a6 a7 k x62 x68=some x69'∧x62.length=x28.length∧hs _ ([hO cQ b30 x28.length 42 x28.length x62,⟨some p0,1,123,6,1,([pI .i64 a1]++[pI .i64 a2]++[pI .i64 a3]++[pO b5 n7 c6]++[pO b30 x28.length x28.length]++[pO b15 n17 c16])⟩,hO (cH g20) b5 c6 24 n7 a4,hO cQ b10 c11 42 n12 a5,hO cI b15 c16 3 n17 a6]++fP cQ 42 g20 a7) [(0,.vc (pP (some p0) 0)),(36,.vc (pO b15 n17 c16)),(37,.vc (pI .i64 (a6.length:Int))),(38,.vc (pI .i64 x68))] a w) K (fun a w ⟨_,_,hF,_,_⟩=>by cases hF) (fun k a w ⟨x62,x68,hF,q66,hh⟩=>fN ?_ hh) (fun a w hh=>⟨x47,0,hL,q51,aS 5 [0,1,2,3,4] rfl rfl (by decide) (by exact⟨rfl,rfl,rfl,rfl,trivial⟩) hh⟩)
  rw [iZ.eq_2] at hF
  refine go ?_ ?_
  refine aD hF rfl (fun h77 hF=>?_) (fun h77 hF=>?_)
  ·refine go ?_ ?_
   refine aK ?_
   obtain⟨v78,h79,v82,h83,hF⟩:=sS hF
   refine go ?_ ?_
   refine dr [0,1,3,7,0,16,48,112,0,496,1008,0,4095] 12 1 ?_ (fun bs81 G80=>?_)
   obtain⟨v84,h85,hF⟩:=aR hF
   refine lQ 5 [0] [1,2,3,4] rfl (uZ h85 q66 q22 q23 (q24 _ (aW h83))) ⟨rfl,rfl,rfl,trivial⟩ rfl rfl rfl (by decide) ?_
   rintro _ _ ⟨q86,rfl,rfl⟩
   refine kE (gX [hO cQ b30 x28.length 42 x28.length v84] (fP cQ 42 g20 a7) [⟨some p0,1,123,6,1,([pI .i64 a1]++[pI .i64 a2]++[pI .i64 a3]++[pO b5 n7 c6]++[pO b30 x28.length x28.length]++[pO b15 n17 c16])⟩,hO (cH g20) b5 c6 24 n7 a4,hO cQ b10 c11 42 n12 a5,hO cI b15 c16 3 n17 a6]) ?_
   obtain⟨v88,h89,hF⟩:=aR hF
   refine go ?_ ?_
   exact aG (fun a w hh=>⟨v84,v88,hF,q86,aS 5 [0,1,2,3,4] rfl rfl (by decide) (by exact⟨rfl,rfl,rfl,rfl,trivial⟩) hh⟩)
  refine bO ?_
  obtain rfl:=jN hF
  exact fY Jj76 ⟨x62,hRl75,q66,rfl,rfl⟩ 5 [0,1,2,3,4] rfl rfl trivial
 obtain⟨x47',hL,hRl53⟩:=aR hF
 refine fO (fun k a w=>∃(x40:List Rat),∃(x46:Int),jC K a0 a3 k x40 x46=some x47'∧x40.length=x28.length∧hs _ ([hO cQ b30 x28.length 42 x28.length x40,⟨some p0,1,123,6,1,([pI .i64 a1]++[pI .i64 a2]++[pI .i64 a3]++[pO b5 n7 c6]++[pO b30 x28.length x28.length]++[pO b15 n17 c16])⟩,hO (cH g20) b5 c6 24 n7 a4,hO cQ b10 c11 42 n12 a5,hO cI b15 c16 3 n17 a6]++fP cQ 42 g20 a7) [(0,.vc (pP (some p0) 0)),(1,.vc (pFn Tryz.prog (fun x:Int=>[.vc (pI .i64 x)]) (fun r:Rat=>.va (eQ r)) a0)),(19,.vc (pI .i64 a3)),(20,.vc (pI .i64 x46))] a w) K (fun a w ⟨_,_,hF,_,_⟩=>by cases hF) (fun k a w ⟨x40,x46,hF,q44,hh⟩=>fN ?_ hh) (fun a w hh=>⟨x28,0,hL,rfl,aS 5 [0,1,2,3,4] rfl rfl (by decide) (by exact⟨rfl,rfl,rfl,rfl,trivial⟩) hh⟩)
 rw [jC.eq_2] at hF
 refine go ?_ ?_
 refine aD hF rfl (fun h90 hF=>?_) (fun h90 hF=>?_)
 ·refine go ?_ ?_
  refine aK ?_
  obtain⟨v93,h94,v95,h96,hF⟩:=sS hF
  refine go ?_ ?_
  refine jI [0,1,3,7,0,0,0,96,255,511] 9 1 [.v (.vc (pP (some p0) 0)),.v (.vc (pP (some p0) 0)),.v (.vc (pP (some p0) 4)),.v (.vc (pO b30 x28.length x28.length)),.v (.vc (pI .i64 x46)),.v (.vc (pFn Tryz.prog (fun x:Int=>[.vc (pI .i64 x)]) (fun r:Rat=>.va (eQ r)) a0)),.v (.vc (pI .i64 x46)),.v (.va (eQ v93)),.v (.vc (pE b30 x46 cQ.n 0))] bB ⟨d0 (aP (.inl rfl)) zU1,d0 (oH rfl) zU1,d0 (iF (off:=0) (k:=4) rfl tyF123_4) zU1,d0 (fQ 1 1 rfl rfl rfl rfl (.one tyO24)) zU1,d0 (aP (.inl rfl)) zU1,d0 (aP (.inl rfl)) zU1,d0 (aP (.inl rfl)) zU1,d0 (aB6 (pre:=fun x:Int=>[.vc (pI .i64 x)]) (post:=fun r:Rat=>.va (eQ r)) (x:=x46) (r:=v93) rfl h94 rfl) zU2,d0 (iC (C:=cQ) 0 rfl tyS24 rfl q44 (aI h96).1 (aI h96).2.1) zU2,trivial⟩ (fun bs92 G91=>?_)
  obtain⟨x97,h98,v100,h101,hF⟩:=sS hF
  refine go ?_ ?_
  exact aG (fun a w hh=>⟨x97,v100,hF,(bH h98 q44),aS 5 [0,1,2,3,4] rfl rfl (by decide) (by exact⟨rfl,rfl,rfl,rfl,trivial⟩) hh⟩)
 refine bO ?_
 obtain rfl:=jN hF
 exact fY Jj54 ⟨x40,hRl53,q44,rfl,rfl⟩ 5 [0,1,2,3,4] rfl rfl zU1
def mV (a0:Int) (a1:Int) (a2:Int) (a3:Int) (a4:List Nat) (a5:List Rat) (a6:List Int) (a7:List (List Rat)):Option Unit:=
 some ()
theorem uM {a0:Int} {a1:Int} {a2:Int} {a3:Int} {a4:List Nat} {a5:List Rat} {a6:List Int} {a7:List (List Rat)} {r:Unit} (hF:mV a0 a1 a2 a3 a4 a5 a6 a7=some r) {p0:Nat} {b5:Option Nat} {c6 n7:Nat} {b10:Option Nat} {c11 n12:Nat} {b15:Option Nat} {c16 n17:Nat} {g20:List q0} {N21:Nat} (q8:a4.length=n7) (q13:a5.length=n12) (q18:a6.length=n17) (q22:a7.length=N21) (q23:eF g20 a7) (q24:∀k∈a4,k<N21):yU Tryz.prog 149 ([⟨some p0,1,123,6,1,([pI .i64 a1]++[pI .i64 a2]++[pI .i64 a3]++[pO b5 n7 c6]++[pO b10 n12 c11]++[pO b15 n17 c16])⟩,hO (cH g20) b5 c6 24 n7 a4,hO cQ b10 c11 42 n12 a5,hO cI b15 c16 3 n17 a6]++fP cQ 42 g20 a7) [.vc (pP (some p0) 0),.vc (pI .i64 a0)] (fun Ho q=>∃b1028 b1029,Ho=([⟨some p0,1,123,6,1,([pI .i64 a1]++[pI .i64 a2]++[pI .i64 a3]++[pO b5 n7 c6]++[pO b10 n12 c11]++[pO b15 n17 c16])⟩,⟨some b1028,1,3,1,1,[pI .i64 a0]⟩,⟨some b1029,1,120,1,1,[pP (some p0) 0]⟩,hO (cH g20) b5 c6 24 n7 a4,hO cQ b10 c11 42 n12 a5,hO cI b15 c16 3 n17 a6]++fP cQ 42 g20 a7)∧q=.vc (pF 169 [pP (some b1028) 0,pP (some b1029) 0])):=by
 unfold mV at hF
 refine aB Tryz.func149 rfl (by kernel_rfl) Tryz.ntmps149 rfl (fun w0 M0=>?_)
 refine aC (aJ (dE rfl rfl trivial (fun b26=>?_)))
 refine dE rfl rfl trivial (fun b27=>?_)
 refine aF (aP (p:=.any) (.inr rfl)) ⟨fun _=>trivial,trivial⟩ ?_
 refine go ?_ ?_
 refine aF (aKJ (xs:=[.tmp 3,.tmp 2]) (cs:=[pP (some b27) 0,pP (some b26) 0]) rfl rfl) zU2 ?_
 refine go ?_ ?_
 refine gL (gN ?_)
 obtain rfl:=jN hF
 exact iE (.inl rfl) Tryz.results149 (.tmp rfl .nil) rfl 6 [2,0,1,3,4,5] rfl rfl (by decide) ⟨b27,b26,rfl,rfl⟩
def lG (K:Nat) (x33:Int):Option Int:=
 some x33
def iD (K:Nat) (a6:List Int) (x30:Rat) (x31:Int) (x32:Int) (v52:Rat) (recl34:Rat→Int→Int→Option Int) (x55:Int):Option Int:=
 bif(decide (x55<0)) then((aO (x32+1)).bind fun v62=>recl34 v52 x32 v62) else(bif(x55==0) then((bP a6 x32).bind fun v65=>(bP a6 x31).bind fun v67=>bif(decide (v65<v67)) then((aO (x32+1)).bind fun v72=>recl34 v52 x32 v72) else((aO (x32+1)).bind fun v74=>recl34 x30 x31 v74)) else((aO (x32+1)).bind fun v76=>recl34 x30 x31 v76))
def cN (K:Nat) (a0:Int) (a3:Int) (a4:List Nat) (a6:List Int) (a7:List (List Rat)):Nat→Rat→Int→Int→Option Int
 |0,_,_,_=>none
 |k+1,x30,x31,x32=>bif(decide (x32<(a4.length:Int))) then((bP a4 x32).bind fun v37=>(bP (a7.getD v37 []) a0).bind fun v39=>(wD v39).bind fun v41=>bif(decide (v41≤0)) then((aO (x32+1)).bind fun v44=>cN K a0 a3 a4 a6 a7 k x30 x31 v44) else((bP (a7.getD v37 []) a3).bind fun v48=>(bP (a7.getD v37 []) a0).bind fun v50=>(aCe v48 v50).bind fun v52=>bif(decide (0≤x31)) then((aHS v52 x30).bind fun v79=>iD K a6 x30 x31 x32 v52 (cN K a0 a3 a4 a6 a7 k) v79) else(iD K a6 x30 x31 x32 v52 (cN K a0 a3 a4 a6 a7 k) (-1)))) else(some x31)
def nK (K:Nat) (a0:Int) (a1:Int) (a2:Int) (a3:Int) (a4:List Nat) (a5:List Rat) (a6:List Int) (a7:List (List Rat)):Option Int:=
 (cN K a0 a3 a4 a6 a7 K 0 (-1) 0).bind fun x33=>lG K x33
theorem uU {K:Nat} {a0:Int} {a1:Int} {a2:Int} {a3:Int} {a4:List Nat} {a5:List Rat} {a6:List Int} {a7:List (List Rat)} {r:Int} (hF:nK K a0 a1 a2 a3 a4 a5 a6 a7=some r) {p0:Nat} {b5:Option Nat} {c6 n7:Nat} {b10:Option Nat} {c11 n12:Nat} {b15:Option Nat} {c16 n17:Nat} {g20:List q0} {N21:Nat} (q8:a4.length=n7) (q13:a5.length=n12) (q18:a6.length=n17) (q22:a7.length=N21) (q23:eF g20 a7) (q24:∀k∈a4,k<N21):yU Tryz.prog 150 ([⟨some p0,1,123,6,1,([pI .i64 a1]++[pI .i64 a2]++[pI .i64 a3]++[pO b5 n7 c6]++[pO b10 n12 c11]++[pO b15 n17 c16])⟩,hO (cH g20) b5 c6 24 n7 a4,hO cQ b10 c11 42 n12 a5,hO cI b15 c16 3 n17 a6]++fP cQ 42 g20 a7) [.vc (pP (some p0) 0),.vc (pI .i64 a0)] (fun Ho q=>Ho=([⟨some p0,1,123,6,1,([pI .i64 a1]++[pI .i64 a2]++[pI .i64 a3]++[pO b5 n7 c6]++[pO b10 n12 c11]++[pO b15 n17 c16])⟩,hO (cH g20) b5 c6 24 n7 a4,hO cQ b10 c11 42 n12 a5,hO cI b15 c16 3 n17 a6]++fP cQ 42 g20 a7)∧q=.vc (pI .i64 r)):=by
 unfold nK at hF
 refine aB Tryz.func150 rfl (by kernel_rfl) Tryz.ntmps150 rfl (fun w0 M0=>?_)
 refine go ?_ ?_
 refine aE rfl tyZ42q (fun b26=>?_)
 refine go ?_ ?_
 refine aK (bE (fun H E=>∃(x33:Int),lG K x33=some r∧H=([⟨some p0,1,123,6,1,([pI .i64 a1]++[pI .i64 a2]++[pI .i64 a3]++[pO b5 n7 c6]++[pO b10 n12 c11]++[pO b15 n17 c16])⟩,hO (cH g20) b5 c6 24 n7 a4,hO cQ b10 c11 42 n12 a5,hO cI b15 c16 3 n17 a6]++fP cQ 42 g20 a7)∧E=[(5,.vc (pI .i64 x33))]) ?_ (fun Jj35=>?_))
 ·rintro _ _ ⟨x33,hF,rfl,rfl⟩
  unfold lG at hF
  refine go ?_ ?_
  refine gL (gN ?_)
  obtain rfl:=jN hF
  exact iE (.inl rfl) Tryz.results150 (.tmp rfl .nil) rfl 4 [0,1,2,3] rfl rfl (by decide) ⟨rfl,rfl⟩
 obtain⟨x33',hL,hRl34⟩:=aR hF
 refine fO (fun k a w=>∃(x30:Rat),∃(x31:Int),∃(x32:Int),cN K a0 a3 a4 a6 a7 k x30 x31 x32=some x33'∧hs _ ([⟨some b26,1,42,4,1,(eQ x30)⟩,⟨some p0,1,123,6,1,([pI .i64 a1]++[pI .i64 a2]++[pI .i64 a3]++[pO b5 n7 c6]++[pO b10 n12 c11]++[pO b15 n17 c16])⟩,hO (cH g20) b5 c6 24 n7 a4,hO cQ b10 c11 42 n12 a5,hO cI b15 c16 3 n17 a6]++fP cQ 42 g20 a7) [(0,.vc (pP (some p0) 0)),(1,.vc (pI .i64 a0)),(5,.vc (pI .i64 x31)),(6,.vc (pP (some b26) 0)),(14,.vc (pO b5 n7 c6)),(15,.vc (pI .i64 (a4.length:Int))),(16,.vc (pI .i64 x32))] a w) K (fun a w ⟨_,_,_,hF,_⟩=>by cases hF) (fun k a w ⟨x30,x31,x32,hF,hh⟩=>fN ?_ hh) (fun a w hh=>⟨0,(-1),0,hL,aS 5 [0,1,2,3,4] rfl rfl (by decide) (by exact⟨rfl,rfl,rfl,rfl,rfl,rfl,rfl,trivial⟩) hh⟩)
 rw [cN.eq_2] at hF
 refine go ?_ ?_
 refine aD hF rfl (fun h36 hF=>?_) (fun h36 hF=>?_)
 ·refine go ?_ ?_
  refine aK ?_
  obtain⟨v37,h38,v39,h40,hF⟩:=sS hF
  refine go ?_ ?_
  refine aF (iC (5+v37) rfl tyS24 (rU 5 rfl q23 q22 (q24 _ (aW h38))) (fC q23 q22 (q24 _ (aW h38))) (aI h40).1 (aI h40).2.1) zU2 ?_
  refine aF (lA (k:=4) (5+v37) rfl (rU 5 rfl q23 q22 (q24 _ (aW h38))) h40 rfl (.agg tyA42) rfl) zU1 ?_
  obtain⟨v41,h42,hF⟩:=aZ hF fT
  refine go ?_ ?_
  refine aD hF rfl (fun h43 hF=>?_) (fun h43 hF=>?_)
  ·refine bO ?_
   obtain⟨v44,h45,hF⟩:=aR hF
   refine go ?_ ?_
   exact aG (fun a w hh=>⟨x30,x31,v44,hF,aS 5 [0,1,2,3,4] rfl rfl (by decide) (by exact⟨rfl,rfl,rfl,rfl,rfl,rfl,rfl,trivial⟩) hh⟩)
  obtain⟨v48,h49,hF⟩:=aR hF
  have hF:=sR h40 hF
  obtain⟨v52,h53,hF⟩:=aZ hF vG
  refine go ?_ ?_
  refine jI [0,0,2,6,14,31,63,0,0,384,896,2047,0,8191] 13 1 [.v (.vc (pO (iG g20 v37).1 (iG g20 v37).2.1 (iG g20 v37).2.2)),.v (.vc (pP (some p0) 0)),.v (.vc (pP (some p0) 0)),.v (.vc (pP (some p0) 2)),.v (.vc (pI .i64 a3)),.v (.vc (pE (iG g20 v37).1 a3 cQ.n 0)),.v (.va (eQ v48)),.v (.vc (pO (iG g20 v37).1 (iG g20 v37).2.1 (iG g20 v37).2.2)),.v (.vc (pI .i64 a0)),.v (.vc (pE (iG g20 v37).1 a0 cQ.n 0)),.v (.va (eQ v39)),.v (.va (eQ v52)),.a 42 (eQ 0)] bB ⟨d0 (aP (.inl rfl)) zU1,d0 (aP (.inl rfl)) zU1,d0 (oH rfl) zU1,d0 (iF (off:=0) (k:=2) rfl tyF123_2) zU1,d0 (fQ 1 1 rfl rfl rfl rfl (.one tyO3)) zU1,d0 (iC (5+v37) rfl tyS24 (jL 5 rfl q23 q22 (q24 _ (aW h38))) (fC q23 q22 (q24 _ (aW h38))) (aI h49).1 (aI h49).2.1) zU2,d0 (lA (k:=4) (5+v37) rfl (jL 5 rfl q23 q22 (q24 _ (aW h38))) h49 rfl (.agg tyA42) rfl) zU1,d0 (aP (.inl rfl)) zU1,d0 (aP (.inl rfl)) zU1,d0 (iC (5+v37) rfl tyS24 (jL 5 rfl q23 q22 (q24 _ (aW h38))) (fC q23 q22 (q24 _ (aW h38))) (aI h40).1 (aI h40).2.1) zU2,d0 (lA (k:=4) (5+v37) rfl (jL 5 rfl q23 q22 (q24 _ (aW h38))) h40 rfl (.agg tyA42) rfl) zU1,d0 (bJ rfl h53 rfl) zU2,⟨rfl,.alc tyZ42q⟩,trivial⟩ (fun bs47 G46=>?_)
  refine lW (t_s 0 rfl rfl rfl tyA42.s) zU2 ?_
  refine aV (aH (aC (aJ (aF (aP (.inr rfl)) ⟨oF _ _,trivial⟩ ?_))))
  refine aV (aH (aC (w4 (fun H E=>∃(x55:Int),iD K a6 x30 x31 x32 v52 (cN K a0 a3 a4 a6 a7 k) x55=some x33'∧H=([⟨some (bs47 12),1,42,4,1,(eQ v52)⟩,⟨some b26,1,42,4,1,(eQ x30)⟩,⟨some p0,1,123,6,1,([pI .i64 a1]++[pI .i64 a2]++[pI .i64 a3]++[pO b5 n7 c6]++[pO b10 n12 c11]++[pO b15 n17 c16])⟩,hO (cH g20) b5 c6 24 n7 a4,hO cQ b10 c11 42 n12 a5,hO cI b15 c16 3 n17 a6]++fP cQ 42 g20 a7)∧E=[(0,.vc (pP (some p0) 0)),(1,.vc (pI .i64 a0)),(5,.vc (pI .i64 x31)),(6,.vc (pP (some b26) 0)),(7,.vc (pI .i64 x32)),(9,.vc (pP (some (bs47 12)) 0)),(10,.vc (pI .i64 x55)),(14,.vc (pO b5 n7 c6)),(15,.vc (pI .i64 (a4.length:Int))),(16,.vc (pI .i64 x32))]) ?_ (fun Jj56=>?_))))
  ·rintro _ _ ⟨x55,hF,rfl,rfl⟩
   unfold iD at hF
   refine aC ?_
   rcases Bool.eq_false_or_eq_true (decide (x55<0)) with h59|h59
   ·have hF:=rA h59 hF
    refine drb [0,1,3,7,15,31,63,127,255,511,63,2047,4095,63,8255,24639,57407,63,254015,516159,1048575,2097151,4194303] 23 0 ?_ (fun bs58 G57=>?_)
    refine aV (aH (iR rfl ?_))
    refine dr [0,0,1,7] 3 1 ?_ (fun bs61 G60=>?_)
    obtain⟨v62,h63,hF⟩:=aR hF
    refine go ?_ ?_
    exact aG (fun a w hh=>⟨v52,x32,v62,hF,aS 6 [1,2,3,4,5] rfl rfl (by decide) (by exact⟨rfl,rfl,rfl,rfl,rfl,rfl,rfl,trivial⟩) hh⟩)
   have hF:=pD h59 hF
   rcases Bool.eq_false_or_eq_true (x55==0) with h64|h64
   ·have hF:=rA h64 hF
    obtain⟨v65,h66,hF⟩:=aR hF
    obtain⟨v67,h68,hF⟩:=aR hF
    refine drb [0,1,3,7,15,31,63,127,255,511,63,2047,4095,63,8255,24639,57407,63,254015,516159,1048575,2097151,4194303] 23 0 ?_ (fun bs58 G57=>?_)
    refine aV (aH (aD hF rfl (fun h69 hF=>?_) (fun h69 hF=>?_)))
    ·refine dr [0,0,1,7] 3 1 ?_ (fun bs71 G70=>?_)
     obtain⟨v72,h73,hF⟩:=aR hF
     refine go ?_ ?_
     exact aG (fun a w hh=>⟨v52,x32,v72,hF,aS 6 [1,2,3,4,5] rfl rfl (by decide) (by exact⟨rfl,rfl,rfl,rfl,rfl,rfl,rfl,trivial⟩) hh⟩)
    obtain⟨v74,h75,hF⟩:=aR hF
    refine go ?_ ?_
    exact aG (fun a w hh=>⟨x30,x31,v74,hF,aS 6 [1,2,3,4,5] rfl rfl (by decide) (by exact⟨rfl,rfl,rfl,rfl,rfl,rfl,rfl,trivial⟩) hh⟩)
   have hF:=pD h64 hF
   refine drb [0,1,3,7,15,31,63,127,255,511,63,2047,4095,63,8255,24639,57407,63,254015,516159,1048575,2097151,4194303] 23 0 ?_ (fun bs58 G57=>?_)
   refine aV (aH (tT rfl ?_))
   obtain⟨v76,h77,hF⟩:=aR hF
   refine go ?_ ?_
   exact aG (fun a w hh=>⟨x30,x31,v76,hF,aS 6 [1,2,3,4,5] rfl rfl (by decide) (by exact⟨rfl,rfl,rfl,rfl,rfl,rfl,rfl,trivial⟩) hh⟩)
  refine go ?_ ?_
  refine aD hF rfl (fun h78 hF=>?_) (fun h78 hF=>?_)
  ·refine aJ (aF (fQ 0 4 rfl rfl rfl rfl (.agg tyA42)) zU1 ?_)
   refine aF (fQ 1 4 rfl rfl rfl rfl (.agg tyA42)) zU1 ?_
   obtain⟨v79,h80,hF⟩:=aZ hF y6
   refine aF (bJ rfl h80 rfl) zU2 ?_
   refine wU ?_
   refine aV ?_
   exact fY Jj56 ⟨v79,hF,rfl,rfl⟩ 6 [0,1,2,3,4,5] rfl rfl ⟨rfl,rfl,rfl,rfl,rfl,rfl,rfl,rfl,rfl,rfl,trivial⟩
  refine f7 ?_
  exact fY Jj56 ⟨(-1),hF,rfl,rfl⟩ 6 [0,1,2,3,4,5] rfl rfl ⟨rfl,rfl,rfl,rfl,rfl,rfl,rfl,rfl,rfl,rfl,trivial⟩
 refine bO ?_
 obtain rfl:=jN hF
 exact fY Jj35 ⟨x31,hRl34,rfl,rfl⟩ 5 [1,2,3,4] rfl rfl zU1
def qH (K:Nat) (x25:List (List Rat)):Option (List (List Rat)):=
 some x25
def k8 (K:Nat) (a0:Nat) (a1:Nat) (a3:List (List Rat)) (v9:Rat):Nat→(List (List Rat))→Int→Option (List (List Rat))
 |0,_,_=>none
 |k+1,x20,x24=>bif(decide (x24<((a3.getD a1 []).length:Int))) then((bP (x20.getD a1 []) x24).bind fun v32=>(wD v32).bind fun v35=>bif(v35 != 0) then((bP (x20.getD a0 []) x24).bind fun v40=>(aCc v9 v32).bind fun v42=>(aEj v40 v42).bind fun v44=>(bP (x20.getD a0 []) x24).bind fun v46=>(oK (x20.getD a0 []) x24 v44).bind fun x48=>(aO (x24+1)).bind fun v51=>k8 K a0 a1 a3 v9 k (x20.set a0 x48) v51) else((aO (x24+1)).bind fun v53=>k8 K a0 a1 a3 v9 k x20 v53)) else(some x20)
def tN (K:Nat) (a0:Nat) (a1:Nat) (a2:Int) (a3:List (List Rat)):Option (List (List Rat)):=
 (bP (a3.getD a0 []) a2).bind fun v9=>(wD v9).bind fun v12=>bif(v12==0) then(some a3) else((k8 K a0 a1 a3 v9 K a3 0).bind fun x25=>qH K x25)
theorem aAe {K:Nat} {a0:Nat} {a1:Nat} {a2:Int} {a3:List (List Rat)} {r:List (List Rat)} (hF:tN K a0 a1 a2 a3=some r) {g4:List q0} {N5:Nat} (q6:a3.length=N5) (q7:eF g4 a3) (q2:a0<N5) (q3:a1<N5):yU Tryz.prog 148 ([]++fP cQ 42 g4 a3) [.vc (pO (iG g4 a0).1 (iG g4 a0).2.1 (iG g4 a0).2.2),.vc (pO (iG g4 a1).1 (iG g4 a1).2.1 (iG g4 a1).2.2),.vc (pI .i64 a2)] (fun Ho q=>r.length=N5∧eF g4 r∧Ho=([]++fP cQ 42 g4 r)∧q=.any):=by
 unfold tN at hF
 refine aB Tryz.func148 rfl (by kernel_rfl) Tryz.ntmps148 rfl (fun w0 M0=>?_)
 obtain⟨v9,h10,hF⟩:=aR hF
 refine go ?_ ?_
 refine aF (iC (0+a0) rfl tyS24 (rU 0 rfl q7 q6 q2) (fC q7 q6 q2) (aI h10).1 (aI h10).2.1) zU2 ?_
 refine aF (lA (k:=4) (0+a0) rfl (rU 0 rfl q7 q6 q2) h10 rfl (.agg tyA42) rfl) zU1 ?_
 refine aE rfl tyZ42q (fun b11=>?_)
 obtain⟨v12,h13,hF⟩:=aZ hF fT
 refine go ?_ ?_
 refine aD hF rfl (fun h14 hF=>?_) (fun h14 hF=>?_)
 ·refine gL (gN ?_)
  obtain rfl:=jN hF
  exact iE (.inl rfl) Tryz.results148 .nil rfl 1 [] rfl rfl (by decide) ⟨q6,q7,rfl,rfl⟩
 refine go ?_ ?_
 refine aF (aAP (C:=cQ) (xs:=(a3.getD a1 [])) (T:=42) rfl tyS24 (fC q7 q6 q3)) zU1 ?_
 refine go ?_ ?_
 refine aK (bE (fun H E=>∃(x25:List (List Rat)),qH K x25=some r∧x25.length=N5∧eF g4 x25∧H=([]++fP cQ 42 g4 x25)∧E=[]) ?_ (fun Jj30=>?_))
 ·rintro _ _ ⟨x25,hF,q26,q27,rfl,rfl⟩
  unfold qH at hF
  obtain rfl:=jN hF
  exact iE (.inr rfl) Tryz.results148 .nil rfl 0 [] rfl rfl (by decide) ⟨q26,q27,rfl,rfl⟩
 obtain⟨x25',hL,hRl29⟩:=aR hF
 refine fO (fun k a w=>∃(x20:List (List Rat)),∃(x24:Int),k8 K a0 a1 a3 v9 k x20 x24=some x25'∧x20.length=N5∧eF g4 x20∧hs _ ([⟨some b11,1,42,4,1,(eQ v9)⟩]++fP cQ 42 g4 x20) [(0,.vc (pO (iG g4 a0).1 (iG g4 a0).2.1 (iG g4 a0).2.2)),(6,.vc (pP (some b11) 0)),(16,.vc (pO (iG g4 a1).1 (iG g4 a1).2.1 (iG g4 a1).2.2)),(17,.vc (pI .i64 ((a3.getD a1 []).length:Int))),(18,.vc (pI .i64 x24))] a w) K (fun a w ⟨_,_,hF,_,_,_⟩=>by cases hF) (fun k a w ⟨x20,x24,hF,q21,q22,hh⟩=>fN ?_ hh) (fun a w hh=>⟨a3,0,hL,q6,q7,aS 1 [0] rfl rfl (by decide) (by exact⟨rfl,rfl,rfl,rfl,rfl,trivial⟩) hh⟩)
 rw [k8.eq_2] at hF
 refine go ?_ ?_
 refine aD hF rfl (fun h31 hF=>?_) (fun h31 hF=>?_)
 ·refine go ?_ ?_
  refine aK ?_
  obtain⟨v32,h33,hF⟩:=aR hF
  refine go ?_ ?_
  refine aF (iC (1+a1) rfl tyS24 (rU 1 rfl q22 q21 q3) (fC q22 q21 q3) (aI h33).1 (aI h33).2.1) zU2 ?_
  refine aF (lA (k:=4) (1+a1) rfl (rU 1 rfl q22 q21 q3) h33 rfl (.agg tyA42) rfl) zU1 ?_
  refine aE rfl tyZ42q (fun b34=>?_)
  obtain⟨v35,h36,hF⟩:=aZ hF fT
  refine go ?_ ?_
  refine aD hF rfl (fun h37 hF=>?_) (fun h37 hF=>?_)
  ·obtain⟨v40,h41,hF⟩:=aR hF
   obtain⟨v42,h43,hF⟩:=aZ hF vS
   obtain⟨v44,h45,hF⟩:=aZ hF vH
   have hF:=sR h41 hF
   refine jI [0,0,0,0,12,28,0,0,192,508,1023,2047] 11 1 [.v (.vc (pO (iG g4 a0).1 (iG g4 a0).2.1 (iG g4 a0).2.2)),.v (.vc (pI .i64 x24)),.v (.vc (pO (iG g4 a0).1 (iG g4 a0).2.1 (iG g4 a0).2.2)),.v (.vc (pI .i64 x24)),.v (.vc (pE (iG g4 a0).1 x24 cQ.n 0)),.v (.va (eQ v40)),.v (.va (eQ v9)),.v (.va (eQ v32)),.v (.va (eQ v42)),.v (.va (eQ v44)),.v (.vc (pE (iG g4 a0).1 x24 cQ.n 0))] bB ⟨d0 (aP (.inl rfl)) zU1,d0 (aP (.inl rfl)) zU1,d0 (aP (.inl rfl)) zU1,d0 (aP (.inl rfl)) zU1,d0 (iC (2+a0) rfl tyS24 (jL 2 rfl q22 q21 q2) (fC q22 q21 q2) (aI h41).1 (aI h41).2.1) zU2,d0 (lA (k:=4) (2+a0) rfl (jL 2 rfl q22 q21 q2) h41 rfl (.agg tyA42) rfl) zU1,d0 (fQ 1 4 rfl rfl rfl rfl (.agg tyA42)) zU1,d0 (fQ 0 4 rfl rfl rfl rfl (.agg tyA42)) zU1,d0 (bJ rfl h43 rfl) zU2,d0 (bJ rfl h45 rfl) zU2,d0 (iC (2+a0) rfl tyS24 (jL 2 rfl q22 q21 q2) (fC q22 q21 q2) (aI h41).1 (aI h41).2.1) zU2,trivial⟩ (fun bs39 G38=>?_)
   obtain⟨x48,h49,hF⟩:=aR hF
   refine lW (xE (H':=([⟨some b34,1,42,4,1,(eQ v32)⟩,⟨some b11,1,42,4,1,(eQ v9)⟩]++fP cQ 42 g4 (x20.set a0 x48))) (2+a0) rfl (rU 2 rfl q22 q21 q2) h41 h49 tyA42.s (hH:=stN 2 rfl q22 q21 q2)) zU2 ?_
   obtain⟨v51,h52,hF⟩:=aR hF
   refine go ?_ ?_
   exact aG (fun a w hh=>⟨(x20.set a0 x48),v51,hF,(aEz q21),(aF0 q22 q21 q2 (bH h49 rfl)),aS 2 [1] rfl rfl (by decide) (by exact⟨rfl,rfl,rfl,rfl,rfl,trivial⟩) hh⟩)
  obtain⟨v53,h54,hF⟩:=aR hF
  refine go ?_ ?_
  exact aG (fun a w hh=>⟨x20,v53,hF,q21,q22,aS 2 [1] rfl rfl (by decide) (by exact⟨rfl,rfl,rfl,rfl,rfl,trivial⟩) hh⟩)
 refine bO ?_
 obtain rfl:=jN hF
 exact fY Jj30 ⟨x20,hRl29,q21,q22,rfl,rfl⟩ 1 [] rfl rfl trivial
def mJ (K:Nat) (a0:Int) (a1:Int) (a6:List Rat) (a7:List Int) (x75:List Nat) (x81:List (List Rat)):Option ((List Nat)×(List Rat)×(List Int)×(List (List Rat))):=
 (bP x75 a0).bind fun v91=>(qW K v91 a1 a6 x81).bind fun v93=>(bP a7 a0).bind fun v97=>(oK a7 a0 a1).bind fun x99=>some (x75,v93,x99,x81)
def fZ (K:Nat) (a0:Int) (a1:Int) (a5:List Nat):Nat→(List Nat)→(List (List Rat))→Int→Option ((List Nat)×(List (List Rat)))
 |0,_,_,_=>none
 |k+1,x62,x68,x74=>bif(decide (x74<(a5.length:Int))) then((bP x62 x74).bind fun v103=>bif(x74 != a0) then((bP x62 a0).bind fun v106=>(tN K v103 v106 a1 x68).bind fun v108=>(aO (x74+1)).bind fun v113=>fZ K a0 a1 a5 k x62 v108 v113) else((aO (x74+1)).bind fun v115=>fZ K a0 a1 a5 k x62 x68 v115)) else(some (x62,x68))
def mM (K:Nat) (a0:Int) (a1:Int) (a5:List Nat) (a6:List Rat) (a7:List Int) (x43:List (List Rat)):Option ((List Nat)×(List Rat)×(List Int)×(List (List Rat))):=
 (fZ K a0 a1 a5 K a5 x43 0).bind fun(x75,x81)=>mJ K a0 a1 a6 a7 x75 x81
def jA (K:Nat) (a0:Int) (a5:List Nat) (a8:List (List Rat)) (v28:Rat) (v31:Nat):Nat→(List (List Rat))→Int→Option (List (List Rat))
 |0,_,_=>none
 |k+1,x38,x42=>bif(decide (x42<((a8.getD v31 []).length:Int))) then((bP (x38.getD v31 []) x42).bind fun v118=>(bP a5 a0).bind fun v123=>(aCe v118 v28).bind fun v125=>(bP (x38.getD v123 []) x42).bind fun v127=>(oK (x38.getD v123 []) x42 v125).bind fun x129=>(aO (x42+1)).bind fun v132=>jA K a0 a5 a8 v28 v31 k (x38.set v123 x129) v132) else(some x38)
def lN (K:Nat) (a0:Int) (a1:Int) (a2:Int) (a3:Int) (a4:Int) (a5:List Nat) (a6:List Rat) (a7:List Int) (a8:List (List Rat)):Option ((List Nat)×(List Rat)×(List Int)×(List (List Rat))):=
 (bP a5 a0).bind fun v26=>(bP (a8.getD v26 []) a1).bind fun v28=>(bP a5 a0).bind fun v31=>(jA K a0 a5 a8 v28 v31 K a8 0).bind fun x43=>mM K a0 a1 a5 a6 a7 x43
theorem rE {K:Nat} {a0:Int} {a1:Int} {a2:Int} {a3:Int} {a4:Int} {a5:List Nat} {a6:List Rat} {a7:List Int} {a8:List (List Rat)} {r:(List Nat)×(List Rat)×(List Int)×(List (List Rat))} (hF:lN K a0 a1 a2 a3 a4 a5 a6 a7 a8=some r) {p0:Nat} {b5:Option Nat} {c6 n7:Nat} {b10:Option Nat} {c11 n12:Nat} {b15:Option Nat} {c16 n17:Nat} {g20:List q0} {N21:Nat} (q8:a5.length=n7) (q13:a6.length=n12) (q18:a7.length=n17) (q22:a8.length=N21) (q23:eF g20 a8) (q24:∀k∈a5,k<N21):yU Tryz.prog 151 ([⟨some p0,1,123,6,1,([pI .i64 a2]++[pI .i64 a3]++[pI .i64 a4]++[pO b5 n7 c6]++[pO b10 n12 c11]++[pO b15 n17 c16])⟩,hO (cH g20) b5 c6 24 n7 a5,hO cQ b10 c11 42 n12 a6,hO cI b15 c16 3 n17 a7]++fP cQ 42 g20 a8) [.vc (pP (some p0) 0),.vc (pI .i64 a0),.vc (pI .i64 a1)] (fun Ho q=>∃b1134 c1135 n1136 g1143 N1144,r.1.length=n1136∧r.2.1.length=n12∧r.2.2.1.length=n17∧r.2.2.2.length=N1144∧eF g1143 r.2.2.2∧(∀k∈r.1,k<N1144)∧Ho=([⟨some p0,1,123,6,1,([pI .i64 a2]++[pI .i64 a3]++[pI .i64 a4]++[pO b1134 n1136 c1135]++[pO b10 n12 c11]++[pO b15 n17 c16])⟩,hO (cH g1143) b1134 c1135 24 n1136 r.1,hO cQ b10 c11 42 n12 r.2.1,hO cI b15 c16 3 n17 r.2.2.1]++fP cQ 42 g1143 r.2.2.2)∧q=.any):=by
 unfold lN at hF
 refine aB Tryz.func151 rfl (by kernel_rfl) Tryz.ntmps151 rfl (fun w0 M0=>?_)
 obtain⟨v26,h27,v28,h29,hF⟩:=sS hF
 refine go ?_ ?_
 refine aF (iC (4+v26) rfl tyS24 (rU 4 rfl q23 q22 (q24 _ (aW h27))) (fC q23 q22 (q24 _ (aW h27))) (aI h29).1 (aI h29).2.1) zU2 ?_
 refine aF (lA (k:=4) (4+v26) rfl (rU 4 rfl q23 q22 (q24 _ (aW h27))) h29 rfl (.agg tyA42) rfl) zU1 ?_
 refine aE rfl tyZ42q (fun b30=>?_)
 have hF:=sR h27 hF
 refine go ?_ ?_
 refine aF (aAP (C:=cQ) (xs:=(a8.getD v26 [])) (T:=42) rfl tyS24 (fC q23 q22 (q24 _ (aW h27)))) zU1 ?_
 refine go ?_ ?_
 refine aK (bE (fun H E=>∃(x43:List (List Rat)),mM K a0 a1 a5 a6 a7 x43=some r∧x43.length=N21∧eF g20 x43∧H=([⟨some p0,1,123,6,1,([pI .i64 a2]++[pI .i64 a3]++[pI .i64 a4]++[pO b5 n7 c6]++[pO b10 n12 c11]++[pO b15 n17 c16])⟩,hO (cH g20) b5 c6 24 n7 a5,hO cQ b10 c11 42 n12 a6,hO cI b15 c16 3 n17 a7]++fP cQ 42 g20 x43)∧E=[(0,.vc (pP (some p0) 0)),(1,.vc (pI .i64 a0)),(2,.vc (pI .i64 a1))]) ?_ (fun Jj48=>?_))
 ·rintro _ _ ⟨x43,hF,q44,q45,rfl,rfl⟩
  unfold mM at hF
  refine go ?_ ?_
  refine aK (bE (fun H E=>∃(x75:List Nat),∃(x81:List (List Rat)),∃(b76:Option Nat),∃(c77:Nat),∃(n78:Nat),∃(g82:List q0),∃(N83:Nat),mJ K a0 a1 a6 a7 x75 x81=some r∧x75.length=n78∧x81.length=N83∧eF g82 x81∧(∀k∈x75,k<N83)∧H=([⟨some p0,1,123,6,1,([pI .i64 a2]++[pI .i64 a3]++[pI .i64 a4]++[pO b76 n78 c77]++[pO b10 n12 c11]++[pO b15 n17 c16])⟩,hO (cH g82) b76 c77 24 n78 x75,hO cQ b10 c11 42 n12 a6,hO cI b15 c16 3 n17 a7]++fP cQ 42 g82 x81)∧E=[(0,.vc (pP (some p0) 0)),(1,.vc (pI .i64 a0)),(2,.vc (pI .i64 a1))]) ?_ (fun Jj88=>?_))
  ·rintro _ _ ⟨x75,x81,b76,c77,n78,g82,N83,hF,q79,q84,q85,q86,rfl,rfl⟩
   unfold mJ at hF
   refine aH (aC ?_)
   obtain⟨v91,h92,hF⟩:=aR hF
   refine dr [0,1,3,7,0,16,48,112,0,496,1008,0,4095] 12 1 ?_ (fun bs90 G89=>?_)
   obtain⟨v93,h94,hF⟩:=aR hF
   refine lQ 4 [2] [0,1,3] rfl (uZ h94 q13 q84 q85 (q86 _ (aW h92))) ⟨rfl,rfl,rfl,trivial⟩ rfl rfl rfl (by decide) ?_
   rintro _ _ ⟨q95,rfl,rfl⟩
   refine kE (gX [hO cQ b10 c11 42 n12 v93] (fP cQ 42 g82 x81) [⟨some p0,1,123,6,1,([pI .i64 a2]++[pI .i64 a3]++[pI .i64 a4]++[pO b76 n78 c77]++[pO b10 n12 c11]++[pO b15 n17 c16])⟩,hO (cH g82) b76 c77 24 n78 x75,hO cI b15 c16 3 n17 a7]) ?_
   obtain⟨v97,h98,x99,h100,hF⟩:=sS hF
   obtain rfl:=jN hF
   refine go ?_ ?_
   exact iE (.inr rfl) Tryz.results151 .nil rfl 4 [1,2,0,3] rfl rfl (by decide) ⟨b76,c77,n78,g82,N83,q79,q95,(bH h100 q18),q84,q85,q86,rfl,rfl⟩
  obtain⟨⟨x75',x81'⟩,hL,hRl87⟩:=aR hF
  refine fO (fun k a w=>∃(x62:List Nat),∃(x68:List (List Rat)),∃(x74:Int),∃(b63:Option Nat),∃(c64:Nat),∃(n65:Nat),∃(g69:List q0),∃(N70:Nat),fZ K a0 a1 a5 k x62 x68 x74=some (x75',x81')∧x62.length=n65∧x68.length=N70∧eF g69 x68∧(∀k∈x62,k<N70)∧hs _ ([⟨some p0,1,123,6,1,([pI .i64 a2]++[pI .i64 a3]++[pI .i64 a4]++[pO b63 n65 c64]++[pO b10 n12 c11]++[pO b15 n17 c16])⟩,hO (cH g69) b63 c64 24 n65 x62,hO cQ b10 c11 42 n12 a6,hO cI b15 c16 3 n17 a7]++fP cQ 42 g69 x68) [(0,.vc (pP (some p0) 0)),(1,.vc (pI .i64 a0)),(2,.vc (pI .i64 a1)),(50,.vc (pO b63 n65 c64)),(51,.vc (pI .i64 (a5.length:Int))),(52,.vc (pI .i64 x74))] a w) K (fun a w ⟨_,_,_,_,_,_,_,_,hF,_,_,_,_,_⟩=>by cases hF) (fun k a w ⟨x62,x68,x74,b63,c64,n65,g69,N70,hF,q66,q71,q72,q73,hh⟩=>fN ?_ hh) (fun a w hh=>⟨a5,x43,0,b5,c6,n7,g20,N21,hL,q8,q44,q45,q24,aS 4 [0,1,2,3] rfl rfl (by decide) (by exact⟨rfl,rfl,rfl,rfl,rfl,rfl,trivial⟩) hh⟩)
  rw [fZ.eq_2] at hF
  refine go ?_ ?_
  refine aD hF rfl (fun h102 hF=>?_) (fun h102 hF=>?_)
  ·refine go ?_ ?_
   refine aK ?_
   obtain⟨v103,h104,hF⟩:=aR hF
   refine go ?_ ?_
   refine aD hF rfl (fun h105 hF=>?_) (fun h105 hF=>?_)
   ·obtain⟨v106,h107,v108,h109,hF⟩:=sS hF
    refine go ?_ ?_
    refine lQ 4 [] [0,1,2,3] rfl (aAe h109 q71 q72 (q73 _ (aW h104)) (q73 _ (aW h107))) ⟨rfl,rfl,rfl,trivial⟩ rfl rfl rfl (by decide) ?_
    rintro _ _ ⟨q110,q111,rfl,rfl⟩
    refine kE (gX [] (fP cQ 42 g69 v108) [⟨some p0,1,123,6,1,([pI .i64 a2]++[pI .i64 a3]++[pI .i64 a4]++[pO b63 n65 c64]++[pO b10 n12 c11]++[pO b15 n17 c16])⟩,hO (cH g69) b63 c64 24 n65 x62,hO cQ b10 c11 42 n12 a6,hO cI b15 c16 3 n17 a7]) ?_
    obtain⟨v113,h114,hF⟩:=aR hF
    refine go ?_ ?_
    exact aG (fun a w hh=>⟨x62,v108,v113,b63,c64,n65,g69,N70,hF,q66,q110,q111,q73,aS 4 [0,1,2,3] rfl rfl (by decide) (by exact⟨rfl,rfl,rfl,rfl,rfl,rfl,trivial⟩) hh⟩)
   obtain⟨v115,h116,hF⟩:=aR hF
   refine go ?_ ?_
   exact aG (fun a w hh=>⟨x62,x68,v115,b63,c64,n65,g69,N70,hF,q66,q71,q72,q73,aS 4 [0,1,2,3] rfl rfl (by decide) (by exact⟨rfl,rfl,rfl,rfl,rfl,rfl,trivial⟩) hh⟩)
  refine bO ?_
  obtain⟨rfl,rfl⟩:=sm2 hF
  exact fY Jj88 ⟨x62,x68,b63,c64,n65,g69,N70,hRl87,q66,q71,q72,q73,rfl,rfl⟩ 4 [0,1,2,3] rfl rfl ⟨rfl,rfl,rfl,trivial⟩
 obtain⟨x43',hL,hRl47⟩:=aR hF
 refine fO (fun k a w=>∃(x38:List (List Rat)),∃(x42:Int),jA K a0 a5 a8 v28 v26 k x38 x42=some x43'∧x38.length=N21∧eF g20 x38∧hs _ ([⟨some b30,1,42,4,1,(eQ v28)⟩,⟨some p0,1,123,6,1,([pI .i64 a2]++[pI .i64 a3]++[pI .i64 a4]++[pO b5 n7 c6]++[pO b10 n12 c11]++[pO b15 n17 c16])⟩,hO (cH g20) b5 c6 24 n7 a5,hO cQ b10 c11 42 n12 a6,hO cI b15 c16 3 n17 a7]++fP cQ 42 g20 x38) [(0,.vc (pP (some p0) 0)),(1,.vc (pI .i64 a0)),(2,.vc (pI .i64 a1)),(6,.vc (pP (some b30) 0)),(27,.vc (pO (iG g20 v26).1 (iG g20 v26).2.1 (iG g20 v26).2.2)),(28,.vc (pI .i64 ((a8.getD v26 []).length:Int))),(29,.vc (pI .i64 x42))] a w) K (fun a w ⟨_,_,hF,_,_,_⟩=>by cases hF) (fun k a w ⟨x38,x42,hF,q39,q40,hh⟩=>fN ?_ hh) (fun a w hh=>⟨a8,0,hL,q22,q23,aS 5 [0,1,2,3,4] rfl rfl (by decide) (by exact⟨rfl,rfl,rfl,rfl,rfl,rfl,rfl,trivial⟩) hh⟩)
 rw [jA.eq_2] at hF
 refine go ?_ ?_
 refine aD hF rfl (fun h117 hF=>?_) (fun h117 hF=>?_)
 ·refine go ?_ ?_
  refine aK ?_
  obtain⟨v118,h119,hF⟩:=aR hF
  refine go ?_ ?_
  refine aF (iC (5+v26) rfl tyS24 (rU 5 rfl q40 q39 (q24 _ (aW h27))) (fC q40 q39 (q24 _ (aW h27))) (aI h119).1 (aI h119).2.1) zU2 ?_
  refine aF (lA (k:=4) (5+v26) rfl (rU 5 rfl q40 q39 (q24 _ (aW h27))) h119 rfl (.agg tyA42) rfl) zU1 ?_
  refine aE rfl tyZ42q (fun b120=>?_)
  have hF:=sR h27 hF
  obtain⟨v125,h126,hF⟩:=aZ hF vG
  have hF:=sR h119 hF
  refine go ?_ ?_
  refine jI [0,1,3,7,0,31,63,0,0,0,768,2047,4095] 12 1 [.v (.vc (pP (some p0) 0)),.v (.vc (pP (some p0) 0)),.v (.vc (pP (some p0) 3)),.v (.vc (pO b5 n7 c6)),.v (.vc (pI .i64 a0)),.v (.vc (pE b5 a0 (cH g20).n 0)),.v (.vc (pO (iG g20 v26).1 (iG g20 v26).2.1 (iG g20 v26).2.2)),.v (.vc (pI .i64 x42)),.v (.va (eQ v118)),.v (.va (eQ v28)),.v (.va (eQ v125)),.v (.vc (pE (iG g20 v26).1 x42 cQ.n 0))] bB ⟨d0 (aP (.inl rfl)) zU1,d0 (oH rfl) zU1,d0 (iF (off:=0) (k:=3) rfl tyF123_3) zU1,d0 (fQ 2 1 rfl rfl rfl rfl (.one tyO23)) zU1,d0 (aP (.inl rfl)) zU1,d0 (iC (C:=(cH g20)) 3 rfl tyS23 rfl q8 (aI h27).1 (aI h27).2.1) zU2,d0 (lA (C:=(cH g20)) (k:=1) 3 rfl rfl h27 rfl (.one tyO24) rfl) zU1,d0 (aP (.inl rfl)) zU1,d0 (fQ 0 4 rfl rfl rfl rfl (.agg tyA42)) zU1,d0 (fQ 1 4 rfl rfl rfl rfl (.agg tyA42)) zU1,d0 (bJ rfl h126 rfl) zU2,d0 (iC (6+v26) rfl tyS24 (jL 6 rfl q40 q39 (q24 _ (aW h27))) (fC q40 q39 (q24 _ (aW h27))) (aI h119).1 (aI h119).2.1) zU2,trivial⟩ (fun bs122 G121=>?_)
  obtain⟨x129,h130,hF⟩:=aR hF
  refine lW (xE (H':=([⟨some b120,1,42,4,1,(eQ v118)⟩,⟨some b30,1,42,4,1,(eQ v28)⟩,⟨some p0,1,123,6,1,([pI .i64 a2]++[pI .i64 a3]++[pI .i64 a4]++[pO b5 n7 c6]++[pO b10 n12 c11]++[pO b15 n17 c16])⟩,hO (cH g20) b5 c6 24 n7 a5,hO cQ b10 c11 42 n12 a6,hO cI b15 c16 3 n17 a7]++fP cQ 42 g20 (x38.set v26 x129))) (6+v26) rfl (rU 6 rfl q40 q39 (q24 _ (aW h27))) h119 h130 tyA42.s (hH:=stN 6 rfl q40 q39 (q24 _ (aW h27)))) zU2 ?_
  obtain⟨v132,h133,hF⟩:=aR hF
  refine go ?_ ?_
  exact aG (fun a w hh=>⟨(x38.set v26 x129),v132,hF,(aEz q39),(aF0 q40 q39 (q24 _ (aW h27)) (bH h130 rfl)),aS 6 [1,2,3,4,5] rfl rfl (by decide) (by exact⟨rfl,rfl,rfl,rfl,rfl,rfl,rfl,trivial⟩) hh⟩)
 refine bO ?_
 obtain rfl:=jN hF
 exact fY Jj48 ⟨x38,hRl47,q39,q40,rfl,rfl⟩ 5 [1,2,3,4] rfl rfl ⟨rfl,rfl,rfl,trivial⟩
end Go.Proofs.YtolfcbpgmfbgmaaGreat
