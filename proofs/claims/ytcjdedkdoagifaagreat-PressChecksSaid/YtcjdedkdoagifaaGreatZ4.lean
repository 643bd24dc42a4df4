/- Texts of the proof, part 4: Q1. -/
import Derived.Test.YtcjdedkdoagifaaGreatZ3
set_option linter.unusedSimpArgs false
set_option linter.unusedVariables false
set_option maxRecDepth 100000
namespace Go.Proofs.YtcjdedkdoagifaaGreat
structure aIF where
 inv:Rat
 load:Rat
 bound:Bool
 lo:Rat
 hi:Rat
noncomputable def aIF.enc (x:aIF):List CP:=(eQ x.inv)++(eQ x.load)++[pB x.bound]++(eQ x.lo)++(eQ x.hi)
noncomputable def aIF.cod:Cd aIF:=⟨17,aIF.enc,fun _=>rfl⟩
structure aG where
 inv:Rat
 load:Rat
 bound:Bool
 lo:Rat
 hi:Rat
noncomputable def aG.enc (x:aG):List CP:=(eQ x.inv)++(eQ x.load)++[pB x.bound]++(eQ x.lo)++(eQ x.hi)
noncomputable def aG.cod:Cd aG:=⟨17,aG.enc,fun _=>rfl⟩
structure aC where
 dof:Int
 k:Rat
noncomputable def aC.enc (x:aC):List CP:=[pI .i64 x.dof]++(eQ x.k)
noncomputable def aC.cod:Cd aC:=⟨5,aC.enc,fun _=>rfl⟩
structure aA where
 kind:Int
 a:Int
 b:Int
 edge:Int
 gap:Rat
 j:List aC
 t:List aC
 mu:Rat
 e:Rat
noncomputable def aA.enc (x:aA):List CP:=[pI .i64 x.kind]++[pI .i64 x.a]++[pI .i64 x.b]++[pI .i64 x.edge]++(eQ x.gap)++[pS aC.cod x.j]++[pS aC.cod x.t]++(eQ x.mu)++(eQ x.e)
noncomputable def aA.cod:Cd aA:=⟨18,aA.enc,fun _=>rfl⟩
structure aH3 where
 dofs:List aG
 load:List Rat
 v:List Rat
 rows:List aA
noncomputable def aH3.enc (x:aH3):List CP:=[pS aG.cod x.dofs]++[pS cQ x.load]++[pS cQ x.v]++[pS aA.cod x.rows]
noncomputable def aH3.cod:Cd aH3:=⟨4,aH3.enc,fun _=>rfl⟩
structure aIq where
 row:Int
 kind:Int
noncomputable def aIq.enc (x:aIq):List CP:=[pI .i64 x.row]++[pI .i64 x.kind]
noncomputable def aIq.cod:Cd aIq:=⟨2,aIq.enc,fun _=>rfl⟩
structure aIm where
 n:Int
 rows:List (List Rat)
 basic:List Int
noncomputable def aIm.enc (x:aIm):List CP:=[pI .i64 x.n]++[pS (yP cQ) x.rows]++[pS cI x.basic]
noncomputable def aIm.cod:Cd aIm:=⟨3,aIm.enc,fun _=>rfl⟩
structure aIB where
 row:Int
 kind:Int
noncomputable def aIB.enc (x:aIB):List CP:=[pI .i64 x.row]++[pI .i64 x.kind]
noncomputable def aIB.cod:Cd aIB:=⟨2,aIB.enc,fun _=>rfl⟩
structure aMN where
 dofs:List aG
 load:List Rat
 v:List Rat
 rows:List aA
noncomputable def aMN.enc (x:aMN):List CP:=[pS aG.cod x.dofs]++[pS cQ x.load]++[pS cQ x.v]++[pS aA.cod x.rows]
noncomputable def aMN.cod:Cd aMN:=⟨4,aMN.enc,fun _=>rfl⟩
structure aNX where
 kind:Int
 a:Int
 b:Int
 edge:Int
 gap:Rat
 j:List aC
 t:List aC
 mu:Rat
 e:Rat
noncomputable def aNX.enc (x:aNX):List CP:=[pI .i64 x.kind]++[pI .i64 x.a]++[pI .i64 x.b]++[pI .i64 x.edge]++(eQ x.gap)++[pS aC.cod x.j]++[pS aC.cod x.t]++(eQ x.mu)++(eQ x.e)
noncomputable def aNX.cod:Cd aNX:=⟨18,aNX.enc,fun _=>rfl⟩
structure aMB where
 n:Rat
 f:Rat
noncomputable def aMB.enc (x:aMB):List CP:=(eQ x.n)++(eQ x.f)
noncomputable def aMB.cod:Cd aMB:=⟨8,aMB.enc,fun _=>rfl⟩
structure aNh where
 z:List Rat
 w:List Rat
 pivots:Int
noncomputable def aNh.enc (x:aNh):List CP:=[pS cQ x.z]++[pS cQ x.w]++[pI .i64 x.pivots]
noncomputable def aNh.cod:Cd aNh:=⟨3,aNh.enc,fun _=>rfl⟩
structure aM1 where
 dof:Int
 k:Rat
noncomputable def aM1.enc (x:aM1):List CP:=[pI .i64 x.dof]++(eQ x.k)
noncomputable def aM1.cod:Cd aM1:=⟨5,aM1.enc,fun _=>rfl⟩
structure aT where
 z:List Rat
 w:List Rat
 pivots:Int
noncomputable def aT.enc (x:aT):List CP:=[pS cQ x.z]++[pS cQ x.w]++[pI .i64 x.pivots]
noncomputable def aT.cod:Cd aT:=⟨3,aT.enc,fun _=>rfl⟩
structure aF where
 n:Rat
 f:Rat
noncomputable def aF.enc (x:aF):List CP:=(eQ x.n)++(eQ x.f)
noncomputable def aF.cod:Cd aF:=⟨8,aF.enc,fun _=>rfl⟩
structure qH where
 n:Int
 rows:List (List Rat)
 basic:List Int
noncomputable def qH.enc (x:qH):List CP:=[pI .i64 x.n]++[pS (yP cQ) x.rows]++[pS cI x.basic]
noncomputable def qH.cod:Cd qH:=⟨3,qH.enc,fun _=>rfl⟩
structure aI where
 dofs:List aG
 load:List Rat
 v:List Rat
 rows:List aA
noncomputable def aI.enc (x:aI):List CP:=[pS aG.cod x.dofs]++[pS cQ x.load]++[pS cQ x.v]++[pS aA.cod x.rows]
noncomputable def aI.cod:Cd aI:=⟨4,aI.enc,fun _=>rfl⟩
structure aZ where
 row:Int
 kind:Int
noncomputable def aZ.enc (x:aZ):List CP:=[pI .i64 x.row]++[pI .i64 x.kind]
noncomputable def aZ.cod:Cd aZ:=⟨2,aZ.enc,fun _=>rfl⟩
structure aH where
 dofs:List aG
 load:List Rat
 v:List Rat
 rows:List aA
noncomputable def aH.enc (x:aH):List CP:=[pS aG.cod x.dofs]++[pS cQ x.load]++[pS cQ x.v]++[pS aA.cod x.rows]
noncomputable def aH.cod:Cd aH:=⟨4,aH.enc,fun _=>rfl⟩
structure aE where
 row:Int
 kind:Int
noncomputable def aE.enc (x:aE):List CP:=[pI .i64 x.row]++[pI .i64 x.kind]
noncomputable def aE.cod:Cd aE:=⟨2,aE.enc,fun _=>rfl⟩
instance tyA108:TyA Tryz.prog 108 17:=mkA Tryz.underlying108 rfl (by kernel_rfl)
instance tyA113:TyA Tryz.prog 113 4:=mkA Tryz.underlying113 rfl (by kernel_rfl)
instance tyA118:TyA Tryz.prog 118 2:=mkA Tryz.underlying118 rfl (by kernel_rfl)
instance tyA27:TyA Tryz.prog 27 4:=mkA Tryz.underlying27 rfl (by kernel_rfl)
instance tyA51:TyA Tryz.prog 51 18:=mkA Tryz.underlying51 rfl (by kernel_rfl)
instance tyA58:TyA Tryz.prog 58 8:=mkA Tryz.underlying58 rfl (by kernel_rfl)
instance tyA68:TyA Tryz.prog 68 3:=mkA Tryz.underlying68 rfl (by kernel_rfl)
instance tyA92:TyA Tryz.prog 92 5:=mkA Tryz.underlying92 rfl (by kernel_rfl)
theorem tyB108q:TyB Tryz.prog 108 [(0,4),(4,4),(8,1),(9,4),(13,4)] ((eQ 0)++(eQ 0)++[pB false]++(eQ 0)++(eQ 0)):=mkB (z:=.agg #[.bool false,.slice none 0 0,.bool false,.slice none 0 0,.bool false,.slice none 0 0,.bool false,.slice none 0 0,.bool false,.bool false,.slice none 0 0,.bool false,.slice none 0 0,.bool false,.slice none 0 0,.bool false,.slice none 0 0]) (by kernel_rfl) Tryz.underlying108 (by kernel_rfl) (fun M=>bE.app (bE.app (bE.app (bE.app (eQ0 M) (eQ0 M)) (show bE M [pB false] [.bool false] from zU1)) (eQ0 M)) (eQ0 M))
theorem tyB113q:TyB Tryz.prog 113 [(0,1),(1,1),(2,1),(3,1)] ([pS aG.cod ([]:List aG)]++[pS cQ ([]:List Rat)]++[pS cQ ([]:List Rat)]++[pS aA.cod ([]:List aA)]):=mkB (z:=.agg #[.slice none 0 0,.slice none 0 0,.slice none 0 0,.slice none 0 0]) (by kernel_rfl) Tryz.underlying113 (by kernel_rfl) (fun M=>bE.app (bE.app (bE.app (show bE M [pS aG.cod ([]:List aG)] [.slice none 0 0] from⟨d9 aG.cod M,trivial⟩) (show bE M [pS cQ ([]:List Rat)] [.slice none 0 0] from⟨d9 cQ M,trivial⟩)) (show bE M [pS cQ ([]:List Rat)] [.slice none 0 0] from⟨d9 cQ M,trivial⟩)) (show bE M [pS aA.cod ([]:List aA)] [.slice none 0 0] from⟨d9 aA.cod M,trivial⟩))
theorem tyB118q:TyB Tryz.prog 118 [(0,1),(1,1)] ([pI .i64 0]++[pI .i64 0]):=mkB (z:=.agg #[.int .i64 0,.int .i64 0]) (by kernel_rfl) Tryz.underlying118 (by kernel_rfl) (fun M=>bE.app (show bE M [pI .i64 0] [.int .i64 0] from zU1) (show bE M [pI .i64 0] [.int .i64 0] from zU1))
theorem tyB151_o1_o2q:TyB Tryz.prog 151 [(0,1),(1,1),(2,1)] ([pI .i64 0]++[pO none 0 0]++[pO none 0 0]):=mkB (z:=.agg #[.int .i64 0,.slice none 0 0,.slice none 0 0]) (by kernel_rfl) Tryz.underlying151 (by kernel_rfl) (fun M=>bE.app (bE.app (show bE M [pI .i64 0] [.int .i64 0] from zU1) (show bE M [pO none 0 0] [.slice none 0 0] from⟨.inl rfl,trivial⟩)) (show bE M [pO none 0 0] [.slice none 0 0] from⟨.inl rfl,trivial⟩))
theorem tyB27q:TyB Tryz.prog 27 [(0,1),(1,1),(2,1),(3,1)] ([pS aG.cod ([]:List aG)]++[pS cQ ([]:List Rat)]++[pS cQ ([]:List Rat)]++[pS aA.cod ([]:List aA)]):=mkB (z:=.agg #[.slice none 0 0,.slice none 0 0,.slice none 0 0,.slice none 0 0]) (by kernel_rfl) Tryz.underlying27 (by kernel_rfl) (fun M=>bE.app (bE.app (bE.app (show bE M [pS aG.cod ([]:List aG)] [.slice none 0 0] from⟨d9 aG.cod M,trivial⟩) (show bE M [pS cQ ([]:List Rat)] [.slice none 0 0] from⟨d9 cQ M,trivial⟩)) (show bE M [pS cQ ([]:List Rat)] [.slice none 0 0] from⟨d9 cQ M,trivial⟩)) (show bE M [pS aA.cod ([]:List aA)] [.slice none 0 0] from⟨d9 aA.cod M,trivial⟩))
theorem tyB44q:TyB Tryz.prog 44 [(0,2),(2,2)] (eQ 0):=mkB (z:=.agg #[.bool false,.slice none 0 0,.bool false,.slice none 0 0]) (by kernel_rfl) Tryz.underlying44 (by kernel_rfl) (fun M=>eQ0 M)
theorem tyB51q:TyB Tryz.prog 51 [(0,1),(1,1),(2,1),(3,1),(4,4),(8,1),(9,1),(10,4),(14,4)] ([pI .i64 0]++[pI .i64 0]++[pI .i64 0]++[pI .i64 0]++(eQ 0)++[pS aC.cod ([]:List aC)]++[pS aC.cod ([]:List aC)]++(eQ 0)++(eQ 0)):=mkB (z:=.agg #[.int .i64 0,.int .i64 0,.int .i64 0,.int .i64 0,.bool false,.slice none 0 0,.bool false,.slice none 0 0,.slice none 0 0,.slice none 0 0,.bool false,.slice none 0 0,.bool false,.slice none 0 0,.bool false,.slice none 0 0,.bool false,.slice none 0 0]) (by kernel_rfl) Tryz.underlying51 (by kernel_rfl) (fun M=>bE.app (bE.app (bE.app (bE.app (bE.app (bE.app (bE.app (bE.app (show bE M [pI .i64 0] [.int .i64 0] from zU1) (show bE M [pI .i64 0] [.int .i64 0] from zU1)) (show bE M [pI .i64 0] [.int .i64 0] from zU1)) (show bE M [pI .i64 0] [.int .i64 0] from zU1)) (eQ0 M)) (show bE M [pS aC.cod ([]:List aC)] [.slice none 0 0] from⟨d9 aC.cod M,trivial⟩)) (show bE M [pS aC.cod ([]:List aC)] [.slice none 0 0] from⟨d9 aC.cod M,trivial⟩)) (eQ0 M)) (eQ0 M))
theorem tyB58q:TyB Tryz.prog 58 [(0,4),(4,4)] ((eQ 0)++(eQ 0)):=mkB (z:=.agg #[.bool false,.slice none 0 0,.bool false,.slice none 0 0,.bool false,.slice none 0 0,.bool false,.slice none 0 0]) (by kernel_rfl) Tryz.underlying58 (by kernel_rfl) (fun M=>bE.app (eQ0 M) (eQ0 M))
theorem tyB68q:TyB Tryz.prog 68 [(0,1),(1,1),(2,1)] ([pS cQ ([]:List Rat)]++[pS cQ ([]:List Rat)]++[pI .i64 0]):=mkB (z:=.agg #[.slice none 0 0,.slice none 0 0,.int .i64 0]) (by kernel_rfl) Tryz.underlying68 (by kernel_rfl) (fun M=>bE.app (bE.app (show bE M [pS cQ ([]:List Rat)] [.slice none 0 0] from⟨d9 cQ M,trivial⟩) (show bE M [pS cQ ([]:List Rat)] [.slice none 0 0] from⟨d9 cQ M,trivial⟩)) (show bE M [pI .i64 0] [.int .i64 0] from zU1))
theorem tyB92q:TyB Tryz.prog 92 [(0,1),(1,4)] ([pI .i64 0]++(eQ 0)):=mkB (z:=.agg #[.int .i64 0,.bool false,.slice none 0 0,.bool false,.slice none 0 0]) (by kernel_rfl) Tryz.underlying92 (by kernel_rfl) (fun M=>bE.app (show bE M [pI .i64 0] [.int .i64 0] from zU1) (eQ0 M))
instance tyF108_0:TyF Tryz.prog 108 0 0:=mkF (ft:=44) (k:=3) Tryz.underlying108 rfl rfl rfl (by kernel_rfl)
instance tyF113_0:TyF Tryz.prog 113 0 0:=mkF (ft:=23) (k:=0) Tryz.underlying113 rfl rfl rfl (by kernel_rfl)
instance tyF113_1:TyF Tryz.prog 113 1 1:=mkF (ft:=24) (k:=0) Tryz.underlying113 rfl rfl rfl (by kernel_rfl)
instance tyF113_2:TyF Tryz.prog 113 2 2:=mkF (ft:=24) (k:=0) Tryz.underlying113 rfl rfl rfl (by kernel_rfl)
instance tyF113_3:TyF Tryz.prog 113 3 3:=mkF (ft:=25) (k:=0) Tryz.underlying113 rfl rfl rfl (by kernel_rfl)
instance tyF118_0:TyF Tryz.prog 118 0 0:=mkF (ft:=3) (k:=0) Tryz.underlying118 rfl rfl rfl (by kernel_rfl)
instance tyF118_1:TyF Tryz.prog 118 1 1:=mkF (ft:=3) (k:=0) Tryz.underlying118 rfl rfl rfl (by kernel_rfl)
instance tyF151_0:TyF Tryz.prog 151 0 0:=mkF (ft:=3) (k:=0) Tryz.underlying151 rfl rfl rfl (by kernel_rfl)
instance tyF151_1:TyF Tryz.prog 151 1 1:=mkF (ft:=62) (k:=0) Tryz.underlying151 rfl rfl rfl (by kernel_rfl)
instance tyF151_2:TyF Tryz.prog 151 2 2:=mkF (ft:=22) (k:=0) Tryz.underlying151 rfl rfl rfl (by kernel_rfl)
instance tyF154_0:TyF Tryz.prog 154 0 0:=mkF (ft:=3) (k:=0) Tryz.underlying154 rfl rfl rfl (by kernel_rfl)
instance tyF154_1:TyF Tryz.prog 154 1 1:=mkF (ft:=3) (k:=0) Tryz.underlying154 rfl rfl rfl (by kernel_rfl)
instance tyF27_0:TyF Tryz.prog 27 0 0:=mkF (ft:=23) (k:=0) Tryz.underlying27 rfl rfl rfl (by kernel_rfl)
instance tyF27_1:TyF Tryz.prog 27 1 1:=mkF (ft:=24) (k:=0) Tryz.underlying27 rfl rfl rfl (by kernel_rfl)
instance tyF27_2:TyF Tryz.prog 27 2 2:=mkF (ft:=24) (k:=0) Tryz.underlying27 rfl rfl rfl (by kernel_rfl)
instance tyF27_3:TyF Tryz.prog 27 3 3:=mkF (ft:=25) (k:=0) Tryz.underlying27 rfl rfl rfl (by kernel_rfl)
instance tyF51_5:TyF Tryz.prog 51 5 8:=mkF (ft:=49) (k:=0) Tryz.underlying51 rfl rfl rfl (by kernel_rfl)
instance tyF51_6:TyF Tryz.prog 51 6 9:=mkF (ft:=49) (k:=0) Tryz.underlying51 rfl rfl rfl (by kernel_rfl)
instance tyF51_7:TyF Tryz.prog 51 7 10:=mkF (ft:=44) (k:=3) Tryz.underlying51 rfl rfl rfl (by kernel_rfl)
instance tyF58_0:TyF Tryz.prog 58 0 0:=mkF (ft:=44) (k:=3) Tryz.underlying58 rfl rfl rfl (by kernel_rfl)
instance tyF58_1:TyF Tryz.prog 58 1 4:=mkF (ft:=44) (k:=3) Tryz.underlying58 rfl rfl rfl (by kernel_rfl)
instance tyF68_0:TyF Tryz.prog 68 0 0:=mkF (ft:=24) (k:=0) Tryz.underlying68 rfl rfl rfl (by kernel_rfl)
instance tyF68_1:TyF Tryz.prog 68 1 1:=mkF (ft:=24) (k:=0) Tryz.underlying68 rfl rfl rfl (by kernel_rfl)
instance tyF68_2:TyF Tryz.prog 68 2 2:=mkF (ft:=3) (k:=0) Tryz.underlying68 rfl rfl rfl (by kernel_rfl)
instance tyF92_0:TyF Tryz.prog 92 0 0:=mkF (ft:=3) (k:=0) Tryz.underlying92 rfl rfl rfl (by kernel_rfl)
instance tyF92_1:TyF Tryz.prog 92 1 1:=mkF (ft:=44) (k:=3) Tryz.underlying92 rfl rfl rfl (by kernel_rfl)
instance tyO114:Ty1 Tryz.prog 114:=mk1 Tryz.underlying114 rfl (by kernel_rfl)
instance tyO23:Ty1 Tryz.prog 23:=mk1 Tryz.underlying23 rfl (by kernel_rfl)
instance tyO24:Ty1 Tryz.prog 24:=mk1 Tryz.underlying24 rfl (by kernel_rfl)
instance tyO25:Ty1 Tryz.prog 25:=mk1 Tryz.underlying25 rfl (by kernel_rfl)
instance tyO49:Ty1 Tryz.prog 49:=mk1 Tryz.underlying49 rfl (by kernel_rfl)
instance tyO62:Ty1 Tryz.prog 62:=mk1 Tryz.underlying62 rfl (by kernel_rfl)
theorem tyQ118:TyQ Tryz.prog 118:=mkQ Tryz.underlying118 (by kernel_rfl) (by kernel_rfl) rfl (by decide) (by decide) rfl rfl Tryz.underlying3 Tryz.underlying3
instance tyS114:TyS Tryz.prog 114 118 2 16:=mkS (z:=.agg #[.int .i64 0,.int .i64 0]) (k:=1) Tryz.underlying114 (by kernel_rfl) rfl
instance tyS142:TyS Tryz.prog 142 154 2 16:=mkS (z:=.agg #[.int .i64 0,.int .i64 0]) (k:=1) Tryz.underlying142 (by kernel_rfl) rfl
instance tyS23:TyS Tryz.prog 23 108 17 264:=mkS (z:=.agg #[.bool false,.slice none 0 0,.bool false,.slice none 0 0,.bool false,.slice none 0 0,.bool false,.slice none 0 0,.bool false,.bool false,.slice none 0 0,.bool false,.slice none 0 0,.bool false,.slice none 0 0,.bool false,.slice none 0 0]) (k:=16) Tryz.underlying23 (by kernel_rfl) rfl
instance tyS24:TyS Tryz.prog 24 44 4 64:=mkS (z:=.agg #[.bool false,.slice none 0 0,.bool false,.slice none 0 0]) (k:=3) Tryz.underlying24 (by kernel_rfl) rfl
instance tyS25:TyS Tryz.prog 25 51 18 272:=mkS (z:=.agg #[.int .i64 0,.int .i64 0,.int .i64 0,.int .i64 0,.bool false,.slice none 0 0,.bool false,.slice none 0 0,.slice none 0 0,.slice none 0 0,.bool false,.slice none 0 0,.bool false,.slice none 0 0,.bool false,.slice none 0 0,.bool false,.slice none 0 0]) (k:=17) Tryz.underlying25 (by kernel_rfl) rfl
instance tyS29:TyS Tryz.prog 29 58 8 128:=mkS (z:=.agg #[.bool false,.slice none 0 0,.bool false,.slice none 0 0,.bool false,.slice none 0 0,.bool false,.slice none 0 0]) (k:=7) Tryz.underlying29 (by kernel_rfl) rfl
instance tyS49:TyS Tryz.prog 49 92 5 72:=mkS (z:=.agg #[.int .i64 0,.bool false,.slice none 0 0,.bool false,.slice none 0 0]) (k:=4) Tryz.underlying49 (by kernel_rfl) rfl
instance tyS62:TyS Tryz.prog 62 24 1 24:=mkS (z:=.slice none 0 0) (k:=0) Tryz.underlying62 (by kernel_rfl) rfl
instance tyZ108q:TyZ Tryz.prog 108 ((eQ 0)++(eQ 0)++[pB false]++(eQ 0)++(eQ 0)):=mkZ (z:=.agg #[.bool false,.slice none 0 0,.bool false,.slice none 0 0,.bool false,.slice none 0 0,.bool false,.slice none 0 0,.bool false,.bool false,.slice none 0 0,.bool false,.slice none 0 0,.bool false,.slice none 0 0,.bool false,.slice none 0 0]) (k:=17) (by kernel_rfl) rfl (fun M=>bE.app (bE.app (bE.app (bE.app (eQ0 M) (eQ0 M)) (show bE M [pB false] [.bool false] from zU1)) (eQ0 M)) (eQ0 M))
instance tyZ113q:TyZ Tryz.prog 113 ([pS aG.cod ([]:List aG)]++[pS cQ ([]:List Rat)]++[pS cQ ([]:List Rat)]++[pS aA.cod ([]:List aA)]):=mkZ (z:=.agg #[.slice none 0 0,.slice none 0 0,.slice none 0 0,.slice none 0 0]) (k:=4) (by kernel_rfl) rfl (fun M=>bE.app (bE.app (bE.app (show bE M [pS aG.cod ([]:List aG)] [.slice none 0 0] from⟨d9 aG.cod M,trivial⟩) (show bE M [pS cQ ([]:List Rat)] [.slice none 0 0] from⟨d9 cQ M,trivial⟩)) (show bE M [pS cQ ([]:List Rat)] [.slice none 0 0] from⟨d9 cQ M,trivial⟩)) (show bE M [pS aA.cod ([]:List aA)] [.slice none 0 0] from⟨d9 aA.cod M,trivial⟩))
instance tyZ114q:TyZ Tryz.prog 114 [pS aE.cod ([]:List aE)]:=mkZ (z:=.slice none 0 0) (k:=1) (by kernel_rfl) rfl (fun M=>show bE M [pS aE.cod ([]:List aE)] [.slice none 0 0] from⟨d9 aE.cod M,trivial⟩)
instance tyZ118q:TyZ Tryz.prog 118 ([pI .i64 0]++[pI .i64 0]):=mkZ (z:=.agg #[.int .i64 0,.int .i64 0]) (k:=2) (by kernel_rfl) rfl (fun M=>bE.app (show bE M [pI .i64 0] [.int .i64 0] from zU1) (show bE M [pI .i64 0] [.int .i64 0] from zU1))
instance tyZ24q:TyZ Tryz.prog 24 [pS cQ ([]:List Rat)]:=mkZ (z:=.slice none 0 0) (k:=1) (by kernel_rfl) rfl (fun M=>show bE M [pS cQ ([]:List Rat)] [.slice none 0 0] from⟨d9 cQ M,trivial⟩)
theorem tyZ24_oq:TyZ Tryz.prog 24 [pO none 0 0]:=mkZ (z:=.slice none 0 0) (k:=1) (by kernel_rfl) rfl (fun M=>show bE M [pO none 0 0] [.slice none 0 0] from⟨.inl rfl,trivial⟩)
instance tyZ27q:TyZ Tryz.prog 27 ([pS aG.cod ([]:List aG)]++[pS cQ ([]:List Rat)]++[pS cQ ([]:List Rat)]++[pS aA.cod ([]:List aA)]):=mkZ (z:=.agg #[.slice none 0 0,.slice none 0 0,.slice none 0 0,.slice none 0 0]) (k:=4) (by kernel_rfl) rfl (fun M=>bE.app (bE.app (bE.app (show bE M [pS aG.cod ([]:List aG)] [.slice none 0 0] from⟨d9 aG.cod M,trivial⟩) (show bE M [pS cQ ([]:List Rat)] [.slice none 0 0] from⟨d9 cQ M,trivial⟩)) (show bE M [pS cQ ([]:List Rat)] [.slice none 0 0] from⟨d9 cQ M,trivial⟩)) (show bE M [pS aA.cod ([]:List aA)] [.slice none 0 0] from⟨d9 aA.cod M,trivial⟩))
theorem tyZ27_o0_o1_o2_o3q:TyZ Tryz.prog 27 ([pO none 0 0]++[pO none 0 0]++[pO none 0 0]++[pO none 0 0]):=mkZ (z:=.agg #[.slice none 0 0,.slice none 0 0,.slice none 0 0,.slice none 0 0]) (k:=4) (by kernel_rfl) rfl (fun M=>bE.app (bE.app (bE.app (show bE M [pO none 0 0] [.slice none 0 0] from⟨.inl rfl,trivial⟩) (show bE M [pO none 0 0] [.slice none 0 0] from⟨.inl rfl,trivial⟩)) (show bE M [pO none 0 0] [.slice none 0 0] from⟨.inl rfl,trivial⟩)) (show bE M [pO none 0 0] [.slice none 0 0] from⟨.inl rfl,trivial⟩))
instance tyZ3q:TyZ Tryz.prog 3 [pI .i64 0]:=mkZ (z:=.int .i64 0) (k:=1) (by kernel_rfl) rfl (fun M=>show bE M [pI .i64 0] [.int .i64 0] from zU1)
instance tyZ44q:TyZ Tryz.prog 44 (eQ 0):=mkZ (z:=.agg #[.bool false,.slice none 0 0,.bool false,.slice none 0 0]) (k:=4) (by kernel_rfl) rfl (fun M=>eQ0 M)
instance tyZ51q:TyZ Tryz.prog 51 ([pI .i64 0]++[pI .i64 0]++[pI .i64 0]++[pI .i64 0]++(eQ 0)++[pS aC.cod ([]:List aC)]++[pS aC.cod ([]:List aC)]++(eQ 0)++(eQ 0)):=mkZ (z:=.agg #[.int .i64 0,.int .i64 0,.int .i64 0,.int .i64 0,.bool false,.slice none 0 0,.bool false,.slice none 0 0,.slice none 0 0,.slice none 0 0,.bool false,.slice none 0 0,.bool false,.slice none 0 0,.bool false,.slice none 0 0,.bool false,.slice none 0 0]) (k:=18) (by kernel_rfl) rfl (fun M=>bE.app (bE.app (bE.app (bE.app (bE.app (bE.app (bE.app (bE.app (show bE M [pI .i64 0] [.int .i64 0] from zU1) (show bE M [pI .i64 0] [.int .i64 0] from zU1)) (show bE M [pI .i64 0] [.int .i64 0] from zU1)) (show bE M [pI .i64 0] [.int .i64 0] from zU1)) (eQ0 M)) (show bE M [pS aC.cod ([]:List aC)] [.slice none 0 0] from⟨d9 aC.cod M,trivial⟩)) (show bE M [pS aC.cod ([]:List aC)] [.slice none 0 0] from⟨d9 aC.cod M,trivial⟩)) (eQ0 M)) (eQ0 M))
instance tyZ58q:TyZ Tryz.prog 58 ((eQ 0)++(eQ 0)):=mkZ (z:=.agg #[.bool false,.slice none 0 0,.bool false,.slice none 0 0,.bool false,.slice none 0 0,.bool false,.slice none 0 0]) (k:=8) (by kernel_rfl) rfl (fun M=>bE.app (eQ0 M) (eQ0 M))
instance tyZ62q:TyZ Tryz.prog 62 [pS (yP cQ) ([]:List (List Rat))]:=mkZ (z:=.slice none 0 0) (k:=1) (by kernel_rfl) rfl (fun M=>show bE M [pS (yP cQ) ([]:List (List Rat))] [.slice none 0 0] from⟨d9 (yP cQ) M,trivial⟩)
instance tyZ68q:TyZ Tryz.prog 68 ([pS cQ ([]:List Rat)]++[pS cQ ([]:List Rat)]++[pI .i64 0]):=mkZ (z:=.agg #[.slice none 0 0,.slice none 0 0,.int .i64 0]) (k:=3) (by kernel_rfl) rfl (fun M=>bE.app (bE.app (show bE M [pS cQ ([]:List Rat)] [.slice none 0 0] from⟨d9 cQ M,trivial⟩) (show bE M [pS cQ ([]:List Rat)] [.slice none 0 0] from⟨d9 cQ M,trivial⟩)) (show bE M [pI .i64 0] [.int .i64 0] from zU1))
instance tyZ92q:TyZ Tryz.prog 92 ([pI .i64 0]++(eQ 0)):=mkZ (z:=.agg #[.int .i64 0,.bool false,.slice none 0 0,.bool false,.slice none 0 0]) (k:=5) (by kernel_rfl) rfl (fun M=>bE.app (show bE M [pI .i64 0] [.int .i64 0] from zU1) (eQ0 M))
def dD (a0:Int) (a1:Int):Option Int:=
 bif(decide (a0<0)) then((aS (a0+1)).bind fun v2=>(aS (-v2)).bind fun v4=>(xG v4 a1).bind fun v6=>some v6) else((xG a0 a1).bind fun v8=>some v8)
theorem gL {a0:Int} {a1:Int} {r:Int} (hF:dD a0 a1=some r):Ct Tryz.prog 24 [.vc (pI .i64 a0),.vc (pI .i64 a1)] (.vc (pI .i64 r)):=by
 unfold dD at hF
 refine aJ Tryz.func24 rfl (by kernel_rfl) Tryz.ntmps24 rfl (fun w0 M0=>?_)
 refine go ?_ ?_
 refine aL hF rfl (fun h1 hF=>?_) (fun h1 hF=>?_)
 ·obtain⟨v2,h3,v4,h5,v6,h7,hF⟩:=bn3 hF
  exact bQ
 obtain⟨v8,h9,hF⟩:=a8 hF
 exact bQ
def bO (a0:List Int) (a1:Int) (a2:Int):Option Int:=
 bif(decide (a1<0)) then(some 0) else(bif(decide ((a0.length:Int)≤a1)) then(some 0) else((bT a0 a1).bind fun v3=>(dD v3 a2).bind fun v5=>some v5))
theorem dK {a0:List Int} {a1:Int} {a2:Int} {r:Int} (hF:bO a0 a1 a2=some r):Ct Tryz.prog 26 [.vc (pS cI a0),.vc (pI .i64 a1),.vc (pI .i64 a2)] (.vc (pI .i64 r)):=by
 unfold bO at hF
 refine aJ Tryz.func26 rfl (by kernel_rfl) Tryz.ntmps26 rfl (fun w0 M0=>?_)
 refine go ?_ ?_
 refine dC hF (fun h1 hF=>?_) (fun h1 hF=>?_)
 ·refine go ?_ ?_
  refine gV rfl ?_
  exact bQ
 refine go ?_ ?_
 refine aL hF rfl (fun h2 hF=>?_) (fun h2 hF=>?_)
 ·exact bQ
 obtain⟨v3,h4,hF⟩:=a8 hF
 obtain⟨v5,h6,hF⟩:=aY hF gL
 exact bQ
def pY (K:Nat) (x19:List aC):Option (List aC):=
 some x19
def eS (K:Nat) (a1:Int):Nat→(List aC)→Int→Int→Option (List aC)
 |0,_,_,_=>none
 |k+1,x11,x17,x18=>bif(decide (x18<a1)) then((xG x17 7).bind fun v28=>(bT [0,1,(-1),0,2,(-1),1] v28).bind fun v30=>(w7 x17 7).bind fun v32=>bif(v30 != 0) then((xG v32 3).bind fun v35=>(aS (1+v35)).bind fun v37=>(zK v30 v37).bind fun v39=>(pA x11 [(⟨x18,v39⟩:aC)]).bind fun x41=>(w7 v32 3).bind fun v48=>(aS (x18+1)).bind fun v50=>eS K a1 k x41 v48 v50) else((w7 v32 3).bind fun v52=>(aS (x18+1)).bind fun v54=>eS K a1 k x11 v52 v54)) else(some x11)
def eJ (K:Nat) (a0:Int) (a1:Int):Option (List aC):=
 (eS K a1 K ([]:List aC) a0 0).bind fun x19=>pY K x19
theorem pN {K:Nat} {a0:Int} {a1:Int} {r:List aC} (hF:eJ K a0 a1=some r):Ct Tryz.prog 67 [.vc (pI .i64 a0),.vc (pI .i64 a1)] (.vc (pS aC.cod r)):=by
 unfold eJ at hF
 refine aJ Tryz.func67 rfl (by kernel_rfl) Tryz.ntmps67 rfl (fun w0 M0=>?_)
 refine aN (aU (aX (bP (.inr rfl)) ⟨d9 aC.cod,trivial⟩ ?_))
 refine bI (aP (aN (aU (yS aC.cod 92 rfl ?_))))
 refine go ?_ ?_
 refine aQ (bY (fun H E=>∃(x19:List aC),∃(b20:Option Nat),∃(c21:Nat),∃(n22:Nat),pY K x19=some r∧x19.length=n22∧H=[hO aC.cod b20 c21 92 n22 x19]∧E=[(5,.vc (pO b20 n22 c21))]) ?_ (fun Jj26=>?_))
 ·rintro _ _ ⟨x19,b20,c21,n22,hF,q23,rfl,rfl⟩
  unfold pY at hF
  refine go ?_ ?_
  refine pU (pG (oI 0 [4,5,34] rfl q23 ⟨rfl,rfl,rfl,trivial⟩ rfl ?_))
  obtain rfl:=oN hF
  exact mT (.inl rfl) Tryz.results67 (.tmp rfl .nil) rfl rfl
 obtain⟨x19',hL,hRl25⟩:=a8 hF
 refine hY (fun k a w=>∃(x11:List aC),∃(x17:Int),∃(x18:Int),∃(b12:Option Nat),∃(c13:Nat),∃(n14:Nat),eS K a1 k x11 x17 x18=some x19'∧x11.length=n14∧hs _ [hO aC.cod b12 c13 92 n14 x11] [(0,.vc (pI .i64 x17)),(1,.vc (pI .i64 a1)),(5,.vc (pO b12 n14 c13)),(6,.vc (pI .i64 x18))] a w) K (fun a w ⟨_,_,_,_,_,_,hF,_,_⟩=>by cases hF) (fun k a w ⟨x11,x17,x18,b12,c13,n14,hF,q15,hh⟩=>iA ?_ hh) (fun a w hh=>⟨([]:List aC),a0,0,none,0,0,hL,rfl,gJ [0] hh⟩)
 rw [eS.eq_2] at hF
 refine go ?_ ?_
 refine aL hF rfl (fun h27 hF=>?_) (fun h27 hF=>?_)
 ·refine go ?_ ?_
  refine aQ (aN (aU (aX (kT (C:=cI) (xs:=[.const (.int .i64 (0)),.const (.int .i64 (1)),.const (.int .i64 (-1)),.const (.int .i64 (0)),.const (.int .i64 (2)),.const (.int .i64 (-1)),.const (.int .i64 (1))]) (ps:=[.vc (pI .i64 0),.vc (pI .i64 1),.vc (pI .i64 (-1)),.vc (pI .i64 0),.vc (pI .i64 2),.vc (pI .i64 (-1)),.vc (pI .i64 1)]) (zs:=[0,1,(-1),0,2,(-1),1]) rfl tyS22 rfl ⟨⟨trivial,rfl⟩,⟨trivial,rfl⟩,⟨trivial,rfl⟩,⟨trivial,rfl⟩,⟨trivial,rfl⟩,⟨trivial,rfl⟩,⟨trivial,rfl⟩,trivial⟩ rfl) ⟨lC _ _,lC _ _,lC _ _,lC _ _,lC _ _,lC _ _,lC _ _,trivial⟩ ?_)))
  obtain⟨v28,h29,v30,h31,v32,h33,hF⟩:=bn3 hF
  refine go ?_ ?_
  refine aL hF rfl (fun h34 hF=>?_) (fun h34 hF=>?_)
  ·obtain⟨v35,h36,v37,h38,hF⟩:=wK hF
   obtain⟨v39,h40,hF⟩:=aY hF bR
   refine go ?_ ?_
   refine aX (cR (is:=[0,1]) (xs:=[.tmp 23,.tmp 28]) (ps:=[.vc (pI .i64 x18),.va (eQ v39)]) rfl tyB92q rfl rfl ⟨trivial,trivial,trivial⟩ rfl) zU2 ?_
   refine aX (kT (C:=aC.cod) (xs:=[.tmp 29]) (ps:=[.va ([pI .i64 x18]++(eQ v39))]) (zs:=[(⟨x18,v39⟩:aC)]) rfl tyS49 rfl ⟨⟨trivial,rfl⟩,trivial⟩ rfl) zU1 ?_
   obtain⟨x41,h42,hF⟩:=a8 hF
   refine lY 0 rfl tyS49 rfl rfl q15 rfl rfl h42 (fun b43 c44 H45 e46=>?_)
   cases e46
   obtain⟨v48,h49,v50,h51,hF⟩:=wK hF
   refine go ?_ ?_
   exact aM (fun a w hh=>⟨x41,v48,v50,b43,c44,(n14+[(⟨x18,v39⟩:aC)].length),hF,(bF h42 q15),gJ [0] hh⟩)
  obtain⟨v52,h53,v54,h55,hF⟩:=wK hF
  refine go ?_ ?_
  exact aM (fun a w hh=>⟨x11,v52,v54,b12,c13,n14,hF,q15,gJ [0] hh⟩)
 refine cU ?_
 obtain rfl:=oN hF
 exact p9 Jj26 ⟨x11,b12,c13,n14,hRl25,q15,rfl,rfl⟩ [0]
def l4 (K:Nat) (x75:List Rat) (x81:List aG) (x93:List Rat) (x114:List aA):Option aI:=
 some (⟨x81,x75,x93,x114⟩:aI)
def fN (K:Nat) (x107:List aA) (x113:Int) (v129:Int) (recl120:(List aA)→Int→Option (List aA)) (x159:aA):Option (List aA):=
 (uI x159.mu).bind fun v161=>bif(v161==0) then((pA x107 [(⟨x159.kind,x159.a,x159.b,x159.edge,x159.gap,x159.j,[],0,x159.e⟩:aA)]).bind fun x164=>(aS (x113+1)).bind fun v171=>recl120 x164 v171) else((xG v129 5).bind fun v173=>bif(v173==0) then((pA x107 [(⟨x159.kind,x159.a,x159.b,x159.edge,x159.gap,x159.j,[],0,x159.e⟩:aA)]).bind fun x176=>(aS (x113+1)).bind fun v183=>recl120 x176 v183) else((pA x107 [x159]).bind fun x185=>(aS (x113+1)).bind fun v192=>recl120 x185 v192))
def dG (K:Nat) (a0:List Int) (a1:Bool) (v4:Int):Nat→(List aA)→Int→Option (List aA)
 |0,_,_=>none
 |k+1,x107,x113=>(bO a0 8 5).bind fun v122=>bif(decide (x113<v122)) then((aS (3*x113)).bind fun v125=>(aS (9+v125)).bind fun v127=>(bO a0 v127 1099511627776).bind fun v129=>(eJ K v129 v4).bind fun v131=>(aS (3*x113)).bind fun v133=>(aS (10+v133)).bind fun v135=>(bO a0 v135 1099511627776).bind fun v137=>(eJ K v137 v4).bind fun v139=>(aS (3*x113)).bind fun v141=>(aS (11+v141)).bind fun v143=>(bO a0 v143 5).bind fun v145=>(aS (3*x113)).bind fun v147=>(aS (11+v147)).bind fun v149=>(bO a0 v149 3).bind fun v151=>(aS (1+v151)).bind fun v153=>(zK v145 v153).bind fun v155=>bif(!a1) then((aS (v4-1)).bind fun v195=>(eJ K v129 v195).bind fun v197=>fN K x107 x113 v129 (dG K a0 a1 v4 k) (⟨0,0,x113,0,0,v197,v139,v155,0⟩:aA)) else(fN K x107 x113 v129 (dG K a0 a1 v4 k) (⟨0,0,x113,0,0,v131,v139,v155,0⟩:aA))) else(some x107)
def kL (K:Nat) (a0:List Int) (a1:Bool) (v4:Int) (x75:List Rat) (x81:List aG) (x93:List Rat):Option aI:=
 (dG K a0 a1 v4 K ([]:List aA) 0).bind fun x114=>l4 K x75 x81 x93 x114
def oW (K:Nat) (x69:List Rat) (x75:List Rat) (x81:List aG) (x235:List aA):Option aI:=
 some (⟨x81,x75,x69,x235⟩:aI)
def hU (K:Nat) (x228:List aA) (x234:Int) (v250:Int) (v252:List aC) (v260:List aC) (v276:Rat) (recl241:(List aA)→Int→Option (List aA)):Option (List aA):=
 (uI v276).bind fun v281=>bif(v281==0) then((pA x228 [(⟨0,0,x234,0,0,v252,[],0,0⟩:aA)]).bind fun x284=>(aS (x234+1)).bind fun v291=>recl241 x284 v291) else((xG v250 5).bind fun v293=>bif(v293==0) then((pA x228 [(⟨0,0,x234,0,0,v252,[],0,0⟩:aA)]).bind fun x296=>(aS (x234+1)).bind fun v303=>recl241 x296 v303) else((pA x228 [(⟨0,0,x234,0,0,v252,v260,v276,0⟩:aA)]).bind fun x305=>(aS (x234+1)).bind fun v312=>recl241 x305 v312))
def eF (K:Nat) (a0:List Int) (v4:Int):Nat→(List aA)→Int→Option (List aA)
 |0,_,_=>none
 |k+1,x228,x234=>(bO a0 8 5).bind fun v243=>bif(decide (x234<v243)) then((aS (3*x234)).bind fun v246=>(aS (9+v246)).bind fun v248=>(bO a0 v248 1099511627776).bind fun v250=>(eJ K v250 v4).bind fun v252=>(aS (3*x234)).bind fun v254=>(aS (10+v254)).bind fun v256=>(bO a0 v256 1099511627776).bind fun v258=>(eJ K v258 v4).bind fun v260=>(aS (3*x234)).bind fun v262=>(aS (11+v262)).bind fun v264=>(bO a0 v264 5).bind fun v266=>(aS (3*x234)).bind fun v268=>(aS (11+v268)).bind fun v270=>(bO a0 v270 3).bind fun v272=>(aS (1+v272)).bind fun v274=>(zK v266 v274).bind fun v276=>hU K x228 x234 v250 v252 v260 v276 (eF K a0 v4 k)) else(some x228)
def oZ (K:Nat) (a0:List Int) (v4:Int) (x69:List Rat) (x75:List Rat) (x81:List aG):Option aI:=
 (eF K a0 v4 K ([]:List aA) 0).bind fun x235=>oW K x69 x75 x81 x235
def kH (K:Nat) (a0:List Int) (a1:Bool) (v4:Int) (x69:List Rat) (x75:List Rat) (x81:List aG):Option aI:=
 (bO a0 5 3).bind fun v89=>bif(decide (0<v89)) then(bif(!a1) then((aS (v4-1)).bind fun v202=>(bO a0 6 9).bind fun v204=>(aS (v204-4)).bind fun v206=>(bO a0 7 3).bind fun v208=>(aS (1+v208)).bind fun v210=>(zK v206 v210).bind fun v212=>(bT x69 v202).bind fun v214=>(pC x69 v202 v212).bind fun x216=>kL K a0 a1 v4 x75 x81 x216) else(kL K a0 a1 v4 x75 x81 x69)) else(oZ K a0 v4 x69 x75 x81)
def iO (K:Nat) (a0:List Int) (v4:Int):Nat→(List Rat)→(List Rat)→(List aG)→Int→Option ((List Rat)×(List Rat)×(List aG))
 |0,_,_,_,_=>none
 |k+1,x50,x56,x62,x68=>bif(decide (x68<v4)) then((aS (1+x68)).bind fun v315=>(bO a0 v315 1073741824).bind fun v317=>(xG v317 3).bind fun v321=>(aS (1+v321)).bind fun v323=>(w7 v317 3).bind fun v325=>(xG v325 4).bind fun v327=>(aS (1+v327)).bind fun v329=>(zK v323 v329).bind fun v331=>(pA x62 [(⟨v331,0,false,0,0⟩:aG)]).bind fun x333=>(w7 v317 12).bind fun v342=>(xG v342 13).bind fun v344=>(aS (v344-6)).bind fun v346=>(w7 v317 156).bind fun v348=>(xG v348 3).bind fun v350=>(aS (1+v350)).bind fun v352=>(zK v346 v352).bind fun v354=>(pA x56 [v354]).bind fun x356=>(pA x50 [0]).bind fun x363=>(aS (x68+1)).bind fun v370=>iO K a0 v4 k x363 x356 x333 v370) else(some (x50,x56,x62))
def lO (K:Nat) (a0:List Int) (a1:Bool):Option aI:=
 (bO a0 0 4).bind fun v2=>(aS (1+v2)).bind fun v4=>(iO K a0 v4 K ([]:List Rat) ([]:List Rat) ([]:List aG) 0).bind fun(x69,x75,x81)=>kH K a0 a1 v4 x69 x75 x81
theorem aB4 {K:Nat} {a0:List Int} {a1:Bool} {r:aI} (hF:lO K a0 a1=some r):Ct Tryz.prog 16 [.vc (pS cI a0),.vc (pB a1)] (.va (aI.enc r)):=by
 unfold lO at hF
 refine aJ Tryz.func16 rfl (by kernel_rfl) Tryz.ntmps16 rfl (fun w0 M0=>?_)
 refine aN (aU (aO rfl tyZ27q (fun b1=>?_)))
 refine bI (aP (aN (aU (nC ?_))))
 obtain⟨v2,h3,hF⟩:=aY hF dK
 refine aX (bV rfl h3 rfl) ⟨rfl,lC _ _,lC _ _,trivial⟩ ?_
 obtain⟨v4,h5,hF⟩:=a8 hF
 refine aX (yB rfl h5) ⟨lC _ _,rfl,trivial⟩ ?_
 refine aAm ?_
 refine bI (aP (aN (aU (aDw aG.cod 108 ?_))))
 refine aDw cQ 44 ?_
 refine aDw cQ 44 ?_
 refine aDw aA.cod 51 ?_
 refine aO rfl tyZ27_o0_o1_o2_o3q (fun b30=>?_)
 refine go ?_ ?_
 refine aQ (bY (fun H E=>∃(x69:List Rat),∃(x75:List Rat),∃(x81:List aG),∃(b70:Option Nat),∃(c71:Nat),∃(n72:Nat),∃(b76:Option Nat),∃(c77:Nat),∃(n78:Nat),∃(b82:Option Nat),∃(c83:Nat),∃(n84:Nat),kH K a0 a1 v4 x69 x75 x81=some r∧x69.length=n72∧x75.length=n78∧x81.length=n84∧H=[⟨some b30,1,27,4,1,([pO b82 n84 c83]++[pO b76 n78 c77]++[pO b70 n72 c71]++[pO none 0 0])⟩,hO aA.cod none 0 51 0 ([]:List aA),hO cQ b70 c71 44 n72 x69,hO cQ b76 c77 44 n78 x75,hO aG.cod b82 c83 108 n84 x81,⟨some b1,1,27,4,1,([pS aG.cod ([]:List aG)]++[pS cQ ([]:List Rat)]++[pS cQ ([]:List Rat)]++[pS aA.cod ([]:List aA)])⟩]∧E=[(0,.vc (pS cI a0)),(1,.vc (pB a1)),(4,.vc (pP (some b1) 0)),(5,.vc (pI .i64 v4)),(6,.vc (pP (some b30) 0))]) ?_ (fun Jj88=>?_))
 ·rintro _ _ ⟨x69,x75,x81,b70,c71,n72,b76,c77,n78,b82,c83,n84,hF,q73,q79,q85,rfl,rfl⟩
  unfold kH at hF
  obtain⟨v89,h90,hF⟩:=aY hF dK
  refine go ?_ ?_
  refine dC hF (fun h91 hF=>?_) (fun h91 hF=>?_)
  ·refine aIP (bP (.inl rfl)) zU1 ?_
   refine aIP (aKn rfl) zU1 ?_
   refine aX (xQ rfl) zU2 ?_
   refine aAm ?_
   refine bI (aP (aN (uU (fun H E=>∃(x93:List Rat),kL K a0 a1 v4 x75 x81 x93=some r∧x93.length=n72∧H=[⟨some b30,1,27,4,1,([pO b82 n84 c83]++[pO b76 n78 c77]++[pO b70 n72 c71]++[pO none 0 0])⟩,hO aA.cod none 0 51 0 ([]:List aA),hO cQ b70 c71 44 n72 x93,hO cQ b76 c77 44 n78 x75,hO aG.cod b82 c83 108 n84 x81,⟨some b1,1,27,4,1,([pS aG.cod ([]:List aG)]++[pS cQ ([]:List Rat)]++[pS cQ ([]:List Rat)]++[pS aA.cod ([]:List aA)])⟩]∧E=[(0,.vc (pS cI a0)),(4,.vc (pP (some b1) 0)),(5,.vc (pI .i64 v4)),(6,.vc (pP (some b30) 0)),(9,.vc (pB (!a1)))]) ?_ (fun Jj99=>?_))))
   ·rintro _ _ ⟨x93,hF,q97,rfl,rfl⟩
    unfold kL at hF
    refine go ?_ ?_
    refine aQ (bY (fun H E=>∃(x114:List aA),∃(b115:Option Nat),∃(c116:Nat),∃(n117:Nat),l4 K x75 x81 x93 x114=some r∧x114.length=n117∧H=[⟨some b30,1,27,4,1,([pO b82 n84 c83]++[pO b76 n78 c77]++[pO b70 n72 c71]++[pO b115 n117 c116])⟩,hO aA.cod b115 c116 51 n117 x114,hO cQ b70 c71 44 n72 x93,hO cQ b76 c77 44 n78 x75,hO aG.cod b82 c83 108 n84 x81,⟨some b1,1,27,4,1,([pS aG.cod ([]:List aG)]++[pS cQ ([]:List Rat)]++[pS cQ ([]:List Rat)]++[pS aA.cod ([]:List aA)])⟩]∧E=[(4,.vc (pP (some b1) 0)),(6,.vc (pP (some b30) 0))]) ?_ (fun Jj121=>?_))
    ·rintro _ _ ⟨x114,b115,c116,n117,hF,q118,rfl,rfl⟩
     unfold l4 at hF
     refine aP (aN (aU (xD 4 0 0 rfl q85 rfl rfl rfl rfl rfl ?_)))
     refine xD 3 0 1 rfl q79 rfl rfl rfl rfl rfl ?_
     refine xD 2 0 2 rfl q97 rfl rfl rfl rfl rfl ?_
     refine xD 1 0 3 rfl q118 rfl rfl rfl rfl rfl ?_
     exact bQ
    obtain⟨x114',hL,hRl120⟩:=a8 hF
    refine hY (fun k a w=>∃(x107:List aA),∃(x113:Int),∃(b108:Option Nat),∃(c109:Nat),∃(n110:Nat),dG K a0 a1 v4 k x107 x113=some x114'∧x107.length=n110∧hs _ [⟨some b30,1,27,4,1,([pO b82 n84 c83]++[pO b76 n78 c77]++[pO b70 n72 c71]++[pO b108 n110 c109])⟩,hO aA.cod b108 c109 51 n110 x107,hO cQ b70 c71 44 n72 x93,hO cQ b76 c77 44 n78 x75,hO aG.cod b82 c83 108 n84 x81,⟨some b1,1,27,4,1,([pS aG.cod ([]:List aG)]++[pS cQ ([]:List Rat)]++[pS cQ ([]:List Rat)]++[pS aA.cod ([]:List aA)])⟩] [(0,.vc (pS cI a0)),(4,.vc (pP (some b1) 0)),(5,.vc (pI .i64 v4)),(6,.vc (pP (some b30) 0)),(9,.vc (pB (!a1))),(10,.vc (pI .i64 x113))] a w) K (fun a w ⟨_,_,_,_,_,hF,_,_⟩=>by cases hF) (fun k a w ⟨x107,x113,b108,c109,n110,hF,q111,hh⟩=>iA ?_ hh) (fun a w hh=>⟨([]:List aA),0,none,0,0,hL,rfl,gJ [0,1,2,3,4,5] hh⟩)
    rw [dG.eq_2] at hF
    obtain⟨v122,h123,hF⟩:=aY hF dK
    refine go ?_ ?_
    refine aL hF rfl (fun h124 hF=>?_) (fun h124 hF=>?_)
    ·refine go ?_ ?_
     refine aQ ?_
     obtain⟨v125,h126,v127,h128,hF⟩:=wK hF
     obtain⟨v129,h130,hF⟩:=aY hF dK
     obtain⟨v131,h132,hF⟩:=aY hF pN
     have hF:=r7 h126 hF
     obtain⟨v135,h136,hF⟩:=a8 hF
     obtain⟨v137,h138,hF⟩:=aY hF dK
     obtain⟨v139,h140,hF⟩:=aY hF pN
     have hF:=r7 h126 hF
     obtain⟨v143,h144,hF⟩:=a8 hF
     obtain⟨v145,h146,hF⟩:=aY hF dK
     have hF:=r7 h126 hF
     have hF:=r7 h144 hF
     obtain⟨v151,h152,hF⟩:=aY hF dK
     obtain⟨v153,h154,hF⟩:=a8 hF
     obtain⟨v155,h156,hF⟩:=aY hF bR
     refine go ?_ ?_
     refine aX (cR (is:=[5,6,7,2]) (xs:=[.tmp 92,.tmp 99,.tmp 111,.tmp 112]) (ps:=[.vc (pS aC.cod v131),.vc (pS aC.cod v139),.va (eQ v155),.vc (pI .i64 x113)]) rfl tyB51q rfl rfl ⟨trivial,trivial,trivial,trivial,trivial⟩ rfl) ⟨rfl,rfl,rfl,rfl,trivial⟩ ?_
     refine aO rfl tyZ51q (fun b157=>?_)
     refine nZ (t_s 0 rfl rfl rfl tyA51.s) zU2 ?_
     refine bI (aP (aN (uU (fun H E=>∃(x159:aA),fN K x107 x113 v129 (dG K a0 a1 v4 k) x159=some x114'∧H=[⟨some b157,1,51,18,1,(aA.enc x159)⟩,⟨some b30,1,27,4,1,([pO b82 n84 c83]++[pO b76 n78 c77]++[pO b70 n72 c71]++[pO b108 n110 c109])⟩,hO aA.cod b108 c109 51 n110 x107,hO cQ b70 c71 44 n72 x93,hO cQ b76 c77 44 n78 x75,hO aG.cod b82 c83 108 n84 x81,⟨some b1,1,27,4,1,([pS aG.cod ([]:List aG)]++[pS cQ ([]:List Rat)]++[pS cQ ([]:List Rat)]++[pS aA.cod ([]:List aA)])⟩]∧E=[(0,.vc (pS cI a0)),(4,.vc (pP (some b1) 0)),(5,.vc (pI .i64 v4)),(6,.vc (pP (some b30) 0)),(9,.vc (pB (!a1))),(10,.vc (pI .i64 x113)),(11,.vc (pI .i64 v129)),(12,.vc (pP (some b157) 0))]) ?_ (fun Jj160=>?_))))
     ·rintro _ _ ⟨x159,hF,rfl,rfl⟩
      unfold fN at hF
      obtain⟨v161,h162,hF⟩:=aY hF cZ
      refine go ?_ ?_
      refine dC hF (fun h163 hF=>?_) (fun h163 hF=>?_)
      ·refine go ?_ ?_
       refine gV rfl ?_
       refine go ?_ ?_
       refine nZ (t_s 0 rfl rfl rfl tyO49.s) ⟨rfl,d9 aC.cod,trivial⟩ ?_
       refine go ?_ ?_
       refine aX (cR (is:=[]) (xs:=[]) (ps:=[]) rfl tyB44q rfl rfl trivial rfl) trivial ?_
       refine go ?_ ?_
       refine aX (kT (C:=aA.cod) (xs:=[.tmp 134]) (ps:=[.va ([pI .i64 x159.kind]++[pI .i64 x159.a]++[pI .i64 x159.b]++[pI .i64 x159.edge]++(eQ x159.gap)++[pS aC.cod x159.j]++[pS aC.cod []]++(eQ 0)++(eQ x159.e))]) (zs:=[(⟨x159.kind,x159.a,x159.b,x159.edge,x159.gap,x159.j,[],0,x159.e⟩:aA)]) rfl tyS25 rfl ⟨⟨trivial,rfl⟩,trivial⟩ rfl) zU1 ?_
       obtain⟨x164,h165,hF⟩:=a8 hF
       refine lY 2 rfl tyS25 rfl rfl q111 rfl rfl h165 (fun b166 c167 H168 e169=>?_)
       cases e169
       obtain⟨v171,h172,hF⟩:=a8 hF
       refine go ?_ ?_
       exact aM (fun a w hh=>⟨x164,v171,b166,c167,(n110+[(⟨x159.kind,x159.a,x159.b,x159.edge,x159.gap,x159.j,[],0,x159.e⟩:aA)].length),hF,(bF h165 q111),gJ [1,2,3,4,5,6] hh⟩)
      obtain⟨v173,h174,hF⟩:=a8 hF
      refine go ?_ ?_
      refine aL hF rfl (fun h175 hF=>?_) (fun h175 hF=>?_)
      ·refine go ?_ ?_
       refine nZ (t_s 0 rfl rfl rfl tyO49.s) ⟨rfl,d9 aC.cod,trivial⟩ ?_
       refine go ?_ ?_
       refine aX (cR (is:=[]) (xs:=[]) (ps:=[]) rfl tyB44q rfl rfl trivial rfl) trivial ?_
       refine go ?_ ?_
       refine aX (kT (C:=aA.cod) (xs:=[.tmp 134]) (ps:=[.va ([pI .i64 x159.kind]++[pI .i64 x159.a]++[pI .i64 x159.b]++[pI .i64 x159.edge]++(eQ x159.gap)++[pS aC.cod x159.j]++[pS aC.cod []]++(eQ 0)++(eQ x159.e))]) (zs:=[(⟨x159.kind,x159.a,x159.b,x159.edge,x159.gap,x159.j,[],0,x159.e⟩:aA)]) rfl tyS25 rfl ⟨⟨trivial,rfl⟩,trivial⟩ rfl) zU1 ?_
       obtain⟨x176,h177,hF⟩:=a8 hF
       refine lY 2 rfl tyS25 rfl rfl q111 rfl rfl h177 (fun b178 c179 H180 e181=>?_)
       cases e181
       obtain⟨v183,h184,hF⟩:=a8 hF
       refine go ?_ ?_
       exact aM (fun a w hh=>⟨x176,v183,b178,c179,(n110+[(⟨x159.kind,x159.a,x159.b,x159.edge,x159.gap,x159.j,[],0,x159.e⟩:aA)].length),hF,(bF h177 q111),gJ [1,2,3,4,5,6] hh⟩)
      refine go ?_ ?_
      refine aX (kT (C:=aA.cod) (xs:=[.tmp 134]) (ps:=[.va (aA.enc x159)]) (zs:=[x159]) rfl tyS25 rfl ⟨⟨trivial,rfl⟩,trivial⟩ rfl) zU1 ?_
      obtain⟨x185,h186,hF⟩:=a8 hF
      refine lY 2 rfl tyS25 rfl rfl q111 rfl rfl h186 (fun b187 c188 H189 e190=>?_)
      cases e190
      obtain⟨v192,h193,hF⟩:=a8 hF
      refine go ?_ ?_
      exact aM (fun a w hh=>⟨x185,v192,b187,c188,(n110+[x159].length),hF,(bF h186 q111),gJ [1,2,3,4,5,6] hh⟩)
     refine go ?_ ?_
     refine aL hF rfl (fun h194 hF=>?_) (fun h194 hF=>?_)
     ·refine aU (nC ?_)
      refine nC ?_
      obtain⟨v195,h196,hF⟩:=a8 hF
      refine aX (zV rfl h196) ⟨rfl,lC _ _,trivial⟩ ?_
      obtain⟨v197,h198,hF⟩:=aY hF pN
      refine aX (bV rfl h198 rfl) zU2 ?_
      refine aX (lN (off:=0) (k:=8) rfl tyF51_5) zU1 ?_
      refine nZ (t_s 0 rfl rfl rfl tyO49.s) zU2 ?_
      refine bI ?_
      exact p9 Jj160 ⟨(⟨0,0,x113,0,0,v197,v139,v155,0⟩:aA),hF,rfl,rfl⟩ [0,1,2,3,4,5,6]
     refine iR ?_
     exact p9 Jj160 ⟨(⟨0,0,x113,0,0,v131,v139,v155,0⟩:aA),hF,rfl,rfl⟩ [0,1,2,3,4,5,6]
    refine cU ?_
    obtain rfl:=oN hF
    exact p9 Jj121 ⟨x107,b108,c109,n110,hRl120,q111,rfl,rfl⟩ [0,1,2,3,4,5]
   refine go ?_ ?_
   refine aL hF rfl (fun h199 hF=>?_) (fun h199 hF=>?_)
   ·obtain⟨v202,h203,hF⟩:=a8 hF
    obtain⟨v204,h205,hF⟩:=aY hF dK
    obtain⟨v206,h207,hF⟩:=a8 hF
    obtain⟨v208,h209,hF⟩:=aY hF dK
    obtain⟨v210,h211,hF⟩:=a8 hF
    obtain⟨v212,h213,hF⟩:=aY hF bR
    obtain⟨v214,h215,hF⟩:=a8 hF
    refine dr [0,1,0,4,0,16,48,0,176,432,1008,2047,4095] 12 1 ?_ (fun bs201 G200=>?_)
    obtain⟨x216,h217,hF⟩:=a8 hF
    refine nZ (yT 2 rfl rfl h215 h217 tyA44.s) zU2 ?_
    refine bI ?_
    exact p9 Jj99 ⟨x216,hF,(bL h217 q73),rfl,rfl⟩ [0,1,2,3,4,5]
   refine iR ?_
   exact p9 Jj99 ⟨x69,hF,q73,rfl,rfl⟩ [0,1,2,3,4,5]
  refine aMG ?_
  refine aMG ?_
  refine aX (yN rfl) ⟨rfl,k_B _,trivial⟩ ?_
  refine aAm ?_
  refine bI (aP (aN (uU (fun H E=>oZ K a0 v4 x69 x75 x81=some r∧H=[⟨some b30,1,27,4,1,([pO b82 n84 c83]++[pO b76 n78 c77]++[pO b70 n72 c71]++[pO none 0 0])⟩,hO aA.cod none 0 51 0 ([]:List aA),hO cQ b70 c71 44 n72 x69,hO cQ b76 c77 44 n78 x75,hO aG.cod b82 c83 108 n84 x81,⟨some b1,1,27,4,1,([pS aG.cod ([]:List aG)]++[pS cQ ([]:List Rat)]++[pS cQ ([]:List Rat)]++[pS aA.cod ([]:List aA)])⟩]∧E=[(0,.vc (pS cI a0)),(4,.vc (pP (some b1) 0)),(5,.vc (pI .i64 v4)),(6,.vc (pP (some b30) 0)),(9,.vc (pB false))]) ?_ (fun Jj220=>?_))))
  ·rintro _ _ ⟨hF,rfl,rfl⟩
   unfold oZ at hF
   refine go ?_ ?_
   refine aQ (bY (fun H E=>∃(x235:List aA),∃(b236:Option Nat),∃(c237:Nat),∃(n238:Nat),oW K x69 x75 x81 x235=some r∧x235.length=n238∧H=[⟨some b30,1,27,4,1,([pO b82 n84 c83]++[pO b76 n78 c77]++[pO b70 n72 c71]++[pO b236 n238 c237])⟩,hO aA.cod b236 c237 51 n238 x235,hO cQ b70 c71 44 n72 x69,hO cQ b76 c77 44 n78 x75,hO aG.cod b82 c83 108 n84 x81,⟨some b1,1,27,4,1,([pS aG.cod ([]:List aG)]++[pS cQ ([]:List Rat)]++[pS cQ ([]:List Rat)]++[pS aA.cod ([]:List aA)])⟩]∧E=[(4,.vc (pP (some b1) 0)),(6,.vc (pP (some b30) 0))]) ?_ (fun Jj242=>?_))
   ·rintro _ _ ⟨x235,b236,c237,n238,hF,q239,rfl,rfl⟩
    unfold oW at hF
    refine aP (aN (aU (xD 4 0 0 rfl q85 rfl rfl rfl rfl rfl ?_)))
    refine xD 3 0 1 rfl q79 rfl rfl rfl rfl rfl ?_
    refine xD 2 0 2 rfl q73 rfl rfl rfl rfl rfl ?_
    refine xD 1 0 3 rfl q239 rfl rfl rfl rfl rfl ?_
    exact bQ
   obtain⟨x235',hL,hRl241⟩:=a8 hF
   refine hY (fun k a w=>∃(x228:List aA),∃(x234:Int),∃(b229:Option Nat),∃(c230:Nat),∃(n231:Nat),eF K a0 v4 k x228 x234=some x235'∧x228.length=n231∧hs _ [⟨some b30,1,27,4,1,([pO b82 n84 c83]++[pO b76 n78 c77]++[pO b70 n72 c71]++[pO b229 n231 c230])⟩,hO aA.cod b229 c230 51 n231 x228,hO cQ b70 c71 44 n72 x69,hO cQ b76 c77 44 n78 x75,hO aG.cod b82 c83 108 n84 x81,⟨some b1,1,27,4,1,([pS aG.cod ([]:List aG)]++[pS cQ ([]:List Rat)]++[pS cQ ([]:List Rat)]++[pS aA.cod ([]:List aA)])⟩] [(0,.vc (pS cI a0)),(4,.vc (pP (some b1) 0)),(5,.vc (pI .i64 v4)),(6,.vc (pP (some b30) 0)),(9,.vc (pB false)),(10,.vc (pI .i64 x234))] a w) K (fun a w ⟨_,_,_,_,_,hF,_,_⟩=>by cases hF) (fun k a w ⟨x228,x234,b229,c230,n231,hF,q232,hh⟩=>iA ?_ hh) (fun a w hh=>⟨([]:List aA),0,none,0,0,hL,rfl,gJ [0,1,2,3,4,5] hh⟩)
   rw [eF.eq_2] at hF
   obtain⟨v243,h244,hF⟩:=aY hF dK
   refine go ?_ ?_
   refine aL hF rfl (fun h245 hF=>?_) (fun h245 hF=>?_)
   ·refine go ?_ ?_
    refine aQ ?_
    obtain⟨v246,h247,v248,h249,hF⟩:=wK hF
    obtain⟨v250,h251,hF⟩:=aY hF dK
    obtain⟨v252,h253,hF⟩:=aY hF pN
    have hF:=r7 h247 hF
    obtain⟨v256,h257,hF⟩:=a8 hF
    obtain⟨v258,h259,hF⟩:=aY hF dK
    obtain⟨v260,h261,hF⟩:=aY hF pN
    have hF:=r7 h247 hF
    obtain⟨v264,h265,hF⟩:=a8 hF
    obtain⟨v266,h267,hF⟩:=aY hF dK
    have hF:=r7 h247 hF
    have hF:=r7 h265 hF
    obtain⟨v272,h273,hF⟩:=aY hF dK
    obtain⟨v274,h275,hF⟩:=a8 hF
    obtain⟨v276,h277,hF⟩:=aY hF bR
    refine go ?_ ?_
    refine aX (cR (is:=[5,6,7,2]) (xs:=[.tmp 92,.tmp 99,.tmp 111,.tmp 112]) (ps:=[.vc (pS aC.cod v252),.vc (pS aC.cod v260),.va (eQ v276),.vc (pI .i64 x234)]) rfl tyB51q rfl rfl ⟨trivial,trivial,trivial,trivial,trivial⟩ rfl) ⟨rfl,rfl,rfl,rfl,trivial⟩ ?_
    refine aO rfl tyZ51q (fun b278=>?_)
    refine nZ (t_s 0 rfl rfl rfl tyA51.s) zU2 ?_
    refine bI (aP (aN (uU (fun H E=>hU K x228 x234 v250 v252 v260 v276 (eF K a0 v4 k)=some x235'∧H=[⟨some b278,1,51,18,1,([pI .i64 0]++[pI .i64 0]++[pI .i64 x234]++[pI .i64 0]++(eQ 0)++[pS aC.cod v252]++[pS aC.cod v260]++(eQ v276)++(eQ 0))⟩,⟨some b30,1,27,4,1,([pO b82 n84 c83]++[pO b76 n78 c77]++[pO b70 n72 c71]++[pO b229 n231 c230])⟩,hO aA.cod b229 c230 51 n231 x228,hO cQ b70 c71 44 n72 x69,hO cQ b76 c77 44 n78 x75,hO aG.cod b82 c83 108 n84 x81,⟨some b1,1,27,4,1,([pS aG.cod ([]:List aG)]++[pS cQ ([]:List Rat)]++[pS cQ ([]:List Rat)]++[pS aA.cod ([]:List aA)])⟩]∧E=[(0,.vc (pS cI a0)),(4,.vc (pP (some b1) 0)),(5,.vc (pI .i64 v4)),(6,.vc (pP (some b30) 0)),(9,.vc (pB false)),(10,.vc (pI .i64 x234)),(11,.vc (pI .i64 v250)),(12,.vc (pP (some b278) 0))]) ?_ (fun Jj280=>?_))))
    ·rintro _ _ ⟨hF,rfl,rfl⟩
     unfold hU at hF
     obtain⟨v281,h282,hF⟩:=aY hF cZ
     refine go ?_ ?_
     refine dC hF (fun h283 hF=>?_) (fun h283 hF=>?_)
     ·refine go ?_ ?_
      refine gV rfl ?_
      refine go ?_ ?_
      refine nZ (t_s 0 rfl rfl rfl tyO49.s) ⟨rfl,d9 aC.cod,trivial⟩ ?_
      refine go ?_ ?_
      refine aX (cR (is:=[]) (xs:=[]) (ps:=[]) rfl tyB44q rfl rfl trivial rfl) trivial ?_
      refine go ?_ ?_
      refine aX (kT (C:=aA.cod) (xs:=[.tmp 134]) (ps:=[.va ([pI .i64 0]++[pI .i64 0]++[pI .i64 x234]++[pI .i64 0]++(eQ 0)++[pS aC.cod v252]++[pS aC.cod []]++(eQ 0)++(eQ 0))]) (zs:=[(⟨0,0,x234,0,0,v252,[],0,0⟩:aA)]) rfl tyS25 rfl ⟨⟨trivial,rfl⟩,trivial⟩ rfl) zU1 ?_
      obtain⟨x284,h285,hF⟩:=a8 hF
      refine lY 2 rfl tyS25 rfl rfl q232 rfl rfl h285 (fun b286 c287 H288 e289=>?_)
      cases e289
      obtain⟨v291,h292,hF⟩:=a8 hF
      refine go ?_ ?_
      exact aM (fun a w hh=>⟨x284,v291,b286,c287,(n231+[(⟨0,0,x234,0,0,v252,[],0,0⟩:aA)].length),hF,(bF h285 q232),gJ [1,2,3,4,5,6] hh⟩)
     obtain⟨v293,h294,hF⟩:=a8 hF
     refine go ?_ ?_
     refine aL hF rfl (fun h295 hF=>?_) (fun h295 hF=>?_)
     ·refine go ?_ ?_
      refine nZ (t_s 0 rfl rfl rfl tyO49.s) ⟨rfl,d9 aC.cod,trivial⟩ ?_
      refine go ?_ ?_
      refine aX (cR (is:=[]) (xs:=[]) (ps:=[]) rfl tyB44q rfl rfl trivial rfl) trivial ?_
      refine go ?_ ?_
      refine aX (kT (C:=aA.cod) (xs:=[.tmp 134]) (ps:=[.va ([pI .i64 0]++[pI .i64 0]++[pI .i64 x234]++[pI .i64 0]++(eQ 0)++[pS aC.cod v252]++[pS aC.cod []]++(eQ 0)++(eQ 0))]) (zs:=[(⟨0,0,x234,0,0,v252,[],0,0⟩:aA)]) rfl tyS25 rfl ⟨⟨trivial,rfl⟩,trivial⟩ rfl) zU1 ?_
      obtain⟨x296,h297,hF⟩:=a8 hF
      refine lY 2 rfl tyS25 rfl rfl q232 rfl rfl h297 (fun b298 c299 H300 e301=>?_)
      cases e301
      obtain⟨v303,h304,hF⟩:=a8 hF
      refine go ?_ ?_
      exact aM (fun a w hh=>⟨x296,v303,b298,c299,(n231+[(⟨0,0,x234,0,0,v252,[],0,0⟩:aA)].length),hF,(bF h297 q232),gJ [1,2,3,4,5,6] hh⟩)
     refine go ?_ ?_
     refine aX (kT (C:=aA.cod) (xs:=[.tmp 134]) (ps:=[.va ([pI .i64 0]++[pI .i64 0]++[pI .i64 x234]++[pI .i64 0]++(eQ 0)++[pS aC.cod v252]++[pS aC.cod v260]++(eQ v276)++(eQ 0))]) (zs:=[(⟨0,0,x234,0,0,v252,v260,v276,0⟩:aA)]) rfl tyS25 rfl ⟨⟨trivial,rfl⟩,trivial⟩ rfl) zU1 ?_
     obtain⟨x305,h306,hF⟩:=a8 hF
     refine lY 2 rfl tyS25 rfl rfl q232 rfl rfl h306 (fun b307 c308 H309 e310=>?_)
     cases e310
     obtain⟨v312,h313,hF⟩:=a8 hF
     refine go ?_ ?_
     exact aM (fun a w hh=>⟨x305,v312,b307,c308,(n231+[(⟨0,0,x234,0,0,v252,v260,v276,0⟩:aA)].length),hF,(bF h306 q232),gJ [1,2,3,4,5,6] hh⟩)
    refine go ?_ ?_
    refine sS rfl ?_
    refine iR ?_
    exact p9 Jj280 ⟨hF,rfl,rfl⟩ [0,1,2,3,4,5,6]
   refine cU ?_
   obtain rfl:=oN hF
   exact p9 Jj242 ⟨x228,b229,c230,n231,hRl241,q232,rfl,rfl⟩ [0,1,2,3,4,5]
  refine go ?_ ?_
  refine sS rfl ?_
  refine iR ?_
  exact p9 Jj220 ⟨hF,rfl,rfl⟩ [0,1,2,3,4,5]
 obtain⟨⟨x69',x75',x81'⟩,hL,hRl87⟩:=a8 hF
 refine hY (fun k a w=>∃(x50:List Rat),∃(x56:List Rat),∃(x62:List aG),∃(x68:Int),∃(b51:Option Nat),∃(c52:Nat),∃(n53:Nat),∃(b57:Option Nat),∃(c58:Nat),∃(n59:Nat),∃(b63:Option Nat),∃(c64:Nat),∃(n65:Nat),iO K a0 v4 k x50 x56 x62 x68=some (x69',x75',x81')∧x50.length=n53∧x56.length=n59∧x62.length=n65∧hs _ [⟨some b30,1,27,4,1,([pO b63 n65 c64]++[pO b57 n59 c58]++[pO b51 n53 c52]++[pO none 0 0])⟩,hO aA.cod none 0 51 0 ([]:List aA),hO cQ b51 c52 44 n53 x50,hO cQ b57 c58 44 n59 x56,hO aG.cod b63 c64 108 n65 x62,⟨some b1,1,27,4,1,([pS aG.cod ([]:List aG)]++[pS cQ ([]:List Rat)]++[pS cQ ([]:List Rat)]++[pS aA.cod ([]:List aA)])⟩] [(0,.vc (pS cI a0)),(1,.vc (pB a1)),(4,.vc (pP (some b1) 0)),(5,.vc (pI .i64 v4)),(6,.vc (pP (some b30) 0)),(7,.vc (pI .i64 x68))] a w) K (fun a w ⟨_,_,_,_,_,_,_,_,_,_,_,_,_,hF,_,_,_,_⟩=>by cases hF) (fun k a w ⟨x50,x56,x62,x68,b51,c52,n53,b57,c58,n59,b63,c64,n65,hF,q54,q60,q66,hh⟩=>iA ?_ hh) (fun a w hh=>⟨([]:List Rat),([]:List Rat),([]:List aG),0,none,0,0,none,0,0,none,0,0,hL,rfl,rfl,rfl,gJ [0,1,2,3,4,5] hh⟩)
 rw [iO.eq_2] at hF
 refine go ?_ ?_
 refine aL hF rfl (fun h314 hF=>?_) (fun h314 hF=>?_)
 ·refine go ?_ ?_
  refine aQ ?_
  obtain⟨v315,h316,hF⟩:=a8 hF
  obtain⟨v317,h318,hF⟩:=aY hF dK
  obtain⟨v321,h322,v323,h324,v325,h326,v327,h328,hF⟩:=bn4 hF
  obtain⟨v329,h330,hF⟩:=a8 hF
  obtain⟨v331,h332,hF⟩:=aY hF bR
  refine go ?_ ?_
  refine jJ [0,1,0,4,12,0,32,96,224,508,1020,2044,4095,8191,16383] 12 3 [.v (.vc (pP (some b30) 0)),.v (.vc (pO b63 n65 c64)),.v (.vc (pI .i64 v317)),.v (.vc (pI .i64 v321)),.v (.vc (pI .i64 v323)),.v (.vc (pI .i64 v317)),.v (.vc (pI .i64 v325)),.v (.vc (pI .i64 v327)),.v (.vc (pI .i64 v329)),.v (.va (eQ v331)),.v (.va ((eQ v331)++(eQ 0)++[pB false]++(eQ 0)++(eQ 0))),.v (.vc (pS aG.cod [(⟨v331,0,false,0,0⟩:aG)]))] bA ⟨d0 (lN (off:=0) (k:=0) rfl tyF27_0) zU1,d0 (eV 0 1 rfl rfl rfl rfl (.one tyO23)) zU1,d0 (bP (.inl rfl)) zU1,d0 (aB9 rfl h322) ⟨rfl,lC _ _,trivial⟩,d0 (yB rfl h324) ⟨lC _ _,rfl,trivial⟩,d0 (bP (.inl rfl)) zU1,d0 (aEN rfl h326) ⟨rfl,lC _ _,trivial⟩,d0 (aB9 rfl h328) ⟨rfl,lC _ _,trivial⟩,d0 (yB rfl h330) ⟨lC _ _,rfl,trivial⟩,d0 (bV rfl h332 rfl) zU2,d0 (cR (is:=[0]) (xs:=[.tmp 34]) (ps:=[.va (eQ v331)]) rfl tyB108q rfl rfl ⟨trivial,trivial⟩ rfl) zU1,d0 (kT (C:=aG.cod) (xs:=[.tmp 35]) (ps:=[.va ((eQ v331)++(eQ 0)++[pB false]++(eQ 0)++(eQ 0))]) (zs:=[(⟨v331,0,false,0,0⟩:aG)]) rfl tyS23 rfl ⟨⟨trivial,rfl⟩,trivial⟩ rfl) zU1,trivial⟩ (fun bs320 G319=>?_)
  obtain⟨x333,h334,hF⟩:=a8 hF
  refine lY 4 rfl tyS23 rfl rfl q66 rfl rfl h334 (fun b335 c336 H337 e338=>?_)
  cases e338
  obtain⟨v342,h343,v344,h345,v346,h347,v348,h349,hF⟩:=bn4 hF
  obtain⟨v350,h351,v352,h353,hF⟩:=wK hF
  obtain⟨v354,h355,hF⟩:=aY hF bR
  refine go ?_ ?_
  refine jJ [0,1,0,4,12,28,0,64,192,448,1020,2044,4095,8191,16383] 12 3 [.v (.vc (pP (some b30) 1)),.v (.vc (pO b57 n59 c58)),.v (.vc (pI .i64 v317)),.v (.vc (pI .i64 v342)),.v (.vc (pI .i64 v344)),.v (.vc (pI .i64 v346)),.v (.vc (pI .i64 v317)),.v (.vc (pI .i64 v348)),.v (.vc (pI .i64 v350)),.v (.vc (pI .i64 v352)),.v (.va (eQ v354)),.v (.vc (pS cQ [v354]))] bA ⟨d0 (lN (off:=0) (k:=1) rfl tyF27_1) zU1,d0 (eV 0 1 rfl rfl rfl rfl (.one tyO24)) zU1,d0 (bP (.inl rfl)) zU1,d0 (aEN rfl h343) ⟨rfl,lC _ _,trivial⟩,d0 (aB9 rfl h345) ⟨rfl,lC _ _,trivial⟩,d0 (zV rfl h347) ⟨rfl,lC _ _,trivial⟩,d0 (bP (.inl rfl)) zU1,d0 (aEN rfl h349) ⟨rfl,lC _ _,trivial⟩,d0 (aB9 rfl h351) ⟨rfl,lC _ _,trivial⟩,d0 (yB rfl h353) ⟨lC _ _,rfl,trivial⟩,d0 (bV rfl h355 rfl) zU2,d0 (kT (C:=cQ) (xs:=[.tmp 49]) (ps:=[.va (eQ v354)]) (zs:=[v354]) rfl tyS24 rfl ⟨⟨trivial,rfl⟩,trivial⟩ rfl) zU1,trivial⟩ (fun bs341 G340=>?_)
  obtain⟨x356,h357,hF⟩:=a8 hF
  refine lY 3 rfl tyS24 rfl rfl q60 rfl rfl h357 (fun b358 c359 H360 e361=>?_)
  cases e361
  refine go ?_ ?_
  refine aX (cR (is:=[]) (xs:=[]) (ps:=[]) rfl tyB44q rfl rfl trivial rfl) trivial ?_
  refine aX (kT (C:=cQ) (xs:=[.tmp 55]) (ps:=[.va (eQ 0)]) (zs:=[0]) rfl tyS24 rfl ⟨⟨trivial,rfl⟩,trivial⟩ rfl) zU1 ?_
  obtain⟨x363,h364,hF⟩:=a8 hF
  refine lY 2 rfl tyS24 rfl rfl q54 rfl rfl h364 (fun b365 c366 H367 e368=>?_)
  cases e368
  obtain⟨v370,h371,hF⟩:=a8 hF
  refine go ?_ ?_
  exact aM (fun a w hh=>⟨x363,x356,x333,v370,b365,c366,(n53+[0].length),b358,c359,(n59+[v354].length),b335,c336,(n65+[(⟨v331,0,false,0,0⟩:aG)].length),hF,(bF h364 q54),(bF h357 q60),(bF h334 q66),gJ [0,1,2,3,4,5] hh⟩)
 refine cU ?_
 obtain⟨rfl,rfl,rfl⟩:=sm3 hF
 exact p9 Jj88 ⟨x50,x56,x62,b51,c52,n53,b57,c58,n59,b63,c64,n65,hRl87,q54,q60,q66,rfl,rfl⟩ [0,1,2,3,4,5]
def rJ (K:Nat):Option Bool:=
 some true
def kD (K:Nat) (a0:List Rat):Nat→Int→Option (LR Bool Unit)
 |0,_=>none
 |k+1,x2=>bif(decide (x2<(a0.length:Int))) then((bT a0 x2).bind fun v6=>(aAV v6).bind fun v9=>bif(!v9) then(some (.ret false)) else((aS (x2+1)).bind fun v12=>kD K a0 k v12)) else(some (.go ()))
def oU (K:Nat) (a0:List Rat):Option Bool:=
 (kD K a0 K 0).bind fun o=>match o with| .ret r=>some r| .go _=>rJ K
theorem zH {K:Nat} {a0:List Rat} {r:Bool} (hF:oU K a0=some r):Ct Tryz.prog 150 [.vc (pS cQ a0)] (.vc (pB r)):=by
 unfold oU at hF
 refine aJ Tryz.func150 rfl (by kernel_rfl) Tryz.ntmps150 rfl (fun w0 M0=>?_)
 refine go ?_ ?_
 refine aQ (bY (fun H E=>rJ K=some r∧H=[]∧E=[]) ?_ (fun Jj4=>?_))
 ·rintro _ _ ⟨hF,rfl,rfl⟩
  unfold rJ at hF
  exact bQ
 obtain⟨ol3,hL,hRl3⟩:=a8 hF
 refine hY (fun k a w=>∃(x2:Int),kD K a0 k x2=some ol3∧hs _ [] [(5,.vc (pS cQ a0)),(6,.vc (pI .i64 (a0.length:Int))),(7,.vc (pI .i64 x2))] a w) K (fun a w ⟨_,hF,_⟩=>by cases hF) (fun k a w ⟨x2,hF,hh⟩=>iA ?_ hh) (fun a w hh=>⟨0,hL,gJ [] hh⟩)
 rw [kD.eq_2] at hF
 refine go ?_ ?_
 refine aL hF rfl (fun h5 hF=>?_) (fun h5 hF=>?_)
 ·refine go ?_ ?_
  refine aQ ?_
  obtain⟨v6,h7,hF⟩:=a8 hF
  refine go ?_ ?_
  refine aO rfl tyZ44q (fun b8=>?_)
  obtain⟨v9,h10,hF⟩:=aY hF rN
  refine go ?_ ?_
  refine aL hF rfl (fun h11 hF=>?_) (fun h11 hF=>?_)
  ·exact bQ
  obtain⟨v12,h13,hF⟩:=a8 hF
  refine go ?_ ?_
  exact aM (fun a w hh=>⟨v12,hF,gJ [] hh⟩)
 refine cU ?_
 obtain rfl:=oN hF
 exact p9 Jj4 ⟨hRl3,rfl,rfl⟩ []
def qV (K:Nat):Option Bool:=
 some true
def jC (K:Nat) (a0:List (List Rat)) (a1:List Rat):Nat→Int→Option (LR Bool Unit)
 |0,_=>none
 |k+1,x7=>bif(decide (x7<(a0.length:Int))) then((bT a0 x7).bind fun v11=>bif((v11.length:Int) != (a1.length:Int)) then(some (.ret false)) else((oU K v11).bind fun v14=>bif(!v14) then(some (.ret false)) else((aS (x7+1)).bind fun v17=>jC K a0 a1 k v17))) else(some (.go ()))
def qJ (K:Nat) (a0:List (List Rat)) (a1:List Rat):Option Bool:=
 bif((a0.length:Int) != (a1.length:Int)) then(some false) else(bif(decide (32<(a0.length:Int))) then(some false) else((oU K a1).bind fun v3=>bif(!v3) then(some false) else((jC K a0 a1 K 0).bind fun o=>match o with| .ret r=>some r| .go _=>qV K)))
theorem aB2 {K:Nat} {a0:List (List Rat)} {a1:List Rat} {r:Bool} (hF:qJ K a0 a1=some r):Ct Tryz.prog 108 [.vc (pS (yP cQ) a0),.vc (pS cQ a1)] (.vc (pB r)):=by
 unfold qJ at hF
 refine aJ Tryz.func108 rfl (by kernel_rfl) Tryz.ntmps108 rfl (fun w0 M0=>?_)
 refine go ?_ ?_
 refine dC hF (fun h1 hF=>?_) (fun h1 hF=>?_)
 ·refine go ?_ ?_
  refine gV rfl ?_
  exact bQ
 refine go ?_ ?_
 refine dC hF (fun h2 hF=>?_) (fun h2 hF=>?_)
 ·refine go ?_ ?_
  refine gV rfl ?_
  exact bQ
 obtain⟨v3,h4,hF⟩:=aY hF zH
 refine go ?_ ?_
 refine aL hF rfl (fun h5 hF=>?_) (fun h5 hF=>?_)
 ·exact bQ
 refine go ?_ ?_
 refine aQ (bY (fun H E=>qV K=some r∧H=[]∧E=[]) ?_ (fun Jj9=>?_))
 ·rintro _ _ ⟨hF,rfl,rfl⟩
  unfold qV at hF
  exact bQ
 obtain⟨ol8,hL,hRl8⟩:=a8 hF
 refine hY (fun k a w=>∃(x7:Int),jC K a0 a1 k x7=some ol8∧hs _ [] [(1,.vc (pS cQ a1)),(22,.vc (pS (yP cQ) a0)),(23,.vc (pI .i64 (a0.length:Int))),(24,.vc (pI .i64 x7))] a w) K (fun a w ⟨_,hF,_⟩=>by cases hF) (fun k a w ⟨x7,hF,hh⟩=>iA ?_ hh) (fun a w hh=>⟨0,hL,gJ [] hh⟩)
 rw [jC.eq_2] at hF
 refine go ?_ ?_
 refine aL hF rfl (fun h10 hF=>?_) (fun h10 hF=>?_)
 ·refine go ?_ ?_
  refine aQ ?_
  obtain⟨v11,h12,hF⟩:=a8 hF
  refine go ?_ ?_
  refine dC hF (fun h13 hF=>?_) (fun h13 hF=>?_)
  ·refine go ?_ ?_
   refine gV rfl ?_
   exact bQ
  obtain⟨v14,h15,hF⟩:=aY hF zH
  refine go ?_ ?_
  refine aL hF rfl (fun h16 hF=>?_) (fun h16 hF=>?_)
  ·exact bQ
  obtain⟨v17,h18,hF⟩:=a8 hF
  refine go ?_ ?_
  exact aM (fun a w hh=>⟨v17,hF,gJ [] hh⟩)
 refine cU ?_
 obtain rfl:=oN hF
 exact p9 Jj9 ⟨hRl8,rfl,rfl⟩ []
def n9 (K:Nat):Option Bool:=
 some false
def gG (K:Nat) (a0:List Rat):Nat→Int→Option (LR Bool Unit)
 |0,_=>none
 |k+1,x2=>bif(decide (x2<(a0.length:Int))) then((bT a0 x2).bind fun v6=>(uI v6).bind fun v9=>bif(decide (v9<0)) then(some (.ret true)) else((aS (x2+1)).bind fun v12=>gG K a0 k v12)) else(some (.go ()))
def nI (K:Nat) (a0:List Rat):Option Bool:=
 (gG K a0 K 0).bind fun o=>match o with| .ret r=>some r| .go _=>n9 K
theorem aA1 {K:Nat} {a0:List Rat} {r:Bool} (hF:nI K a0=some r):Ct Tryz.prog 110 [.vc (pS cQ a0)] (.vc (pB r)):=by
 unfold nI at hF
 refine aJ Tryz.func110 rfl (by kernel_rfl) Tryz.ntmps110 rfl (fun w0 M0=>?_)
 refine go ?_ ?_
 refine aQ (bY (fun H E=>n9 K=some r∧H=[]∧E=[]) ?_ (fun Jj4=>?_))
 ·rintro _ _ ⟨hF,rfl,rfl⟩
  unfold n9 at hF
  exact bQ
 obtain⟨ol3,hL,hRl3⟩:=a8 hF
 refine hY (fun k a w=>∃(x2:Int),gG K a0 k x2=some ol3∧hs _ [] [(5,.vc (pS cQ a0)),(6,.vc (pI .i64 (a0.length:Int))),(7,.vc (pI .i64 x2))] a w) K (fun a w ⟨_,hF,_⟩=>by cases hF) (fun k a w ⟨x2,hF,hh⟩=>iA ?_ hh) (fun a w hh=>⟨0,hL,gJ [] hh⟩)
 rw [gG.eq_2] at hF
 refine go ?_ ?_
 refine aL hF rfl (fun h5 hF=>?_) (fun h5 hF=>?_)
 ·refine go ?_ ?_
  refine aQ ?_
  obtain⟨v6,h7,hF⟩:=a8 hF
  refine go ?_ ?_
  refine aO rfl tyZ44q (fun b8=>?_)
  obtain⟨v9,h10,hF⟩:=aY hF lA
  refine go ?_ ?_
  refine aL hF rfl (fun h11 hF=>?_) (fun h11 hF=>?_)
  ·exact bQ
  obtain⟨v12,h13,hF⟩:=a8 hF
  refine go ?_ ?_
  exact aM (fun a w hh=>⟨v12,hF,gJ [] hh⟩)
 refine cU ?_
 obtain rfl:=oN hF
 exact p9 Jj4 ⟨hRl3,rfl,rfl⟩ []
def nE (K:Nat) (a1:List Rat) (x59:List Int) (x65:List Nat) (x71:List (List Rat)):Option (Int×(List Nat)×(List Int)×(List (List Rat))):=
 some ((a1.length:Int),x65,x59,x71)
def mL (K:Nat) (a1:List Rat) (x40:List Int) (x46:List Nat) (x52:List (List Rat)) (x58:Int) (recl77:(List Int)→(List Nat)→(List (List Rat))→Int→Option ((List Int)×(List Nat)×(List (List Rat)))) (x110:List Rat):Option ((List Int)×(List Nat)×(List (List Rat))):=
 (aS (2*(a1.length:Int))).bind fun v118=>(zK (-1) 1).bind fun v120=>(bT x110 v118).bind fun v122=>(pC x110 v118 v120).bind fun x124=>(aS (2*(a1.length:Int))).bind fun v127=>(aS (v127+1)).bind fun v129=>(bT a1 x58).bind fun v131=>(bT x124 v129).bind fun v133=>(pC x124 v129 v131).bind fun x135=>(pA x46 [x52.length]).bind fun x139=>(pA x40 [x58]).bind fun x146=>(aS (x58+1)).bind fun v153=>recl77 x146 x139 (x52++[x135]) v153
def fJ (K:Nat) (a0:List (List Rat)) (a1:List Rat) (x58:Int):Nat→(List Rat)→Int→Option (List Rat)
 |0,_,_=>none
 |k+1,x103,x109=>bif(decide (x109<(a1.length:Int))) then((aS ((a1.length:Int)+x109)).bind fun v156=>(bT a0 x58).bind fun v158=>(bT v158 x109).bind fun v160=>(aAk v160).bind fun v162=>(bT x103 v156).bind fun v164=>(pC x103 v156 v162).bind fun x166=>(aS (x109+1)).bind fun v169=>fJ K a0 a1 x58 k x166 v169) else(some x103)
def eN (K:Nat) (a0:List (List Rat)) (a1:List Rat):Nat→(List Int)→(List Nat)→(List (List Rat))→Int→Option ((List Int)×(List Nat)×(List (List Rat)))
 |0,_,_,_,_=>none
 |k+1,x40,x46,x52,x58=>bif(decide (x58<(a1.length:Int))) then((aS (2*(a1.length:Int))).bind fun v80=>(aS (v80+2)).bind fun v82=>(wJ v82 0).bind fun x84=>(zK 1 1).bind fun v89=>(bT x84 x58).bind fun v91=>(pC x84 x58 v89).bind fun x93=>(fJ K a0 a1 x58 K x93 0).bind fun x110=>mL K a1 x40 x46 x52 x58 (eN K a0 a1 k) x110) else(some (x40,x46,x52))
def nO (K:Nat) (a0:List (List Rat)) (a1:List Rat):Option (Int×(List Nat)×(List Int)×(List (List Rat))):=
 (eN K a0 a1 K ([]:List Int) ([]:List Nat) ([]:List (List Rat)) 0).bind fun(x59,x65,x71)=>nE K a1 x59 x65 x71
theorem aAo {K:Nat} {a0:List (List Rat)} {a1:List Rat} {r:Int×(List Nat)×(List Int)×(List (List Rat))} (hF:nO K a0 a1=some r):CtO Tryz.prog 109 [] [.vc (pS (yP cQ) a0),.vc (pS cQ a1)] (fun Ho q=>∃b1171 b1175 c1176 n1177 b1180 c1181 n1182 g1185 N1186,r.2.1.length=n1177∧r.2.2.1.length=n1182∧r.2.2.2.length=N1186∧nB g1185 r.2.2.2∧(∀k∈r.2.1,k<N1186)∧Ho=([⟨some b1171,1,151,3,1,([pI .i64 r.1]++[pO b1175 n1177 c1176]++[pO b1180 n1182 c1181])⟩,hO (cH g1185) b1175 c1176 24 n1177 r.2.1,hO cI b1180 c1181 3 n1182 r.2.2.1]++jI cQ 44 g1185 r.2.2.2)∧q=.vc (pP (some b1171) 0)):=by
 unfold nO at hF
 refine aJ Tryz.func109 rfl (by kernel_rfl) Tryz.ntmps109 rfl (fun w0 M0=>?_)
 refine aN (aU (aX (bP (p:=.any) (.inr rfl)) ⟨fun _=>trivial,trivial⟩ ?_))
 refine bI (aP (aN (aU (nC ?_))))
 refine aX (vG rfl tyS24) zU1 ?_
 refine aAm ?_
 refine bI (aP (aN (aU (nC ?_))))
 refine aOo cQ 44 ?_
 refine aDw (cH ([]:List xO)) 24 ?_
 refine aDw cI 3 ?_
 refine aX (cR (is:=[0]) (xs:=[.tmp 12]) (ps:=[.vc (pI .i64 (a1.length:Int))]) rfl tyB151_o1_o2q rfl rfl ⟨trivial,trivial⟩ rfl) zU1 ?_
 refine cE rfl rfl trivial (fun b20=>?_)
 refine go ?_ ?_
 refine aQ (bY (fun H E=>∃(x59:List Int),∃(x65:List Nat),∃(x71:List (List Rat)),∃(b60:Option Nat),∃(c61:Nat),∃(n62:Nat),∃(b66:Option Nat),∃(c67:Nat),∃(n68:Nat),∃(g72:List xO),∃(N73:Nat),nE K a1 x59 x65 x71=some r∧x59.length=n62∧x65.length=n68∧x71.length=N73∧nB g72 x71∧(∀k∈x65,k<N73)∧H=([⟨some b20,1,151,3,1,([pI .i64 (a1.length:Int)]++[pO b66 n68 c67]++[pO b60 n62 c61])⟩,hO cI b60 c61 3 n62 x59,hO (cH g72) b66 c67 24 n68 x65]++jI cQ 44 g72 x71)∧E=[(6,.vc (pP (some b20) 0))]) ?_ (fun Jj78=>?_))
 ·rintro _ _ ⟨x59,x65,x71,b60,c61,n62,b66,c67,n68,g72,N73,hF,q63,q69,q74,q75,q76,rfl,rfl⟩
  unfold nE at hF
  refine go ?_ ?_
  refine pU (pG ?_)
  obtain rfl:=oN hF
  exact aA0 (.inl rfl) Tryz.results109 (.tmp rfl .nil) rfl 3 [0,2,1] rfl rfl (by decide) ⟨b20,b66,c67,n68,b60,c61,n62,g72,N73,q69,q63,q74,q75,q76,rfl,rfl⟩
 obtain⟨⟨x59',x65',x71'⟩,hL,hRl77⟩:=a8 hF
 refine hY (fun k a w=>∃(x40:List Int),∃(x46:List Nat),∃(x52:List (List Rat)),∃(x58:Int),∃(b41:Option Nat),∃(c42:Nat),∃(n43:Nat),∃(b47:Option Nat),∃(c48:Nat),∃(n49:Nat),∃(g53:List xO),∃(N54:Nat),eN K a0 a1 k x40 x46 x52 x58=some (x59',x65',x71')∧x40.length=n43∧x46.length=n49∧x52.length=N54∧nB g53 x52∧(∀k∈x46,k<N54)∧hs _ ([⟨some b20,1,151,3,1,([pI .i64 (a1.length:Int)]++[pO b47 n49 c48]++[pO b41 n43 c42])⟩,hO cI b41 c42 3 n43 x40,hO (cH g53) b47 c48 24 n49 x46]++jI cQ 44 g53 x52) [(0,.vc (pS (yP cQ) a0)),(1,.vc (pS cQ a1)),(5,.vc (pI .i64 (a1.length:Int))),(6,.vc (pP (some b20) 0)),(15,.vc (pI .i64 (a1.length:Int))),(16,.vc (pI .i64 x58))] a w) K (fun a w ⟨_,_,_,_,_,_,_,_,_,_,_,_,hF,_,_,_,_,_,_⟩=>by cases hF) (fun k a w ⟨x40,x46,x52,x58,b41,c42,n43,b47,c48,n49,g53,N54,hF,q44,q50,q55,q56,q57,hh⟩=>iA ?_ hh) (fun a w hh=>⟨([]:List Int),([]:List Nat),([]:List (List Rat)),0,none,0,0,none,0,0,([]:List xO),0,hL,rfl,rfl,(rfl),aFM,(by simp),cS 3 [0,1,2] rfl rfl (by decide) (by exact⟨rfl,rfl,rfl,rfl,rfl,rfl,trivial⟩) hh⟩)
 rw [eN.eq_2] at hF
 refine go ?_ ?_
 refine aL hF rfl (fun h79 hF=>?_) (fun h79 hF=>?_)
 ·refine go ?_ ?_
  refine aQ ?_
  obtain⟨v80,h81,v82,h83,x84,h85,hF⟩:=bn3 hF
  refine go ?_ ?_
  refine tD (C:=cQ) rfl tyS24 rfl tyZ44q rfl h85 (fun b86=>?_)
  obtain⟨v89,h90,hF⟩:=aY hF aAv
  obtain⟨v91,h92,x93,h94,hF⟩:=wK hF
  refine go ?_ ?_
  refine aQ (bY (fun H E=>∃(x110:List Rat),mL K a1 x40 x46 x52 x58 (eN K a0 a1 k) x110=some (x59',x65',x71')∧x110.length=x84.length∧H=([hO cQ b86 x84.length 44 x84.length x110,⟨some b20,1,151,3,1,([pI .i64 (a1.length:Int)]++[pO b47 n49 c48]++[pO b41 n43 c42])⟩,hO cI b41 c42 3 n43 x40,hO (cH g53) b47 c48 24 n49 x46]++jI cQ 44 g53 x52)∧E=[(0,.vc (pS (yP cQ) a0)),(1,.vc (pS cQ a1)),(5,.vc (pI .i64 (a1.length:Int))),(6,.vc (pP (some b20) 0)),(7,.vc (pI .i64 x58)),(8,.vc (pO b86 x84.length x84.length)),(15,.vc (pI .i64 (a1.length:Int))),(16,.vc (pI .i64 x58))]) ?_ (fun Jj117=>?_))
  ·rintro _ _ ⟨x110,hF,q114,rfl,rfl⟩
   unfold mL at hF
   have hF:=r7 h81 hF
   obtain⟨v120,h121,hF⟩:=aY hF aAv
   obtain⟨v122,h123,x124,h125,hF⟩:=wK hF
   have hF:=r7 h81 hF
   obtain⟨v129,h130,v131,h132,v133,h134,x135,h136,hF⟩:=bn4 hF
   refine go ?_ ?_
   refine aX (aRT (rs:=x52) rfl tyS62 q56.1 (show([hO cQ b86 x84.length 44 x84.length x135,⟨some b20,1,151,3,1,([pI .i64 (a1.length:Int)]++[pO b47 n49 c48]++[pO b41 n43 c42])⟩,hO cI b41 c42 3 n43 x40,hO (cH (g53++[(b86,x84.length,x84.length)])) b47 c48 24 n49 x46]++jI cQ 44 g53 x52)=([hO cQ b86 x84.length 44 x84.length x135,⟨some b20,1,151,3,1,([pI .i64 (a1.length:Int)]++[pO b47 n49 c48]++[pO b41 n43 c42])⟩,hO cI b41 c42 3 n43 x40,hO (cH g53) b47 c48 24 n49 x46]++jI cQ 44 g53 x52) from by rw [aJe (N:=x52.length) (b86,x84.length,x84.length) q56.1 (aHq q55 q57)])) zU1 ?_
   refine aFt (g:=(b86,x84.length,x84.length)) 0 4 rfl rfl rfl q56 ?_
   refine aPt 8 rfl (aNw (N:=x52.length) (b86,x84.length,x84.length) q56.1) ?_
   obtain⟨x139,h140,hF⟩:=a8 hF
   refine lY 2 rfl tyS62 rfl rfl q50 rfl rfl h140 (fun b141 c142 H143 e144=>?_)
   cases e144
   refine go ?_ ?_
   refine aX (kT (C:=cI) (xs:=[.tmp 74]) (ps:=[.vc (pI .i64 x58)]) (zs:=[x58]) rfl tyS22 rfl ⟨⟨trivial,rfl⟩,trivial⟩ rfl) zU1 ?_
   obtain⟨x146,h147,hF⟩:=a8 hF
   refine lY 1 rfl tyS22 rfl rfl q44 rfl rfl h147 (fun b148 c149 H150 e151=>?_)
   cases e151
   obtain⟨v153,h154,hF⟩:=a8 hF
   refine go ?_ ?_
   exact aM (fun a w hh=>⟨x146,x139,(x52++[x135]),v153,b148,c149,(n43+[x58].length),b141,c142,(n49+[x52.length].length),(g53++[(b86,x84.length,x84.length)]),(N54+1),hF,(bF h147 q44),(bF h140 q50),(aEX q55),(aAP q56 (bL h136 (bL h125 q114))),(aQw q57 q55 h140),cS 3 [0,1,2] rfl rfl (by decide) (by exact⟨rfl,rfl,rfl,rfl,rfl,rfl,trivial⟩) hh⟩)
  obtain⟨x110',hL,hRl116⟩:=a8 hF
  refine hY (fun k a w=>∃(x103:List Rat),∃(x109:Int),fJ K a0 a1 x58 k x103 x109=some x110'∧x103.length=x84.length∧hs _ ([hO cQ b86 x84.length 44 x84.length x103,⟨some b20,1,151,3,1,([pI .i64 (a1.length:Int)]++[pO b47 n49 c48]++[pO b41 n43 c42])⟩,hO cI b41 c42 3 n43 x40,hO (cH g53) b47 c48 24 n49 x46]++jI cQ 44 g53 x52) [(0,.vc (pS (yP cQ) a0)),(1,.vc (pS cQ a1)),(5,.vc (pI .i64 (a1.length:Int))),(6,.vc (pP (some b20) 0)),(7,.vc (pI .i64 x58)),(8,.vc (pO b86 x84.length x84.length)),(15,.vc (pI .i64 (a1.length:Int))),(16,.vc (pI .i64 x58)),(27,.vc (pI .i64 (a1.length:Int))),(28,.vc (pI .i64 x109))] a w) K (fun a w ⟨_,_,hF,_,_⟩=>by cases hF) (fun k a w ⟨x103,x109,hF,q107,hh⟩=>iA ?_ hh) (fun a w hh=>⟨x93,0,hL,(bL h94 rfl),cS 4 [0,1,2,3] rfl rfl (by decide) (by exact⟨rfl,rfl,rfl,rfl,rfl,rfl,rfl,rfl,rfl,rfl,trivial⟩) hh⟩)
  rw [fJ.eq_2] at hF
  refine go ?_ ?_
  refine aL hF rfl (fun h155 hF=>?_) (fun h155 hF=>?_)
  ·refine go ?_ ?_
   refine aQ ?_
   obtain⟨v156,h157,v158,h159,v160,h161,hF⟩:=bn3 hF
   obtain⟨v162,h163,hF⟩:=aY hF rZ
   obtain⟨v164,h165,x166,h167,v169,h170,hF⟩:=bn3 hF
   refine go ?_ ?_
   exact aM (fun a w hh=>⟨x166,v169,hF,(bL h167 q107),cS 4 [0,1,2,3] rfl rfl (by decide) (by exact⟨rfl,rfl,rfl,rfl,rfl,rfl,rfl,rfl,rfl,rfl,trivial⟩) hh⟩)
  refine cU ?_
  obtain rfl:=oN hF
  exact qW Jj117 ⟨x103,hRl116,q107,rfl,rfl⟩ 4 [0,1,2,3] rfl rfl ⟨rfl,rfl,rfl,rfl,rfl,rfl,rfl,rfl,trivial⟩
 refine cU ?_
 obtain⟨rfl,rfl,rfl⟩:=sm3 hF
 exact qW Jj78 ⟨x40,x46,x52,b41,c42,n43,b47,c48,n49,g53,N54,hRl77,q44,q50,q55,q56,q57,rfl,rfl⟩ 3 [0,1,2] rfl rfl zU1
def lR (K:Nat) (x69:List Rat) (x75:List Rat):Option aT:=
 some (⟨x75,x69,0⟩:aT)
def bU (K:Nat) (a0:Int) (a1:List Nat) (a2:List Int) (a3:List (List Rat)):Nat→(List Rat)→(List Rat)→Int→Option ((List Rat)×(List Rat))
 |0,_,_,_=>none
 |k+1,x56,x62,x68=>bif(decide (x68<(a2.length:Int))) then((bT a2 x68).bind fun v84=>(bT a1 x68).bind fun v88=>(aS (2*a0)).bind fun v90=>(aS (v90+1)).bind fun v92=>(bT (a3.getD v88 []) v92).bind fun v94=>bif(decide (v84<a0)) then((bT x56 v84).bind fun v97=>(pC x56 v84 v94).bind fun x99=>(aS (x68+1)).bind fun v102=>bU K a0 a1 a2 a3 k x99 x62 v102) else((aS (2*a0)).bind fun v104=>bif(decide (v84<v104)) then((aS (v84-a0)).bind fun v109=>(bT x62 v109).bind fun v111=>(pC x62 v109 v94).bind fun x113=>(aS (x68+1)).bind fun v116=>bU K a0 a1 a2 a3 k x56 x113 v116) else((aS (x68+1)).bind fun v118=>bU K a0 a1 a2 a3 k x56 x62 v118))) else(some (x56,x62))
def fB (K:Nat) (a0:Int) (a1:List Nat) (a2:List Int) (a3:List (List Rat)):Option aT:=
 (wJ a0 0).bind fun x23=>(wJ a0 0).bind fun x27=>(bU K a0 a1 a2 a3 K x27 x23 0).bind fun(x69,x75)=>lR K x69 x75
theorem rP {K:Nat} {a0:Int} {a1:List Nat} {a2:List Int} {a3:List (List Rat)} {r:aT} (hF:fB K a0 a1 a2 a3=some r) {p0:Nat} {b4:Option Nat} {c5 n6:Nat} {b9:Option Nat} {c10 n11:Nat} {g14:List xO} {N15:Nat} (q7:a1.length=n6) (q12:a2.length=n11) (q16:a3.length=N15) (q17:nB g14 a3) (q18:∀k∈a1,k<N15):CtO Tryz.prog 111 ([⟨some p0,1,151,3,1,([pI .i64 a0]++[pO b4 n6 c5]++[pO b9 n11 c10])⟩,hO (cH g14) b4 c5 24 n6 a1,hO cI b9 c10 3 n11 a2]++jI cQ 44 g14 a3) [.vc (pP (some p0) 0)] (fun Ho q=>Ho=([⟨some p0,1,151,3,1,([pI .i64 a0]++[pO b4 n6 c5]++[pO b9 n11 c10])⟩,hO (cH g14) b4 c5 24 n6 a1,hO cI b9 c10 3 n11 a2]++jI cQ 44 g14 a3)∧q=.va (aT.enc r)):=by
 unfold fB at hF
 refine aJ Tryz.func111 rfl (by kernel_rfl) Tryz.ntmps111 rfl (fun w0 M0=>?_)
 refine aN (aU (aO rfl tyZ68q (fun b20=>?_)))
 obtain⟨x23,h24,hF⟩:=a8 hF
 have hF:=r7 h24 hF
 refine go ?_ ?_
 refine oV (HsM [(0,fun G21=>([⟨some b20,1,68,3,1,([pS cQ ([]:List Rat)]++[pS cQ ([]:List Rat)]++[pI .i64 0])⟩,⟨some p0,1,151,3,1,([pI .i64 a0]++[pO b4 n6 c5]++[pO b9 n11 c10])⟩,hO (cH g14) b4 c5 24 n6 a1,hO cI b9 c10 3 n11 a2]++jI cQ 44 g14 a3)),(1,fun G21=>([hO cQ ((G21 4).1) x23.length 44 x23.length x23,⟨some b20,1,68,3,1,([pS cQ ([]:List Rat)]++[pS cQ ([]:List Rat)]++[pI .i64 0])⟩,⟨some p0,1,151,3,1,([pI .i64 a0]++[pO b4 n6 c5]++[pO b9 n11 c10])⟩,hO (cH g14) b4 c5 24 n6 a1,hO cI b9 c10 3 n11 a2]++jI cQ 44 g14 a3)),(2,fun G21=>([hO cQ ((G21 9).1) x23.length 44 x23.length x23,⟨some b20,1,68,3,1,([pS cQ ([]:List Rat)]++[pS cQ ([]:List Rat)]++[pI .i64 0])⟩,⟨some p0,1,151,3,1,([pI .i64 a0]++[pO b4 n6 c5]++[pO b9 n11 c10])⟩,hO (cH g14) b4 c5 24 n6 a1,hO cI b9 c10 3 n11 a2]++jI cQ 44 g14 a3)),(3,fun G21=>([hO cQ ((G21 9).1) x23.length 44 x23.length x23,hO cQ ((G21 4).1) x23.length 44 x23.length x23,⟨some b20,1,68,3,1,([pS cQ ([]:List Rat)]++[pS cQ ([]:List Rat)]++[pI .i64 0])⟩,⟨some p0,1,151,3,1,([pI .i64 a0]++[pO b4 n6 c5]++[pO b9 n11 c10])⟩,hO (cH g14) b4 c5 24 n6 a1,hO cI b9 c10 3 n11 a2]++jI cQ 44 g14 a3)),(7,fun G21=>([hO cQ (dB (G21 10).2) x23.length 44 x23.length x23,hO cQ ((G21 10).1) x23.length 44 x23.length x23,⟨some b20,1,68,3,1,([pS cQ ([]:List Rat)]++[pS cQ ([]:List Rat)]++[pI .i64 0])⟩,⟨some p0,1,151,3,1,([pI .i64 a0]++[pO b4 n6 c5]++[pO b9 n11 c10])⟩,hO (cH g14) b4 c5 24 n6 a1,hO cI b9 c10 3 n11 a2]++jI cQ 44 g14 a3))]) [4,9,10] [0,1,3,7,15,0,32,96,224,480,1023,0,4095] 12 1 [.v (.vc (pP (some p0) 0)),.v (.vc (pP (some p0) 0)),.v (.vc (pP (some p0) 0)),.v (.vc (pI .i64 a0)),.g (fun b _=>.vc (pO b x23.length x23.length)),.v (.vc (pP (some p0) 0)),.v (.vc (pP (some p0) 0)),.v (.vc (pP (some p0) 0)),.v (.vc (pI .i64 a0)),.g (fun b _=>.vc (pO b x23.length x23.length)),.g (fun b c=>.va ([pO b x23.length x23.length]++[pO (dB c) x23.length x23.length]++[pI .i64 0])),.a 68 ([pS cQ ([]:List Rat)]++[pS cQ ([]:List Rat)]++[pI .i64 0])] bA ⟨⟨rfl,.run (L:=[0,2]) ⟨fun G21 A=>bP (.inl rfl),fun G21 A=>bP (.inl rfl),trivial⟩ (fun G21=>zU1)⟩,⟨rfl,.run (L:=[0,2]) ⟨fun G21 A=>zC rfl,fun G21 A=>zC rfl,trivial⟩ (fun G21=>zU1)⟩,⟨rfl,.run (L:=[0,2]) ⟨fun G21 A=>lN (off:=0) (k:=0) rfl tyF151_0,fun G21 A=>lN (off:=0) (k:=0) rfl tyF151_0,trivial⟩ (fun G21=>zU1)⟩,⟨rfl,.run (L:=[0,2]) ⟨fun G21 A=>eV 1 1 rfl rfl rfl rfl (.one tyO3),fun G21 A=>eV 2 1 rfl rfl rfl rfl (.one tyO3),trivial⟩ (fun G21=>zU1)⟩,⟨rfl,.hvy [0,2] ⟨fun G21 A=>jH (C:=cQ) rfl tyS24 rfl tyZ44q h24,fun G21 A=>sU (R:=jI cQ 44 g14 a3) [1,0,2,3,4,5] (jH (C:=cQ) rfl tyS24 rfl tyZ44q h24) (fun b_ c_=>⟨[hO cQ (b_) x23.length 44 x23.length x23,hO cQ ((G21 9).1) x23.length 44 x23.length x23,⟨some b20,1,68,3,1,([pS cQ ([]:List Rat)]++[pS cQ ([]:List Rat)]++[pI .i64 0])⟩,⟨some p0,1,151,3,1,([pI .i64 a0]++[pO b4 n6 c5]++[pO b9 n11 c10])⟩,hO (cH g14) b4 c5 24 n6 a1,hO cI b9 c10 3 n11 a2],_,rfl,rfl,rfl⟩),trivial⟩ (fun G21=>zU1)⟩,⟨rfl,.run (L:=[0,1]) ⟨fun G21 A=>bP (.inl rfl),fun G21 A=>bP (.inl rfl),trivial⟩ (fun G21=>zU1)⟩,⟨rfl,.run (L:=[0,1]) ⟨fun G21 A=>zC rfl,fun G21 A=>zC rfl,trivial⟩ (fun G21=>zU1)⟩,⟨rfl,.run (L:=[0,1]) ⟨fun G21 A=>lN (off:=0) (k:=0) rfl tyF151_0,fun G21 A=>lN (off:=0) (k:=0) rfl tyF151_0,trivial⟩ (fun G21=>zU1)⟩,⟨rfl,.run (L:=[0,1]) ⟨fun G21 A=>eV 1 1 rfl rfl rfl rfl (.one tyO3),fun G21 A=>eV 2 1 rfl rfl rfl rfl (.one tyO3),trivial⟩ (fun G21=>zU1)⟩,⟨rfl,.hvy [0,1] ⟨fun G21 A=>jH (C:=cQ) rfl tyS24 rfl tyZ44q h24,fun G21 A=>jH (C:=cQ) rfl tyS24 rfl tyZ44q h24,trivial⟩ (fun G21=>zU1)⟩,⟨rfl,.hvy [3] ⟨fun G21 A=>aQI (Post:=fun b_ x_=>([hO cQ x_ x23.length 44 x23.length x23,hO cQ b_ x23.length 44 x23.length x23,⟨some b20,1,68,3,1,([pS cQ ([]:List Rat)]++[pS cQ ([]:List Rat)]++[pI .i64 0])⟩,⟨some p0,1,151,3,1,([pI .i64 a0]++[pO b4 n6 c5]++[pO b9 n11 c10])⟩,hO (cH g14) b4 c5 24 n6 a1,hO cI b9 c10 3 n11 a2]++jI cQ 44 g14 a3)++A) (out:=fun b_ x_=>.va ([pO b_ x23.length x23.length]++[pO x_ x23.length x23.length]++[pI .i64 0])) ((G21 4).1) ((G21 9).1) (cR (is:=[0,1]) (xs:=[.tmp 11,.tmp 16]) (ps:=[.vc (pO ((G21 4).1) x23.length x23.length),.vc (pO ((G21 9).1) x23.length x23.length)]) rfl tyB68q rfl rfl ⟨trivial,trivial,trivial⟩ rfl),trivial⟩ (fun G21=>zU2)⟩,⟨rfl,.alc tyZ68q⟩,trivial⟩ (fun bs22 G21=>?_)
 refine go ?_ ?_
 refine aQ (bY (fun H E=>∃(x69:List Rat),∃(x75:List Rat),lR K x69 x75=some r∧x69.length=x23.length∧x75.length=x23.length∧H=([⟨some (bs22 11),1,68,3,1,([pO ((G21 10).1) x23.length x23.length]++[pO (dB (G21 10).2) x23.length x23.length]++[pI .i64 0])⟩,hO cQ (dB (G21 10).2) x23.length 44 x23.length x69,hO cQ ((G21 10).1) x23.length 44 x23.length x75,⟨some b20,1,68,3,1,([pS cQ ([]:List Rat)]++[pS cQ ([]:List Rat)]++[pI .i64 0])⟩,⟨some p0,1,151,3,1,([pI .i64 a0]++[pO b4 n6 c5]++[pO b9 n11 c10])⟩,hO (cH g14) b4 c5 24 n6 a1,hO cI b9 c10 3 n11 a2]++jI cQ 44 g14 a3)∧E=[(2,.vc (pP (some b20) 0)),(3,.vc (pP (some (bs22 11)) 0))]) ?_ (fun Jj82=>?_))
 ·rintro _ _ ⟨x69,x75,hF,q73,q79,rfl,rfl⟩
  unfold lR at hF
  refine aP (aN (aU (xD 2 0 0 rfl q79 rfl rfl rfl rfl rfl ?_)))
  refine xD 1 0 1 rfl q73 rfl rfl rfl rfl rfl ?_
  refine go ?_ ?_
  refine pU (pG ?_)
  obtain rfl:=oN hF
  exact aA0 (.inl rfl) Tryz.results111 (aGJ 1 3 rfl rfl rfl rfl (.agg tyA68) .nil) rfl 5 [2,3,4] rfl rfl (by decide) ⟨rfl,rfl⟩
 obtain⟨⟨x69',x75'⟩,hL,hRl81⟩:=a8 hF
 refine hY (fun k a w=>∃(x56:List Rat),∃(x62:List Rat),∃(x68:Int),bU K a0 a1 a2 a3 k x56 x62 x68=some (x69',x75')∧x56.length=x23.length∧x62.length=x23.length∧hs _ ([⟨some (bs22 11),1,68,3,1,([pO ((G21 10).1) x23.length x23.length]++[pO (dB (G21 10).2) x23.length x23.length]++[pI .i64 0])⟩,hO cQ (dB (G21 10).2) x23.length 44 x23.length x56,hO cQ ((G21 10).1) x23.length 44 x23.length x62,⟨some b20,1,68,3,1,([pS cQ ([]:List Rat)]++[pS cQ ([]:List Rat)]++[pI .i64 0])⟩,⟨some p0,1,151,3,1,([pI .i64 a0]++[pO b4 n6 c5]++[pO b9 n11 c10])⟩,hO (cH g14) b4 c5 24 n6 a1,hO cI b9 c10 3 n11 a2]++jI cQ 44 g14 a3) [(0,.vc (pP (some p0) 0)),(2,.vc (pP (some b20) 0)),(3,.vc (pP (some (bs22 11)) 0)),(21,.vc (pO b9 n11 c10)),(22,.vc (pI .i64 (a2.length:Int))),(23,.vc (pI .i64 x68))] a w) K (fun a w ⟨_,_,_,hF,_,_,_⟩=>by cases hF) (fun k a w ⟨x56,x62,x68,hF,q60,q66,hh⟩=>iA ?_ hh) (fun a w hh=>⟨x23,x23,0,hL,rfl,rfl,cS 7 [0,1,2,3,4,5,6] rfl rfl (by decide) (by exact⟨rfl,rfl,rfl,rfl,rfl,rfl,trivial⟩) hh⟩)
 rw [bU.eq_2] at hF
 refine go ?_ ?_
 refine aL hF rfl (fun h83 hF=>?_) (fun h83 hF=>?_)
 ·refine go ?_ ?_
  refine aQ ?_
  obtain⟨v84,h85,v88,h89,v90,h91,v92,h93,hF⟩:=bn4 hF
  obtain⟨v94,h95,hF⟩:=a8 hF
  refine go ?_ ?_
  refine jJ [0,1,3,7,0,31,63,0,128,384,896,1920,3968,8191,16383,0,65535] 16 1 [.v (.vc (pP (some p0) 0)),.v (.vc (pP (some p0) 0)),.v (.vc (pP (some p0) 1)),.v (.vc (pO b4 n6 c5)),.v (.vc (pI .i64 x68)),.v (.vc (pE b4 x68 (cH g14).n 0)),.v (.vc (pO (kV g14 v88).1 (kV g14 v88).2.1 (kV g14 v88).2.2)),.v (.vc (pP (some p0) 0)),.v (.vc (pP (some p0) 0)),.v (.vc (pP (some p0) 0)),.v (.vc (pI .i64 a0)),.v (.vc (pI .i64 v90)),.v (.vc (pI .i64 v92)),.v (.vc (pE (kV g14 v88).1 v92 cQ.n 0)),.v (.va (eQ v94)),.a 44 (eQ 0)] bA ⟨d0 (bP (.inl rfl)) zU1,d0 (zC rfl) zU1,d0 (lN (off:=0) (k:=1) rfl tyF151_1) zU1,d0 (eV 4 1 rfl rfl rfl rfl (.one tyO62)) zU1,d0 (bP (.inl rfl)) zU1,d0 (l9 (C:=(cH g14)) 5 rfl tyS62 rfl q7 (aV h89).1 (aV h89).2.1) zU2,d0 (r9 (C:=(cH g14)) (k:=1) 5 rfl rfl h89 rfl (.one tyO24) rfl) zU1,d0 (bP (.inl rfl)) zU1,d0 (zC rfl) zU1,d0 (lN (off:=0) (k:=0) rfl tyF151_0) zU1,d0 (eV 4 1 rfl rfl rfl rfl (.one tyO3)) zU1,d0 (aKH rfl h91) ⟨lC _ _,rfl,trivial⟩,d0 (yB rfl h93) ⟨rfl,lC _ _,trivial⟩,d0 (l9 (7+v88) rfl tyS24 (l8 7 rfl q17 q16 (q18 _ (bK h89))) (nD q17 q16 (q18 _ (bK h89))) (aV h95).1 (aV h95).2.1) zU2,d0 (r9 (k:=4) (7+v88) rfl (l8 7 rfl q17 q16 (q18 _ (bK h89))) h95 rfl (.agg tyA44) rfl) zU1,⟨rfl,.alc tyZ44q⟩,trivial⟩ (fun bs87 G86=>?_)
  refine go ?_ ?_
  refine aQ (go ?_ ?_)
  refine aL hF rfl (fun h96 hF=>?_) (fun h96 hF=>?_)
  ·obtain⟨v97,h98,x99,h100,v102,h103,hF⟩:=bn3 hF
   refine go ?_ ?_
   exact aM (fun a w hh=>⟨x99,x62,v102,hF,(bL h100 q60),q66,cS 8 [1,2,3,4,5,6,7] rfl rfl (by decide) (by exact⟨rfl,rfl,rfl,rfl,rfl,rfl,trivial⟩) hh⟩)
  have hF:=r7 h91 hF
  refine go ?_ ?_
  refine aL hF rfl (fun h106 hF=>?_) (fun h106 hF=>?_)
  ·obtain⟨v109,h110,hF⟩:=a8 hF
   obtain⟨v111,h112,hF⟩:=a8 hF
   refine dr [0,1,0,0,8,24,56,124,0,511,1023] 10 1 ?_ (fun bs108 G107=>?_)
   obtain⟨x113,h114,v116,h117,hF⟩:=wK hF
   refine go ?_ ?_
   exact aM (fun a w hh=>⟨x56,x113,v116,hF,q60,(bL h114 q66),cS 8 [1,2,3,4,5,6,7] rfl rfl (by decide) (by exact⟨rfl,rfl,rfl,rfl,rfl,rfl,trivial⟩) hh⟩)
  obtain⟨v118,h119,hF⟩:=a8 hF
  refine go ?_ ?_
  exact aM (fun a w hh=>⟨x56,x62,v118,hF,q60,q66,cS 8 [1,2,3,4,5,6,7] rfl rfl (by decide) (by exact⟨rfl,rfl,rfl,rfl,rfl,rfl,trivial⟩) hh⟩)
 refine cU ?_
 obtain⟨rfl,rfl⟩:=sm2 hF
 exact qW Jj82 ⟨x56,x62,hRl81,q60,q66,rfl,rfl⟩ 7 [0,1,2,3,4,5,6] rfl rfl zU2
def jG (K:Nat):Option Bool:=
 some false
def eD (K:Nat) (a0:Int) (a1:Rat) (a2:Int) (a3:Rat) (a5:List Nat) (a7:List (List Rat)) (x23:Int) (recl24:Int→Option (LR Bool Unit)) (x28:Int):Option (LR Bool Unit):=
 (bT a5 a0).bind fun v32=>(bT (a7.getD v32 []) x28).bind fun v34=>(aGT v34 a1).bind fun v36=>(bT a5 a2).bind fun v38=>(bT (a7.getD v38 []) x28).bind fun v40=>(aGT v40 a3).bind fun v42=>(aC8 v36 v42).bind fun v44=>bif(v44 != 0) then(some (.ret (decide (v44<0)))) else((aS (x23+1)).bind fun v47=>recl24 v47)
def a9 (K:Nat) (a0:Int) (a1:Rat) (a2:Int) (a3:Rat) (a4:Int) (a5:List Nat) (a7:List (List Rat)):Nat→Int→Option (LR Bool Unit)
 |0,_=>none
 |k+1,x23=>bif(decide (x23<a4)) then(bif(decide (x23<0)) then((aS (2*a4)).bind fun v50=>(aS (v50+1)).bind fun v52=>eD K a0 a1 a2 a3 a5 a7 x23 (a9 K a0 a1 a2 a3 a4 a5 a7 k) v52) else(eD K a0 a1 a2 a3 a5 a7 x23 (a9 K a0 a1 a2 a3 a4 a5 a7 k) x23)) else(some (.go ()))
def eI (K:Nat) (a0:Int) (a1:Rat) (a2:Int) (a3:Rat) (a4:Int) (a5:List Nat) (a6:List Int) (a7:List (List Rat)):Option Bool:=
 (a9 K a0 a1 a2 a3 a4 a5 a7 K (-1)).bind fun o=>match o with| .ret r=>some r| .go _=>jG K
theorem sI {K:Nat} {a0:Int} {a1:Rat} {a2:Int} {a3:Rat} {a4:Int} {a5:List Nat} {a6:List Int} {a7:List (List Rat)} {r:Bool} (hF:eI K a0 a1 a2 a3 a4 a5 a6 a7=some r) {p0:Nat} {b4:Option Nat} {c5 n6:Nat} {b9:Option Nat} {c10 n11:Nat} {g14:List xO} {N15:Nat} (q7:a5.length=n6) (q12:a6.length=n11) (q16:a7.length=N15) (q17:nB g14 a7) (q18:∀k∈a5,k<N15):CtO Tryz.prog 113 ([⟨some p0,1,151,3,1,([pI .i64 a4]++[pO b4 n6 c5]++[pO b9 n11 c10])⟩,hO (cH g14) b4 c5 24 n6 a5,hO cI b9 c10 3 n11 a6]++jI cQ 44 g14 a7) [.vc (pP (some p0) 0),.vc (pI .i64 a0),.va (eQ a1),.vc (pI .i64 a2),.va (eQ a3)] (fun Ho q=>Ho=([⟨some p0,1,151,3,1,([pI .i64 a4]++[pO b4 n6 c5]++[pO b9 n11 c10])⟩,hO (cH g14) b4 c5 24 n6 a5,hO cI b9 c10 3 n11 a6]++jI cQ 44 g14 a7)∧q=.vc (pB r)):=by
 unfold eI at hF
 refine aJ Tryz.func113 rfl (by kernel_rfl) Tryz.ntmps113 rfl (fun w0 M0=>?_)
 refine aN (aU (cE rfl rfl trivial (fun b20=>?_)))
 refine cE rfl rfl trivial (fun b21=>?_)
 refine go ?_ ?_
 refine aQ (bY (fun H E=>jG K=some r∧H=([⟨some p0,1,151,3,1,([pI .i64 a4]++[pO b4 n6 c5]++[pO b9 n11 c10])⟩,hO (cH g14) b4 c5 24 n6 a5,hO cI b9 c10 3 n11 a6]++jI cQ 44 g14 a7)∧E=[]) ?_ (fun Jj25=>?_))
 ·rintro _ _ ⟨hF,rfl,rfl⟩
  unfold jG at hF
  refine go ?_ ?_
  refine pU (pG ?_)
  obtain rfl:=oN hF
  exact aA0 (.inl rfl) Tryz.results113 (.tmp rfl .nil) rfl 3 [0,1,2] rfl rfl (by decide) ⟨rfl,rfl⟩
 obtain⟨ol24,hL,hRl24⟩:=a8 hF
 refine hY (fun k a w=>∃(x23:Int),a9 K a0 a1 a2 a3 a4 a5 a7 k x23=some ol24∧hs _ ([⟨some b21,1,44,4,1,(eQ a3)⟩,⟨some b20,1,44,4,1,(eQ a1)⟩,⟨some p0,1,151,3,1,([pI .i64 a4]++[pO b4 n6 c5]++[pO b9 n11 c10])⟩,hO (cH g14) b4 c5 24 n6 a5,hO cI b9 c10 3 n11 a6]++jI cQ 44 g14 a7) [(0,.vc (pP (some p0) 0)),(1,.vc (pI .i64 a0)),(3,.vc (pI .i64 a2)),(7,.vc (pP (some b20) 0)),(9,.vc (pP (some b21) 0)),(11,.vc (pI .i64 x23))] a w) K (fun a w ⟨_,hF,_⟩=>by cases hF) (fun k a w ⟨x23,hF,hh⟩=>iA ?_ hh) (fun a w hh=>⟨(-1),hL,cS 5 [0,1,2,3,4] rfl rfl (by decide) (by exact⟨rfl,rfl,rfl,rfl,rfl,rfl,trivial⟩) hh⟩)
 rw [a9.eq_2] at hF
 refine go ?_ ?_
 refine aL hF rfl (fun h26 hF=>?_) (fun h26 hF=>?_)
 ·refine go ?_ ?_
  refine aQ (aN (aU (nC ?_)))
  refine aAm ?_
  refine bI (aP (aN (uU (fun H E=>∃(x28:Int),eD K a0 a1 a2 a3 a5 a7 x23 (a9 K a0 a1 a2 a3 a4 a5 a7 k) x28=some ol24∧H=([⟨some b21,1,44,4,1,(eQ a3)⟩,⟨some b20,1,44,4,1,(eQ a1)⟩,⟨some p0,1,151,3,1,([pI .i64 a4]++[pO b4 n6 c5]++[pO b9 n11 c10])⟩,hO (cH g14) b4 c5 24 n6 a5,hO cI b9 c10 3 n11 a6]++jI cQ 44 g14 a7)∧E=[(0,.vc (pP (some p0) 0)),(1,.vc (pI .i64 a0)),(3,.vc (pI .i64 a2)),(7,.vc (pP (some b20) 0)),(9,.vc (pP (some b21) 0)),(11,.vc (pI .i64 x23)),(12,.vc (pI .i64 x28))]) ?_ (fun Jj29=>?_))))
  ·rintro _ _ ⟨x28,hF,rfl,rfl⟩
   unfold eD at hF
   refine aN ?_
   obtain⟨v32,h33,hF⟩:=a8 hF
   obtain⟨v34,h35,hF⟩:=a8 hF
   obtain⟨v36,h37,hF⟩:=aY hF aCA
   obtain⟨v38,h39,hF⟩:=a8 hF
   obtain⟨v40,h41,hF⟩:=a8 hF
   obtain⟨v42,h43,hF⟩:=aY hF aCA
   obtain⟨v44,h45,hF⟩:=aY hF uC
   refine jJ (0::1::3::7::0::31::63::0::255::511::0::2047::0::4096::12288::28672::0::126976::258048::0::1044480::2093056::0::8388607::16777215::33554431::[]) 26 0 (.v (.vc (pP (some p0) 0))::.v (.vc (pP (some p0) 0))::.v (.vc (pP (some p0) 1))::.v (.vc (pO b4 n6 c5))::.v (.vc (pI .i64 a0))::.v (.vc (pE b4 a0 (cH g14).n 0))::.v (.vc (pO (kV g14 v32).1 (kV g14 v32).2.1 (kV g14 v32).2.2))::.v (.vc (pI .i64 x28))::.v (.vc (pE (kV g14 v32).1 x28 cQ.n 0))::.v (.va (eQ v34))::.v (.va (eQ a1))::.v (.va (eQ v36))::.v (.vc (pP (some p0) 0))::.v (.vc (pP (some p0) 0))::.v (.vc (pP (some p0) 1))::.v (.vc (pO b4 n6 c5))::.v (.vc (pI .i64 a2))::.v (.vc (pE b4 a2 (cH g14).n 0))::.v (.vc (pO (kV g14 v38).1 (kV g14 v38).2.1 (kV g14 v38).2.2))::.v (.vc (pI .i64 x28))::.v (.vc (pE (kV g14 v38).1 x28 cQ.n 0))::.v (.va (eQ v40))::.v (.va (eQ a3))::.v (.va (eQ v42))::.v (.vc (pI .i64 v44))::.v (.vc (pI .i64 v44))::[]) bA ⟨d0 (bP (.inl rfl)) zU1,d0 (zC rfl) zU1,d0 (lN (off:=0) (k:=1) rfl tyF151_1) zU1,d0 (eV 2 1 rfl rfl rfl rfl (.one tyO62)) zU1,d0 (bP (.inl rfl)) zU1,d0 (l9 (C:=(cH g14)) 3 rfl tyS62 rfl q7 (aV h33).1 (aV h33).2.1) zU2,d0 (r9 (C:=(cH g14)) (k:=1) 3 rfl rfl h33 rfl (.one tyO24) rfl) zU1,d0 (bP (.inl rfl)) zU1,d0 (l9 (5+v32) rfl tyS24 (l8 5 rfl q17 q16 (q18 _ (bK h33))) (nD q17 q16 (q18 _ (bK h33))) (aV h35).1 (aV h35).2.1) zU2,d0 (r9 (k:=4) (5+v32) rfl (l8 5 rfl q17 q16 (q18 _ (bK h33))) h35 rfl (.agg tyA44) rfl) zU1,d0 (eV 1 4 rfl rfl rfl rfl (.agg tyA44)) zU1,d0 (bV rfl h37 rfl) zU2,d0 (bP (.inl rfl)) zU1,d0 (zC rfl) zU1,d0 (lN (off:=0) (k:=1) rfl tyF151_1) zU1,d0 (eV 2 1 rfl rfl rfl rfl (.one tyO62)) zU1,d0 (bP (.inl rfl)) zU1,d0 (l9 (C:=(cH g14)) 3 rfl tyS62 rfl q7 (aV h39).1 (aV h39).2.1) zU2,d0 (r9 (C:=(cH g14)) (k:=1) 3 rfl rfl h39 rfl (.one tyO24) rfl) zU1,d0 (bP (.inl rfl)) zU1,d0 (l9 (5+v38) rfl tyS24 (l8 5 rfl q17 q16 (q18 _ (bK h39))) (nD q17 q16 (q18 _ (bK h39))) (aV h41).1 (aV h41).2.1) zU2,d0 (r9 (k:=4) (5+v38) rfl (l8 5 rfl q17 q16 (q18 _ (bK h39))) h41 rfl (.agg tyA44) rfl) zU1,d0 (eV 0 4 rfl rfl rfl rfl (.agg tyA44)) zU1,d0 (bV rfl h43 rfl) zU2,d0 (bV rfl h45 rfl) zU2,d0 (bP (.inr rfl)) zU1,trivial⟩ (fun bs31 G30=>?_)
   refine go ?_ ?_
   refine aL hF rfl (fun h46 hF=>?_) (fun h46 hF=>?_)
   ·refine go ?_ ?_
    refine pU (pG ?_)
    obtain rfl:=oN hF
    obtain rfl:=oN hRl24
    exact aA0 (.inl rfl) Tryz.results113 (.tmp rfl .nil) rfl 5 [2,3,4] rfl rfl (by decide) ⟨rfl,rfl⟩
   obtain⟨v47,h48,hF⟩:=a8 hF
   refine go ?_ ?_
   exact aM (fun a w hh=>⟨v47,hF,cS 5 [0,1,2,3,4] rfl rfl (by decide) (by exact⟨rfl,rfl,rfl,rfl,rfl,rfl,trivial⟩) hh⟩)
  refine go ?_ ?_
  refine aL hF rfl (fun h49 hF=>?_) (fun h49 hF=>?_)
  ·refine aU (nC ?_)
   refine aX (zC rfl) zU1 ?_
   refine aX (lN (off:=0) (k:=0) rfl tyF151_0) zU1 ?_
   refine aX (eV 2 1 rfl rfl rfl rfl (.one tyO3)) zU1 ?_
   obtain⟨v50,h51,hF⟩:=a8 hF
   refine aX (aKH rfl h51) ⟨lC _ _,rfl,trivial⟩ ?_
   obtain⟨v52,h53,hF⟩:=a8 hF
   refine aX (yB rfl h53) ⟨rfl,lC _ _,trivial⟩ ?_
   refine aAm ?_
   refine bI ?_
   exact qW Jj29 ⟨v52,hF,rfl,rfl⟩ 5 [0,1,2,3,4] rfl rfl ⟨rfl,rfl,rfl,rfl,rfl,rfl,rfl,trivial⟩
  refine iR ?_
  exact qW Jj29 ⟨x23,hF,rfl,rfl⟩ 5 [0,1,2,3,4] rfl rfl ⟨rfl,rfl,rfl,rfl,rfl,rfl,rfl,trivial⟩
 refine cU ?_
 obtain rfl:=oN hF
 exact qW Jj25 ⟨hRl24,rfl,rfl⟩ 5 [2,3,4] rfl rfl trivial
def iT (K:Nat) (a0:Int) (a1:Int) (a4:List Int) (x57:List Nat) (x71:List (List Rat)):Option (Int×(List Nat)×(List Int)×(List (List Rat))):=
 (bT a4 a0).bind fun v77=>(bT a4 a0).bind fun v79=>(pC a4 a0 a1).bind fun x81=>some (v77,x57,x81,x71)
def iM (K:Nat) (x70:Int) (recl75:(List (List Rat))→Int→Option (List (List Rat))) (x108:List (List Rat)):Option (List (List Rat)):=
 (aS (x70+1)).bind fun v114=>recl75 x108 v114
def cY (K:Nat) (a5:List (List Rat)) (x66:List (List Rat)) (v85:Nat) (v87:Rat):Nat→(List (List Rat))→Int→Option (List (List Rat))
 |0,_,_=>none
 |k+1,x103,x107=>bif(decide (x107<((x66.getD v85 []).length:Int))) then((bT (x103.getD v85 []) x107).bind fun v119=>(bT (x103.getD a5.length []) x107).bind fun v121=>(xU v87 v121).bind fun v123=>(aFB v119 v123).bind fun v125=>(bT (x103.getD v85 []) x107).bind fun v127=>(pC (x103.getD v85 []) x107 v125).bind fun x129=>(aS (x107+1)).bind fun v132=>cY K a5 x66 v85 v87 k (x103.set v85 x129) v132) else(some x103)
def bH (K:Nat) (a0:Int) (a1:Int) (a5:List (List Rat)) (x57:List Nat):Nat→(List (List Rat))→Int→Option (List (List Rat))
 |0,_,_=>none
 |k+1,x66,x70=>bif(decide (x70<(x57.length:Int))) then((bT x57 x70).bind fun v85=>(bT (x66.getD v85 []) a1).bind fun v87=>bif(x70==a0) then((aS (x70+1)).bind fun v91=>bH K a0 a1 a5 x57 k x66 v91) else((uI v87).bind fun v93=>bif(v93==0) then((aS (x70+1)).bind fun v96=>bH K a0 a1 a5 x57 k x66 v96) else((cY K a5 x66 v85 v87 K x66 0).bind fun x108=>iM K x70 (bH K a0 a1 a5 x57 k) x108))) else(some x66)
def iS (K:Nat) (a0:Int) (a1:Int) (a3:List Nat) (a4:List Int) (a5:List (List Rat)) (x47:List Rat):Option (Int×(List Nat)×(List Int)×(List (List Rat))):=
 (bT a3 a0).bind fun v55=>(pC a3 a0 a5.length).bind fun x57=>(bH K a0 a1 a5 x57 K (a5++[x47]) 0).bind fun x71=>iT K a0 a1 a4 x57 x71
def dI (K:Nat) (a5:List (List Rat)) (x22:List Rat) (v27:Nat) (v30:Rat):Nat→(List Rat)→Int→Option (List Rat)
 |0,_,_=>none
 |k+1,x40,x46=>bif(decide (x46<((cpL x22 (a5.getD v27 [])).length:Int))) then((bT x40 x46).bind fun v137=>(aGT v137 v30).bind fun v139=>(bT x40 x46).bind fun v141=>(pC x40 x46 v139).bind fun x143=>(aS (x46+1)).bind fun v146=>dI K a5 x22 v27 v30 k x143 v146) else(some x40)
def iC (K:Nat) (a0:Int) (a1:Int) (a2:Int) (a3:List Nat) (a4:List Int) (a5:List (List Rat)):Option (Int×(List Nat)×(List Int)×(List (List Rat))):=
 (bT a3 a0).bind fun v20=>(wJ ((a5.getD v20 []).length:Int) 0).bind fun x22=>(bT a3 a0).bind fun v27=>(bT (cpL x22 (a5.getD v27 [])) a1).bind fun v30=>(dI K a5 x22 v27 v30 K (cpL x22 (a5.getD v27 [])) 0).bind fun x47=>iS K a0 a1 a3 a4 a5 x47
theorem w8 {K:Nat} {a0:Int} {a1:Int} {a2:Int} {a3:List Nat} {a4:List Int} {a5:List (List Rat)} {r:Int×(List Nat)×(List Int)×(List (List Rat))} (hF:iC K a0 a1 a2 a3 a4 a5=some r) {p0:Nat} {b4:Option Nat} {c5 n6:Nat} {b9:Option Nat} {c10 n11:Nat} {g14:List xO} {N15:Nat} (q7:a3.length=n6) (q12:a4.length=n11) (q16:a5.length=N15) (q17:nB g14 a5) (q18:∀k∈a3,k<N15):CtO Tryz.prog 114 ([⟨some p0,1,151,3,1,([pI .i64 a2]++[pO b4 n6 c5]++[pO b9 n11 c10])⟩,hO (cH g14) b4 c5 24 n6 a3,hO cI b9 c10 3 n11 a4]++jI cQ 44 g14 a5) [.vc (pP (some p0) 0),.vc (pI .i64 a0),.vc (pI .i64 a1)] (fun Ho q=>∃b1148 c1149 n1150 g1155 N1156,r.2.1.length=n1150∧r.2.2.1.length=n11∧r.2.2.2.length=N1156∧nB g1155 r.2.2.2∧(∀k∈r.2.1,k<N1156)∧Ho=([⟨some p0,1,151,3,1,([pI .i64 a2]++[pO b1148 n1150 c1149]++[pO b9 n11 c10])⟩,hO (cH g1155) b1148 c1149 24 n1150 r.2.1,hO cI b9 c10 3 n11 r.2.2.1]++jI cQ 44 g1155 r.2.2.2)∧q=.vc (pI .i64 r.1)):=by
 unfold iC at hF
 refine aJ Tryz.func114 rfl (by kernel_rfl) Tryz.ntmps114 rfl (fun w0 M0=>?_)
 obtain⟨v20,h21,hF⟩:=a8 hF
 refine go ?_ ?_
 refine aX (aA4 (C:=cQ) (xs:=(a5.getD v20 [])) (T:=44) rfl tyS24 (nD q17 q16 (q18 _ (bK h21)))) zU1 ?_
 obtain⟨x22,h23,hF⟩:=a8 hF
 refine tD (C:=cQ) rfl tyS24 rfl tyZ44q rfl h23 (fun b24=>?_)
 have hF:=r7 h21 hF
 refine go ?_ ?_
 refine aX (aSC 0 (4+v20) rfl tyS24 rfl rfl (aCO 4 rfl q17 q16 (q18 _ (bK h21))) (nD q17 q16 (q18 _ (bK h21))) rfl) zU2 ?_
 obtain⟨v30,h31,hF⟩:=a8 hF
 refine go ?_ ?_
 refine aX (l9 (C:=cQ) 0 rfl tyS24 rfl (aC5 rfl) (aV h31).1 (aV h31).2.1) zU2 ?_
 refine aX (r9 (k:=4) 0 rfl rfl h31 rfl (.agg tyA44) rfl) zU1 ?_
 refine aO rfl tyZ44q (fun b32=>?_)
 refine go ?_ ?_
 refine aX (aA4 (C:=cQ) (xs:=(cpL x22 (a5.getD v20 []))) (T:=44) rfl tyS24 (aC5 rfl)) zU1 ?_
 refine go ?_ ?_
 refine aQ (bY (fun H E=>∃(x47:List Rat),iS K a0 a1 a3 a4 a5 x47=some r∧x47.length=x22.length∧H=([hO cQ b24 x22.length 44 x22.length x47,⟨some p0,1,151,3,1,([pI .i64 a2]++[pO b4 n6 c5]++[pO b9 n11 c10])⟩,hO (cH g14) b4 c5 24 n6 a3,hO cI b9 c10 3 n11 a4]++jI cQ 44 g14 a5)∧E=[(0,.vc (pP (some p0) 0)),(1,.vc (pI .i64 a0)),(2,.vc (pI .i64 a1)),(7,.vc (pO b24 x22.length x22.length))]) ?_ (fun Jj54=>?_))
 ·rintro _ _ ⟨x47,hF,q51,rfl,rfl⟩
  unfold iS at hF
  refine aP (aN (aU (nC ?_)))
  refine aX (zC rfl) zU1 ?_
  refine aX (lN (off:=0) (k:=1) rfl tyF151_1) zU1 ?_
  refine aX (eV 1 1 rfl rfl rfl rfl (.one tyO62)) zU1 ?_
  refine nC ?_
  refine nC ?_
  have hF:=r7 h21 hF
  refine aX (l9 (C:=(cH g14)) 2 rfl tyS62 rfl q7 (aV h21).1 (aV h21).2.1) zU2 ?_
  obtain⟨x57,h58,hF⟩:=a8 hF
  refine aQg (show([hO cQ b24 x22.length 44 x22.length x47,⟨some p0,1,151,3,1,([pI .i64 a2]++[pO b4 n6 c5]++[pO b9 n11 c10])⟩,hO (cH (g14++[(b24,x22.length,x22.length)])) b4 c5 24 n6 a3,hO cI b9 c10 3 n11 a4]++jI cQ 44 g14 a5)=([hO cQ b24 x22.length 44 x22.length x47,⟨some p0,1,151,3,1,([pI .i64 a2]++[pO b4 n6 c5]++[pO b9 n11 c10])⟩,hO (cH g14) b4 c5 24 n6 a3,hO cI b9 c10 3 n11 a4]++jI cQ 44 g14 a5) from by rw [aJe (N:=a5.length) (b24,x22.length,x22.length) q17.1 (aHq q16 q18)]) ?_
  refine nZ (yT (C:=cH (g14++[(b24,x22.length,x22.length)])) (z':=a5.length) 2 rfl rfl h21 h58 tyO24.s (hq:=aIY (b24,x22.length,x22.length) q17.1)) zU2 ?_
  refine aFt (g:=(b24,x22.length,x22.length)) 0 4 rfl rfl rfl q17 ?_
  refine aPt 7 rfl (aNw (N:=a5.length) (b24,x22.length,x22.length) q17.1) ?_
  refine go ?_ ?_
  refine aQ (bY (fun H E=>∃(x71:List (List Rat)),iT K a0 a1 a4 x57 x71=some r∧x71.length=(N15+1)∧nB (g14++[(b24,x22.length,x22.length)]) x71∧H=([⟨some p0,1,151,3,1,([pI .i64 a2]++[pO b4 n6 c5]++[pO b9 n11 c10])⟩,hO (cH (g14++[(b24,x22.length,x22.length)])) b4 c5 24 n6 x57,hO cI b9 c10 3 n11 a4]++jI cQ 44 (g14++[(b24,x22.length,x22.length)]) x71)∧E=[(0,.vc (pP (some p0) 0)),(1,.vc (pI .i64 a0)),(2,.vc (pI .i64 a1))]) ?_ (fun Jj76=>?_))
  ·rintro _ _ ⟨x71,hF,q72,q73,rfl,rfl⟩
   unfold iT at hF
   obtain⟨v77,h78,hF⟩:=a8 hF
   have hF:=r7 h78 hF
   obtain⟨x81,h82,hF⟩:=a8 hF
   refine go ?_ ?_
   refine pU (pG ?_)
   obtain rfl:=oN hF
   exact aA0 (.inl rfl) Tryz.results114 (.tmp rfl .nil) rfl 3 [0,1,2] rfl rfl (by decide) ⟨b4,c5,n6,(g14++[(b24,x22.length,x22.length)]),(N15+1),(bL h58 q7),(bL h82 q12),q72,q73,(tS q18 h58 q16),rfl,rfl⟩
  obtain⟨x71',hL,hRl75⟩:=a8 hF
  refine hY (fun k a w=>∃(x66:List (List Rat)),∃(x70:Int),bH K a0 a1 a5 x57 k x66 x70=some x71'∧x66.length=(N15+1)∧nB (g14++[(b24,x22.length,x22.length)]) x66∧hs _ ([⟨some p0,1,151,3,1,([pI .i64 a2]++[pO b4 n6 c5]++[pO b9 n11 c10])⟩,hO (cH (g14++[(b24,x22.length,x22.length)])) b4 c5 24 n6 x57,hO cI b9 c10 3 n11 a4]++jI cQ 44 (g14++[(b24,x22.length,x22.length)]) x66) [(0,.vc (pP (some p0) 0)),(1,.vc (pI .i64 a0)),(2,.vc (pI .i64 a1)),(7,.vc (pO (kV (g14++[(b24,x22.length,x22.length)]) a5.length).1 (kV (g14++[(b24,x22.length,x22.length)]) a5.length).2.1 (kV (g14++[(b24,x22.length,x22.length)]) a5.length).2.2)),(62,.vc (pO b4 n6 c5)),(63,.vc (pI .i64 (x57.length:Int))),(64,.vc (pI .i64 x70))] a w) K (fun a w ⟨_,_,hF,_,_,_⟩=>by cases hF) (fun k a w ⟨x66,x70,hF,q67,q68,hh⟩=>iA ?_ hh) (fun a w hh=>⟨(a5++[x47]),0,hL,(aEX q16),(aAP q17 q51),cS 3 [0,1,2] rfl rfl (by decide) (by exact⟨rfl,rfl,rfl,rfl,rfl,rfl,rfl,trivial⟩) hh⟩)
  rw [bH.eq_2] at hF
  refine go ?_ ?_
  refine aL hF rfl (fun h84 hF=>?_) (fun h84 hF=>?_)
  ·refine go ?_ ?_
   refine aQ ?_
   obtain⟨v85,h86,v87,h88,hF⟩:=wK hF
   refine go ?_ ?_
   refine aX (l9 (3+v85) rfl tyS24 (aCO 3 rfl q68 q67 ((tS q18 h58 q16) _ (bK h86))) (nD q68 q67 ((tS q18 h58 q16) _ (bK h86))) (aV h88).1 (aV h88).2.1) zU2 ?_
   refine aX (r9 (k:=4) (3+v85) rfl (aCO 3 rfl q68 q67 ((tS q18 h58 q16) _ (bK h86))) h88 rfl (.agg tyA44) rfl) zU1 ?_
   refine aO rfl tyZ44q (fun b89=>?_)
   refine go ?_ ?_
   refine dC hF (fun h90 hF=>?_) (fun h90 hF=>?_)
   ·refine go ?_ ?_
    refine gV rfl ?_
    refine cU ?_
    obtain⟨v91,h92,hF⟩:=a8 hF
    refine go ?_ ?_
    exact aM (fun a w hh=>⟨x66,v91,hF,q67,q68,cS 4 [1,2,3] rfl rfl (by decide) (by exact⟨rfl,rfl,rfl,rfl,rfl,rfl,rfl,trivial⟩) hh⟩)
   obtain⟨v93,h94,hF⟩:=aY hF lA
   refine go ?_ ?_
   refine aL hF rfl (fun h95 hF=>?_) (fun h95 hF=>?_)
   ·refine cU ?_
    obtain⟨v96,h97,hF⟩:=a8 hF
    refine go ?_ ?_
    exact aM (fun a w hh=>⟨x66,v96,hF,q67,q68,cS 4 [1,2,3] rfl rfl (by decide) (by exact⟨rfl,rfl,rfl,rfl,rfl,rfl,rfl,trivial⟩) hh⟩)
   refine go ?_ ?_
   refine aX (aA4 (C:=cQ) (xs:=(x66.getD v85 [])) (T:=44) rfl tyS24 (nD q68 q67 ((tS q18 h58 q16) _ (bK h86)))) zU1 ?_
   refine go ?_ ?_
   refine aQ (bY (fun H E=>∃(x108:List (List Rat)),iM K x70 (bH K a0 a1 a5 x57 k) x108=some x71'∧x108.length=(N15+1)∧nB (g14++[(b24,x22.length,x22.length)]) x108∧H=([⟨some p0,1,151,3,1,([pI .i64 a2]++[pO b4 n6 c5]++[pO b9 n11 c10])⟩,hO (cH (g14++[(b24,x22.length,x22.length)])) b4 c5 24 n6 x57,hO cI b9 c10 3 n11 a4]++jI cQ 44 (g14++[(b24,x22.length,x22.length)]) x108)∧E=[(0,.vc (pP (some p0) 0)),(1,.vc (pI .i64 a0)),(2,.vc (pI .i64 a1)),(7,.vc (pO (kV (g14++[(b24,x22.length,x22.length)]) a5.length).1 (kV (g14++[(b24,x22.length,x22.length)]) a5.length).2.1 (kV (g14++[(b24,x22.length,x22.length)]) a5.length).2.2)),(62,.vc (pO b4 n6 c5)),(63,.vc (pI .i64 (x57.length:Int))),(64,.vc (pI .i64 x70)),(77,.va (eQ v87)),(78,.vc (pI .i64 v93)),(79,.vc (pB (v93==0)))]) ?_ (fun Jj113=>?_))
   ·rintro _ _ ⟨x108,hF,q109,q110,rfl,rfl⟩
    unfold iM at hF
    obtain⟨v114,h115,hF⟩:=a8 hF
    refine go ?_ ?_
    exact aM (fun a w hh=>⟨x108,v114,hF,q109,q110,cS 3 [0,1,2] rfl rfl (by decide) (by exact⟨rfl,rfl,rfl,rfl,rfl,rfl,rfl,trivial⟩) hh⟩)
   obtain⟨x108',hL,hRl112⟩:=a8 hF
   refine hY (fun k a w=>∃(x103:List (List Rat)),∃(x107:Int),cY K a5 x66 v85 v87 k x103 x107=some x108'∧x103.length=(N15+1)∧nB (g14++[(b24,x22.length,x22.length)]) x103∧hs _ ([⟨some b89,1,44,4,1,(eQ v87)⟩,⟨some p0,1,151,3,1,([pI .i64 a2]++[pO b4 n6 c5]++[pO b9 n11 c10])⟩,hO (cH (g14++[(b24,x22.length,x22.length)])) b4 c5 24 n6 x57,hO cI b9 c10 3 n11 a4]++jI cQ 44 (g14++[(b24,x22.length,x22.length)]) x103) [(0,.vc (pP (some p0) 0)),(1,.vc (pI .i64 a0)),(2,.vc (pI .i64 a1)),(7,.vc (pO (kV (g14++[(b24,x22.length,x22.length)]) a5.length).1 (kV (g14++[(b24,x22.length,x22.length)]) a5.length).2.1 (kV (g14++[(b24,x22.length,x22.length)]) a5.length).2.2)),(11,.vc (pO (kV (g14++[(b24,x22.length,x22.length)]) v85).1 (kV (g14++[(b24,x22.length,x22.length)]) v85).2.1 (kV (g14++[(b24,x22.length,x22.length)]) v85).2.2)),(12,.vc (pP (some b89) 0)),(62,.vc (pO b4 n6 c5)),(63,.vc (pI .i64 (x57.length:Int))),(64,.vc (pI .i64 x70)),(77,.va (eQ v87)),(78,.vc (pI .i64 v93)),(79,.vc (pB (v93==0))),(82,.vc (pI .i64 ((x66.getD v85 []).length:Int))),(83,.vc (pI .i64 x107))] a w) K (fun a w ⟨_,_,hF,_,_,_⟩=>by cases hF) (fun k a w ⟨x103,x107,hF,q104,q105,hh⟩=>iA ?_ hh) (fun a w hh=>⟨x66,0,hL,q67,q68,cS 4 [0,1,2,3] rfl rfl (by decide) (by exact⟨rfl,rfl,rfl,rfl,rfl,rfl,rfl,rfl,rfl,rfl,rfl,rfl,rfl,rfl,trivial⟩) hh⟩)
   rw [cY.eq_2] at hF
   refine go ?_ ?_
   refine aL hF rfl (fun h116 hF=>?_) (fun h116 hF=>?_)
   ·refine go ?_ ?_
    refine aQ ?_
    obtain⟨v119,h120,v121,h122,hF⟩:=wK hF
    obtain⟨v123,h124,hF⟩:=aY hF s7
    obtain⟨v125,h126,hF⟩:=aY hF aFe
    have hF:=r7 h120 hF
    refine go ?_ ?_
    refine jJ [0,0,0,0,12,28,0,0,0,384,896,1984,4092,8191,16383] 14 1 [.v (.vc (pO (kV (g14++[(b24,x22.length,x22.length)]) v85).1 (kV (g14++[(b24,x22.length,x22.length)]) v85).2.1 (kV (g14++[(b24,x22.length,x22.length)]) v85).2.2)),.v (.vc (pI .i64 x107)),.v (.vc (pO (kV (g14++[(b24,x22.length,x22.length)]) v85).1 (kV (g14++[(b24,x22.length,x22.length)]) v85).2.1 (kV (g14++[(b24,x22.length,x22.length)]) v85).2.2)),.v (.vc (pI .i64 x107)),.v (.vc (pE (kV (g14++[(b24,x22.length,x22.length)]) v85).1 x107 cQ.n 0)),.v (.va (eQ v119)),.v (.va (eQ v87)),.v (.vc (pO (kV (g14++[(b24,x22.length,x22.length)]) a5.length).1 (kV (g14++[(b24,x22.length,x22.length)]) a5.length).2.1 (kV (g14++[(b24,x22.length,x22.length)]) a5.length).2.2)),.v (.vc (pI .i64 x107)),.v (.vc (pE (kV (g14++[(b24,x22.length,x22.length)]) a5.length).1 x107 cQ.n 0)),.v (.va (eQ v121)),.v (.va (eQ v123)),.v (.va (eQ v125)),.v (.vc (pE (kV (g14++[(b24,x22.length,x22.length)]) v85).1 x107 cQ.n 0))] bA ⟨d0 (bP (.inl rfl)) zU1,d0 (bP (.inl rfl)) zU1,d0 (bP (.inl rfl)) zU1,d0 (bP (.inl rfl)) zU1,d0 (l9 (4+v85) rfl tyS24 (l8 4 rfl q105 q104 ((tS q18 h58 q16) _ (bK h86))) (nD q105 q104 ((tS q18 h58 q16) _ (bK h86))) (aV h120).1 (aV h120).2.1) zU2,d0 (r9 (k:=4) (4+v85) rfl (l8 4 rfl q105 q104 ((tS q18 h58 q16) _ (bK h86))) h120 rfl (.agg tyA44) rfl) zU1,d0 (eV 0 4 rfl rfl rfl rfl (.agg tyA44)) zU1,d0 (bP (.inl rfl)) zU1,d0 (bP (.inl rfl)) zU1,d0 (l9 (4+a5.length) rfl tyS24 (l8 4 rfl q105 q104 (aG6 q16)) (nD q105 q104 (aG6 q16)) (aV h122).1 (aV h122).2.1) zU2,d0 (r9 (k:=4) (4+a5.length) rfl (l8 4 rfl q105 q104 (aG6 q16)) h122 rfl (.agg tyA44) rfl) zU1,d0 (bV rfl h124 rfl) zU2,d0 (bV rfl h126 rfl) zU2,d0 (l9 (4+v85) rfl tyS24 (l8 4 rfl q105 q104 ((tS q18 h58 q16) _ (bK h86))) (nD q105 q104 ((tS q18 h58 q16) _ (bK h86))) (aV h120).1 (aV h120).2.1) zU2,trivial⟩ (fun bs118 G117=>?_)
    obtain⟨x129,h130,hF⟩:=a8 hF
    refine nZ (yT (H':=([⟨some b89,1,44,4,1,(eQ v87)⟩,⟨some p0,1,151,3,1,([pI .i64 a2]++[pO b4 n6 c5]++[pO b9 n11 c10])⟩,hO (cH (g14++[(b24,x22.length,x22.length)])) b4 c5 24 n6 x57,hO cI b9 c10 3 n11 a4]++jI cQ 44 (g14++[(b24,x22.length,x22.length)]) (x103.set v85 x129))) (4+v85) rfl (aCO 4 rfl q105 q104 ((tS q18 h58 q16) _ (bK h86))) h120 h130 tyA44.s (hH:=stN 4 rfl q105 q104 ((tS q18 h58 q16) _ (bK h86)))) zU2 ?_
    obtain⟨v132,h133,hF⟩:=a8 hF
    refine go ?_ ?_
    exact aM (fun a w hh=>⟨(x103.set v85 x129),v132,hF,(vM q104),(yY q105 q104 ((tS q18 h58 q16) _ (bK h86)) (bL h130 rfl)),cS 4 [0,1,2,3] rfl rfl (by decide) (by exact⟨rfl,rfl,rfl,rfl,rfl,rfl,rfl,rfl,rfl,rfl,rfl,rfl,rfl,rfl,trivial⟩) hh⟩)
   refine cU ?_
   obtain rfl:=oN hF
   exact qW Jj113 ⟨x103,hRl112,q104,q105,rfl,rfl⟩ 4 [1,2,3] rfl rfl ⟨rfl,rfl,rfl,rfl,rfl,rfl,rfl,rfl,rfl,rfl,trivial⟩
  refine cU ?_
  obtain rfl:=oN hF
  exact qW Jj76 ⟨x66,hRl75,q67,q68,rfl,rfl⟩ 3 [0,1,2] rfl rfl ⟨rfl,rfl,rfl,trivial⟩
 obtain⟨x47',hL,hRl53⟩:=a8 hF
 refine hY (fun k a w=>∃(x40:List Rat),∃(x46:Int),dI K a5 x22 v20 v30 k x40 x46=some x47'∧x40.length=x22.length∧hs _ ([⟨some b32,1,44,4,1,(eQ v30)⟩,hO cQ b24 x22.length 44 x22.length x40,⟨some p0,1,151,3,1,([pI .i64 a2]++[pO b4 n6 c5]++[pO b9 n11 c10])⟩,hO (cH g14) b4 c5 24 n6 a3,hO cI b9 c10 3 n11 a4]++jI cQ 44 g14 a5) [(0,.vc (pP (some p0) 0)),(1,.vc (pI .i64 a0)),(2,.vc (pI .i64 a1)),(7,.vc (pO b24 x22.length x22.length)),(8,.vc (pP (some b32) 0)),(38,.vc (pI .i64 ((cpL x22 (a5.getD v20 [])).length:Int))),(39,.vc (pI .i64 x46))] a w) K (fun a w ⟨_,_,hF,_,_⟩=>by cases hF) (fun k a w ⟨x40,x46,hF,q44,hh⟩=>iA ?_ hh) (fun a w hh=>⟨(cpL x22 (a5.getD v20 [])),0,hL,(aC5 rfl),cS 5 [0,1,2,3,4] rfl rfl (by decide) (by exact⟨rfl,rfl,rfl,rfl,rfl,rfl,rfl,trivial⟩) hh⟩)
 rw [dI.eq_2] at hF
 refine go ?_ ?_
 refine aL hF rfl (fun h134 hF=>?_) (fun h134 hF=>?_)
 ·refine go ?_ ?_
  refine aQ ?_
  obtain⟨v137,h138,hF⟩:=a8 hF
  obtain⟨v139,h140,hF⟩:=aY hF aCA
  have hF:=r7 h138 hF
  refine go ?_ ?_
  refine dr [0,0,0,0,12,28,0,124,255,511] 9 1 ?_ (fun bs136 G135=>?_)
  obtain⟨x143,h144,v146,h147,hF⟩:=wK hF
  refine go ?_ ?_
  exact aM (fun a w hh=>⟨x143,v146,hF,(bL h144 q44),cS 5 [0,1,2,3,4] rfl rfl (by decide) (by exact⟨rfl,rfl,rfl,rfl,rfl,rfl,rfl,trivial⟩) hh⟩)
 refine cU ?_
 obtain rfl:=oN hF
 exact qW Jj54 ⟨x40,hRl53,q44,rfl,rfl⟩ 5 [1,2,3,4] rfl rfl ⟨rfl,rfl,rfl,rfl,trivial⟩
def sW (K:Nat):Option (aT×Int):=
 none
def oP (K:Nat) (x86:Int) (v90:Int×(List Nat)×(List Int)×(List (List Rat))) (x116:Int) (recl87:(List Nat)→(List Int)→(List (List Rat))→Int→Int→Int→Option (LR (aT×Int) Unit)) (x122:Int):Option (LR (aT×Int) Unit):=
 bif(decide (x122<0)) then(some (.ret ((⟨([]:List Rat),([]:List Rat),0⟩:aT),15))) else((aS (x86+1)).bind fun v126=>recl87 v90.2.1 v90.2.2.1 v90.2.2.2 x122 x116 v126)
def dR (K:Nat) (v6:Int×(List Nat)×(List Int)×(List (List Rat))) (v90:Int×(List Nat)×(List Int)×(List (List Rat))) (x116:Int):Nat→Int→Int→Option Int
 |0,_,_=>none
 |k+1,x120,x121=>bif(decide (x121<(v90.2.1.length:Int))) then((bT v90.2.1 x121).bind fun v129=>(bT (v90.2.2.2.getD v129 []) x116).bind fun v133=>(uI v133).bind fun v135=>bif(decide (0<v135)) then(bif(decide (x120<0)) then((aS (x121+1)).bind fun v139=>dR K v6 v90 x116 k x121 v139) else((bT (v90.2.2.2.getD v129 []) x116).bind fun v141=>(bT v90.2.1 x120).bind fun v143=>(bT (v90.2.2.2.getD v143 []) x116).bind fun v145=>(eI K x121 v141 x120 v145 v6.1 v90.2.1 v90.2.2.1 v90.2.2.2).bind fun v147=>bif v147 then((aS (x121+1)).bind fun v150=>dR K v6 v90 x116 k x121 v150) else((aS (x121+1)).bind fun v152=>dR K v6 v90 x116 k x120 v152))) else((aS (x121+1)).bind fun v154=>dR K v6 v90 x116 k x120 v154)) else(some x120)
def jK (K:Nat) (v6:Int×(List Nat)×(List Int)×(List (List Rat))) (x86:Int) (v90:Int×(List Nat)×(List Int)×(List (List Rat))) (recl87:(List Nat)→(List Int)→(List (List Rat))→Int→Int→Int→Option (LR (aT×Int) Unit)) (x116:Int):Option (LR (aT×Int) Unit):=
 (dR K v6 v90 x116 K (-1) 0).bind fun x122=>oP K x86 v90 x116 recl87 x122
def dL (K:Nat) (a2:Int) (v6:Int×(List Nat)×(List Int)×(List (List Rat))):Nat→(List Nat)→(List Int)→(List (List Rat))→Int→Int→Int→Option (LR (aT×Int) Unit)
 |0,_,_,_,_,_,_=>none
 |k+1,x66,x72,x78,x84,x85,x86=>bif(x86==a2) then(some (.ret ((⟨([]:List Rat),([]:List Rat),0⟩:aT),16))) else((iC K x84 x85 v6.1 x66 x72 x78).bind fun v90=>(aS (2*v6.1)).bind fun v105=>bif(v90.1==v105) then((fB K v6.1 v90.2.1 v90.2.2.1 v90.2.2.2).bind fun v108=>(aS (x86+1)).bind fun v111=>some (.ret ((⟨v108.z,v108.w,v111⟩:aT),0))) else((aS (v90.1+v6.1)).bind fun v113=>bif(decide (v6.1≤v90.1)) then((aS (v90.1-v6.1)).bind fun v157=>jK K v6 x86 v90 (dL K a2 v6 k) v157) else(jK K v6 x86 v90 (dL K a2 v6 k) v113)))
def pZ (K:Nat) (a2:Int) (v6:Int×(List Nat)×(List Int)×(List (List Rat))) (x40:Int):Option (aT×Int):=
 (aS (2*v6.1)).bind fun v43=>(dL K a2 v6 K v6.2.1 v6.2.2.1 v6.2.2.2 x40 v43 0).bind fun o=>match o with| .ret r=>some r| .go _=>sW K
def gB (K:Nat) (v6:Int×(List Nat)×(List Int)×(List (List Rat))) (v33:Rat):Nat→Int→Int→Option Int
 |0,_,_=>none
 |k+1,x38,x39=>bif(decide (x39<v6.1)) then((eI K x39 v33 x38 v33 v6.1 v6.2.1 v6.2.2.1 v6.2.2.2).bind fun v160=>bif v160 then((aS (x39+1)).bind fun v163=>gB K v6 v33 k x39 v163) else((aS (x39+1)).bind fun v165=>gB K v6 v33 k x38 v165)) else(some x38)
def nV (K:Nat) (a0:List (List Rat)) (a1:List Rat) (a2:Int):Option (aT×Int):=
 (qJ K a0 a1).bind fun v2=>bif(!v2) then(some ((⟨([]:List Rat),([]:List Rat),0⟩:aT),1)) else(bif(decide (a2<0)) then(some ((⟨([]:List Rat),([]:List Rat),0⟩:aT),1)) else((nO K a0 a1).bind fun v6=>(nI K a1).bind fun v28=>bif(!v28) then((fB K v6.1 v6.2.1 v6.2.2.1 v6.2.2.2).bind fun v31=>some (v31,0)) else((zK 1 1).bind fun v33=>(gB K v6 v33 K 0 0).bind fun x40=>pZ K a2 v6 x40)))
theorem aB5 {K:Nat} {a0:List (List Rat)} {a1:List Rat} {a2:Int} {r:aT×Int} (hF:nV K a0 a1 a2=some r):Ct Tryz.prog 41 [.vc (pS (yP cQ) a0),.vc (pS cQ a1),.vc (pI .i64 a2)] (.t2 (.va (aT.enc r.1)) (.vc (pI .i64 r.2))):=by
 unfold nV at hF
 refine aJ Tryz.func41 rfl (by kernel_rfl) Tryz.ntmps41 rfl (fun w0 M0=>?_)
 refine aN (aU (aO rfl tyZ68q (fun b1=>?_)))
 obtain⟨v2,h3,hF⟩:=aY hF aB2
 refine go ?_ ?_
 refine dC hF (fun h4 hF=>?_) (fun h4 hF=>?_)
 ·refine go ?_ ?_
  refine gV rfl ?_
  refine aN (aU (aX (cR (is:=[]) (xs:=[]) (ps:=[]) rfl tyB68q rfl rfl trivial rfl) trivial ?_))
  exact bQ
 refine go ?_ ?_
 refine aL hF rfl (fun h5 hF=>?_) (fun h5 hF=>?_)
 ·refine aN (aU (aX (cR (is:=[]) (xs:=[]) (ps:=[]) rfl tyB68q rfl rfl trivial rfl) trivial ?_))
  exact bQ
 obtain⟨v6,h7,hF⟩:=a8 hF
 refine go ?_ ?_
 refine aD6 [] [0] rfl (aAo h7) zU2 rfl rfl (by decide) ?_
 rintro _ _ ⟨b8,b12,c13,n14,b17,c18,n19,g22,N23,q15,q20,q24,q25,q26,rfl,rfl⟩
 refine tR (rW [⟨some b8,1,151,3,1,([pI .i64 v6.1]++[pO b12 n14 c13]++[pO b17 n19 c18])⟩,hO (cH g22) b12 c13 24 n14 v6.2.1,hO cI b17 c18 3 n19 v6.2.2.1] (jI cQ 44 g22 v6.2.2.2) [⟨some b1,1,68,3,1,([pS cQ ([]:List Rat)]++[pS cQ ([]:List Rat)]++[pI .i64 0])⟩]) ?_
 obtain⟨v28,h29,hF⟩:=aY hF aA1
 refine go ?_ ?_
 refine aL hF rfl (fun h30 hF=>?_) (fun h30 hF=>?_)
 ·obtain⟨v31,h32,hF⟩:=a8 hF
  refine go ?_ ?_
  refine aEb 4 [0,1,2] [3] rfl (rP h32 q15 q20 q24 q25 q26) zU1 rfl rfl rfl (by decide) ?_
  rintro _ _ ⟨rfl,rfl⟩
  refine tR (rW [⟨some b8,1,151,3,1,([pI .i64 v6.1]++[pO b12 n14 c13]++[pO b17 n19 c18])⟩,hO (cH g22) b12 c13 24 n14 v6.2.1,hO cI b17 c18 3 n19 v6.2.2.1] (jI cQ 44 g22 v6.2.2.2) [⟨some b1,1,68,3,1,([pS cQ ([]:List Rat)]++[pS cQ ([]:List Rat)]++[pI .i64 0])⟩]) ?_
  exact bQ
 obtain⟨v33,h34,hF⟩:=aY hF aAv
 refine go ?_ ?_
 refine aO rfl tyZ44q (fun b35=>?_)
 refine go ?_ ?_
 refine aQ (bY (fun H E=>∃(x40:Int),pZ K a2 v6 x40=some r∧H=([⟨some b8,1,151,3,1,([pI .i64 v6.1]++[pO b12 n14 c13]++[pO b17 n19 c18])⟩,hO (cH g22) b12 c13 24 n14 v6.2.1,hO cI b17 c18 3 n19 v6.2.2.1,⟨some b1,1,68,3,1,([pS cQ ([]:List Rat)]++[pS cQ ([]:List Rat)]++[pI .i64 0])⟩]++jI cQ 44 g22 v6.2.2.2)∧E=[(2,.vc (pI .i64 a2)),(6,.vc (pP (some b1) 0)),(8,.vc (pP (some b8) 0)),(10,.vc (pI .i64 x40))]) ?_ (fun Jj42=>?_))
 ·rintro _ _ ⟨x40,hF,rfl,rfl⟩
  unfold pZ at hF
  obtain⟨v43,h44,hF⟩:=a8 hF
  refine go ?_ ?_
  refine aQ (bY (fun H E=>sW K=some r∧H=[]∧E=[]) ?_ (fun Jj88=>?_))
  ·rintro _ _ ⟨hF,rfl,rfl⟩
   unfold sW at hF
   cases hF
  obtain⟨ol87,hL,hRl87⟩:=a8 hF
  refine hY (fun k a w=>∃(x66:List Nat),∃(x72:List Int),∃(x78:List (List Rat)),∃(x84:Int),∃(x85:Int),∃(x86:Int),∃(b67:Option Nat),∃(c68:Nat),∃(n69:Nat),∃(g79:List xO),∃(N80:Nat),dL K a2 v6 k x66 x72 x78 x84 x85 x86=some ol87∧x66.length=n69∧x72.length=n19∧x78.length=N80∧nB g79 x78∧(∀k∈x66,k<N80)∧hs _ ([⟨some b8,1,151,3,1,([pI .i64 v6.1]++[pO b67 n69 c68]++[pO b17 n19 c18])⟩,hO (cH g79) b67 c68 24 n69 x66,hO cI b17 c18 3 n19 x72,⟨some b1,1,68,3,1,([pS cQ ([]:List Rat)]++[pS cQ ([]:List Rat)]++[pI .i64 0])⟩]++jI cQ 44 g79 x78) [(2,.vc (pI .i64 a2)),(6,.vc (pP (some b1) 0)),(8,.vc (pP (some b8) 0)),(10,.vc (pI .i64 x84)),(12,.vc (pI .i64 x85)),(13,.vc (pI .i64 x86))] a w) K (fun a w ⟨_,_,_,_,_,_,_,_,_,_,_,hF,_,_,_,_,_,_⟩=>by cases hF) (fun k a w ⟨x66,x72,x78,x84,x85,x86,b67,c68,n69,g79,N80,hF,q70,q76,q81,q82,q83,hh⟩=>iA ?_ hh) (fun a w hh=>⟨v6.2.1,v6.2.2.1,v6.2.2.2,x40,v43,0,b12,c13,n14,g22,N23,hL,q15,q20,q24,q25,q26,cS 4 [0,1,2,3] rfl rfl (by decide) (by exact⟨rfl,rfl,rfl,rfl,rfl,rfl,trivial⟩) hh⟩)
  rw [dL.eq_2] at hF
  refine aN (aQ (go ?_ ?_))
  refine aL hF rfl (fun h89 hF=>?_) (fun h89 hF=>?_)
  ·refine aN (aU (aX (cR (is:=[]) (xs:=[]) (ps:=[]) rfl tyB68q rfl rfl trivial rfl) trivial ?_))
   exact bQ
  obtain⟨v90,h91,hF⟩:=a8 hF
  refine go ?_ ?_
  refine aEb 4 [0,1,2] [3] rfl (w8 h91 q70 q76 q81 q82 q83) ⟨rfl,rfl,rfl,trivial⟩ rfl rfl rfl (by decide) ?_
  rintro _ _ ⟨b92,c93,n94,g99,N100,q95,q97,q101,q102,q103,rfl,rfl⟩
  refine tR (rW [⟨some b8,1,151,3,1,([pI .i64 v6.1]++[pO b92 n94 c93]++[pO b17 n19 c18])⟩,hO (cH g99) b92 c93 24 n94 v90.2.1,hO cI b17 c18 3 n19 v90.2.2.1] (jI cQ 44 g99 v90.2.2.2) [⟨some b1,1,68,3,1,([pS cQ ([]:List Rat)]++[pS cQ ([]:List Rat)]++[pI .i64 0])⟩]) ?_
  have hF:=r7 h44 hF
  refine go ?_ ?_
  refine aL hF rfl (fun h107 hF=>?_) (fun h107 hF=>?_)
  ·obtain⟨v108,h109,hF⟩:=a8 hF
   refine go ?_ ?_
   refine aEb 4 [0,1,2] [3] rfl (rP h109 q95 q97 q101 q102 q103) zU1 rfl rfl rfl (by decide) ?_
   rintro _ _ ⟨rfl,rfl⟩
   refine tR (rW [⟨some b8,1,151,3,1,([pI .i64 v6.1]++[pO b92 n94 c93]++[pO b17 n19 c18])⟩,hO (cH g99) b92 c93 24 n94 v90.2.1,hO cI b17 c18 3 n19 v90.2.2.1] (jI cQ 44 g99 v90.2.2.2) [⟨some b1,1,68,3,1,([pS cQ ([]:List Rat)]++[pS cQ ([]:List Rat)]++[pI .i64 0])⟩]) ?_
   refine aO rfl tyZ68q (fun b110=>?_)
   obtain⟨v111,h112,hF⟩:=a8 hF
   exact bQ
  refine iR (aP (aN (aU (nC ?_))))
  refine nC ?_
  refine aX (zC rfl) zU1 ?_
  refine aX (lN (off:=0) (k:=0) rfl tyF151_0) zU1 ?_
  refine aX (eV 0 1 rfl rfl rfl rfl (.one tyO3)) zU1 ?_
  obtain⟨v113,h114,hF⟩:=a8 hF
  refine aX (yB rfl h114) zU2 ?_
  refine aAm ?_
  refine bI (aP (aN (uU (fun H E=>∃(x116:Int),jK K v6 x86 v90 (dL K a2 v6 k) x116=some ol87∧H=([⟨some b8,1,151,3,1,([pI .i64 v6.1]++[pO b92 n94 c93]++[pO b17 n19 c18])⟩,hO (cH g99) b92 c93 24 n94 v90.2.1,hO cI b17 c18 3 n19 v90.2.2.1,⟨some b1,1,68,3,1,([pS cQ ([]:List Rat)]++[pS cQ ([]:List Rat)]++[pI .i64 0])⟩]++jI cQ 44 g99 v90.2.2.2)∧E=[(2,.vc (pI .i64 a2)),(6,.vc (pP (some b1) 0)),(8,.vc (pP (some b8) 0)),(12,.vc (pI .i64 x116)),(13,.vc (pI .i64 x86))]) ?_ (fun Jj117=>?_))))
  ·rintro _ _ ⟨x116,hF,rfl,rfl⟩
   unfold jK at hF
   refine go ?_ ?_
   refine aQ (bY (fun H E=>∃(x122:Int),oP K x86 v90 x116 (dL K a2 v6 k) x122=some ol87∧H=([⟨some b8,1,151,3,1,([pI .i64 v6.1]++[pO b92 n94 c93]++[pO b17 n19 c18])⟩,hO (cH g99) b92 c93 24 n94 v90.2.1,hO cI b17 c18 3 n19 v90.2.2.1,⟨some b1,1,68,3,1,([pS cQ ([]:List Rat)]++[pS cQ ([]:List Rat)]++[pI .i64 0])⟩]++jI cQ 44 g99 v90.2.2.2)∧E=[(2,.vc (pI .i64 a2)),(6,.vc (pP (some b1) 0)),(8,.vc (pP (some b8) 0)),(10,.vc (pI .i64 x122)),(12,.vc (pI .i64 x116)),(13,.vc (pI .i64 x86))]) ?_ (fun Jj124=>?_))
   ·rintro _ _ ⟨x122,hF,rfl,rfl⟩
    unfold oP at hF
    refine go ?_ ?_
    refine aL hF rfl (fun h125 hF=>?_) (fun h125 hF=>?_)
    ·refine aN (aU (aX (cR (is:=[]) (xs:=[]) (ps:=[]) rfl tyB68q rfl rfl trivial rfl) trivial ?_))
     exact bQ
    obtain⟨v126,h127,hF⟩:=a8 hF
    refine go ?_ ?_
    exact aM (fun a w hh=>⟨v90.2.1,v90.2.2.1,v90.2.2.2,x122,x116,v126,b92,c93,n94,g99,N100,hF,q95,q97,q101,q102,q103,cS 4 [0,1,2,3] rfl rfl (by decide) (by exact⟨rfl,rfl,rfl,rfl,rfl,rfl,trivial⟩) hh⟩)
   obtain⟨x122',hL,hRl123⟩:=a8 hF
   refine hY (fun k a w=>∃(x120:Int),∃(x121:Int),dR K v6 v90 x116 k x120 x121=some x122'∧hs _ ([⟨some b8,1,151,3,1,([pI .i64 v6.1]++[pO b92 n94 c93]++[pO b17 n19 c18])⟩,hO (cH g99) b92 c93 24 n94 v90.2.1,hO cI b17 c18 3 n19 v90.2.2.1,⟨some b1,1,68,3,1,([pS cQ ([]:List Rat)]++[pS cQ ([]:List Rat)]++[pI .i64 0])⟩]++jI cQ 44 g99 v90.2.2.2) [(2,.vc (pI .i64 a2)),(6,.vc (pP (some b1) 0)),(8,.vc (pP (some b8) 0)),(10,.vc (pI .i64 x120)),(12,.vc (pI .i64 x116)),(13,.vc (pI .i64 x86)),(100,.vc (pO b92 n94 c93)),(101,.vc (pI .i64 (v90.2.1.length:Int))),(102,.vc (pI .i64 x121))] a w) K (fun a w ⟨_,_,hF,_⟩=>by cases hF) (fun k a w ⟨x120,x121,hF,hh⟩=>iA ?_ hh) (fun a w hh=>⟨(-1),0,hL,cS 4 [0,1,2,3] rfl rfl (by decide) (by exact⟨rfl,rfl,rfl,rfl,rfl,rfl,rfl,rfl,rfl,trivial⟩) hh⟩)
   rw [dR.eq_2] at hF
   refine go ?_ ?_
   refine aL hF rfl (fun h128 hF=>?_) (fun h128 hF=>?_)
   ·refine go ?_ ?_
    refine aQ ?_
    obtain⟨v129,h130,v133,h134,hF⟩:=wK hF
    obtain⟨v135,h136,hF⟩:=aY hF lA
    refine go ?_ ?_
    rcases Bool.eq_false_or_eq_true (decide (0<v135)) with h137|h137
    ·have hF:=sR h137 hF
     rcases Bool.eq_false_or_eq_true (decide (x120<0)) with h138|h138
     ·have hF:=sR h138 hF
      refine jJ (0::0::3::7::15::31::63::127::255::511::1023::1023::1023::1023::13311::29695::1023::1023::132095::394239::918527::1023::4064255::8258559::1023::33424383::66978815::134217727::268435455::536870911::[]) 27 3 (.v (.vc (pO (kV g99 v129).1 (kV g99 v129).2.1 (kV g99 v129).2.2))::.v (.vc (pI .i64 x116))::.v (.vc (pE (kV g99 v129).1 x116 cQ.n 0))::.v (.va (eQ v133))::.v (.vc (pI .i64 v135))::.v (.vc (pB (decide (0<v135))))::.v (.vc (pB true))::.v (.vc (pI .i64 x120))::.v (.vc (pB (decide (x120<0))))::.v (.vc (pB true))::.v .un::.v .un::.v .un::.v .un::.v .un::.v .un::.v .un::.v .un::.v .un::.v .un::.v .un::.v .un::.v .un::.v .un::.v .un::.v .un::.v .un::[]) bA ⟨d0 (bP (.inl rfl)) zU1,d0 (bP (.inl rfl)) zU1,d0 (l9 (4+v129) rfl tyS24 (l8 4 rfl q102 q101 (q103 _ (bK h130))) (nD q102 q101 (q103 _ (bK h130))) (aV h134).1 (aV h134).2.1) zU2,d0 (r9 (k:=4) (4+v129) rfl (l8 4 rfl q102 q101 (q103 _ (bK h130))) h134 rfl (.agg tyA44) rfl) zU1,d0 (bV rfl h136 rfl) zU1,d0 (aLF rfl) ⟨rfl,lC _ _,trivial⟩,d0 (l6 (bP (.inl rfl)) h137) zU1,g0 (bP (.inl rfl)) zU1,g0 (aLD rfl) ⟨rfl,lC _ _,trivial⟩,g0 (l6 (bP (.inl rfl)) h138) zU1,⟨rfl,.skipN⟩,⟨rfl,.skipN⟩,⟨rfl,.skipN⟩,⟨rfl,.skipN⟩,⟨rfl,.skipN⟩,⟨rfl,.skipN⟩,⟨rfl,.skipN⟩,⟨rfl,.skipN⟩,⟨rfl,.skipN⟩,⟨rfl,.skipN⟩,⟨rfl,.skipN⟩,⟨rfl,.skipN⟩,⟨rfl,.skipN⟩,⟨rfl,.skipN⟩,⟨rfl,.skipN⟩,⟨rfl,.skipN⟩,⟨rfl,.skipN⟩,trivial⟩ (fun bs132 G131=>?_)
      refine go ?_ ?_
      refine gV rfl ?_
      obtain⟨v139,h140,hF⟩:=a8 hF
      refine go ?_ ?_
      exact aM (fun a w hh=>⟨x121,v139,hF,cS 4 [0,1,2,3] rfl rfl (by decide) (by exact⟨rfl,rfl,rfl,rfl,rfl,rfl,rfl,rfl,rfl,trivial⟩) hh⟩)
     have hF:=sP h138 hF
     have hF:=r7 h134 hF
     obtain⟨v143,h144,hF⟩:=a8 hF
     obtain⟨v145,h146,hF⟩:=a8 hF
     refine jJ (0::0::3::7::15::31::63::127::255::511::1023::1023::1023::1023::13311::29695::1023::1023::132095::394239::918527::1023::4064255::8258559::1023::33424383::66978815::134217727::268435455::536870911::[]) 27 3 (.v (.vc (pO (kV g99 v129).1 (kV g99 v129).2.1 (kV g99 v129).2.2))::.v (.vc (pI .i64 x116))::.v (.vc (pE (kV g99 v129).1 x116 cQ.n 0))::.v (.va (eQ v133))::.v (.vc (pI .i64 v135))::.v (.vc (pB (decide (0<v135))))::.v (.vc (pB true))::.v (.vc (pI .i64 x120))::.v (.vc (pB (decide (x120<0))))::.v (.vc (pB false))::.v (.vc (pP (some b8) 0))::.v (.vc (pI .i64 x121))::.v (.vc (pO (kV g99 v129).1 (kV g99 v129).2.1 (kV g99 v129).2.2))::.v (.vc (pI .i64 x116))::.v (.vc (pE (kV g99 v129).1 x116 cQ.n 0))::.v (.va (eQ v133))::.v (.vc (pI .i64 x120))::.v (.vc (pP (some b8) 0))::.v (.vc (pP (some b8) 0))::.v (.vc (pP (some b8) 1))::.v (.vc (pO b92 n94 c93))::.v (.vc (pI .i64 x120))::.v (.vc (pE b92 x120 (cH g99).n 0))::.v (.vc (pO (kV g99 v143).1 (kV g99 v143).2.1 (kV g99 v143).2.2))::.v (.vc (pI .i64 x116))::.v (.vc (pE (kV g99 v143).1 x116 cQ.n 0))::.v (.va (eQ v145))::[]) bA ⟨d0 (bP (.inl rfl)) zU1,d0 (bP (.inl rfl)) zU1,d0 (l9 (4+v129) rfl tyS24 (l8 4 rfl q102 q101 (q103 _ (bK h130))) (nD q102 q101 (q103 _ (bK h130))) (aV h134).1 (aV h134).2.1) zU2,d0 (r9 (k:=4) (4+v129) rfl (l8 4 rfl q102 q101 (q103 _ (bK h130))) h134 rfl (.agg tyA44) rfl) zU1,d0 (bV rfl h136 rfl) zU1,d0 (aLF rfl) ⟨rfl,lC _ _,trivial⟩,d0 (l6 (bP (.inl rfl)) h137) zU1,g0 (bP (.inl rfl)) zU1,g0 (aLD rfl) ⟨rfl,lC _ _,trivial⟩,g0 (l6 (bP (.inl rfl)) h138) zU1,g0 (bP (.inl rfl)) zU1,g0 (bP (.inl rfl)) zU1,g0 (bP (.inl rfl)) zU1,g0 (bP (.inl rfl)) zU1,g0 (l9 (4+v129) rfl tyS24 (l8 4 rfl q102 q101 (q103 _ (bK h130))) (nD q102 q101 (q103 _ (bK h130))) (aV h134).1 (aV h134).2.1) zU2,g0 (r9 (k:=4) (4+v129) rfl (l8 4 rfl q102 q101 (q103 _ (bK h130))) h134 rfl (.agg tyA44) rfl) zU1,g0 (bP (.inl rfl)) zU1,g0 (bP (.inl rfl)) zU1,g0 (zC rfl) zU1,g0 (lN (off:=0) (k:=1) rfl tyF151_1) zU1,g0 (eV 0 1 rfl rfl rfl rfl (.one tyO62)) zU1,g0 (bP (.inl rfl)) zU1,g0 (l9 (C:=(cH g99)) 1 rfl tyS62 rfl q95 (aV h144).1 (aV h144).2.1) zU2,g0 (r9 (C:=(cH g99)) (k:=1) 1 rfl rfl h144 rfl (.one tyO24) rfl) zU1,g0 (bP (.inl rfl)) zU1,g0 (l9 (4+v143) rfl tyS24 (l8 4 rfl q102 q101 (q103 _ (bK h144))) (nD q102 q101 (q103 _ (bK h144))) (aV h146).1 (aV h146).2.1) zU2,g0 (r9 (k:=4) (4+v143) rfl (l8 4 rfl q102 q101 (q103 _ (bK h144))) h146 rfl (.agg tyA44) rfl) zU1,trivial⟩ (fun bs132 G131=>?_)
     obtain⟨v147,h148,hF⟩:=a8 hF
     refine aIP (aLI 4 [0,1,2] [3] [0,1,2,3] rfl (sI h148 q95 q97 q101 q102 q103) rfl rfl rfl rfl (by decide) (by decide) rfl) ⟨rfl,rfl,rfl,rfl,rfl,trivial⟩ ?_
     refine go ?_ ?_
     refine aL hF rfl (fun h149 hF=>?_) (fun h149 hF=>?_)
     ·obtain⟨v150,h151,hF⟩:=a8 hF
      refine go ?_ ?_
      exact aM (fun a w hh=>⟨x121,v150,hF,cS 4 [0,1,2,3] rfl rfl (by decide) (by exact⟨rfl,rfl,rfl,rfl,rfl,rfl,rfl,rfl,rfl,trivial⟩) hh⟩)
     obtain⟨v152,h153,hF⟩:=a8 hF
     refine go ?_ ?_
     exact aM (fun a w hh=>⟨x120,v152,hF,cS 4 [0,1,2,3] rfl rfl (by decide) (by exact⟨rfl,rfl,rfl,rfl,rfl,rfl,rfl,rfl,rfl,trivial⟩) hh⟩)
    have hF:=sP h137 hF
    refine jJ (0::0::3::7::15::31::63::127::255::511::1023::1023::1023::1023::13311::29695::1023::1023::132095::394239::918527::1023::4064255::8258559::1023::33424383::66978815::134217727::268435455::536870911::[]) 27 3 (.v (.vc (pO (kV g99 v129).1 (kV g99 v129).2.1 (kV g99 v129).2.2))::.v (.vc (pI .i64 x116))::.v (.vc (pE (kV g99 v129).1 x116 cQ.n 0))::.v (.va (eQ v133))::.v (.vc (pI .i64 v135))::.v (.vc (pB (decide (0<v135))))::.v (.vc (pB false))::.v .un::.v .un::.v .un::.v .un::.v .un::.v .un::.v .un::.v .un::.v .un::.v .un::.v .un::.v .un::.v .un::.v .un::.v .un::.v .un::.v .un::.v .un::.v .un::.v .un::[]) bA ⟨d0 (bP (.inl rfl)) zU1,d0 (bP (.inl rfl)) zU1,d0 (l9 (4+v129) rfl tyS24 (l8 4 rfl q102 q101 (q103 _ (bK h130))) (nD q102 q101 (q103 _ (bK h130))) (aV h134).1 (aV h134).2.1) zU2,d0 (r9 (k:=4) (4+v129) rfl (l8 4 rfl q102 q101 (q103 _ (bK h130))) h134 rfl (.agg tyA44) rfl) zU1,d0 (bV rfl h136 rfl) zU1,d0 (aLF rfl) ⟨rfl,lC _ _,trivial⟩,d0 (l6 (bP (.inl rfl)) h137) zU1,⟨rfl,.skipN⟩,⟨rfl,.skipN⟩,⟨rfl,.skipN⟩,⟨rfl,.skipU⟩,⟨rfl,.skipU⟩,⟨rfl,.skipU⟩,⟨rfl,.skipU⟩,⟨rfl,.skipU⟩,⟨rfl,.skipU⟩,⟨rfl,.skipU⟩,⟨rfl,.skipU⟩,⟨rfl,.skipU⟩,⟨rfl,.skipU⟩,⟨rfl,.skipU⟩,⟨rfl,.skipU⟩,⟨rfl,.skipU⟩,⟨rfl,.skipU⟩,⟨rfl,.skipU⟩,⟨rfl,.skipU⟩,⟨rfl,.skipU⟩,trivial⟩ (fun bs132 G131=>?_)
    refine go ?_ ?_
    refine sS rfl ?_
    obtain⟨v154,h155,hF⟩:=a8 hF
    refine go ?_ ?_
    exact aM (fun a w hh=>⟨x120,v154,hF,cS 4 [0,1,2,3] rfl rfl (by decide) (by exact⟨rfl,rfl,rfl,rfl,rfl,rfl,rfl,rfl,rfl,trivial⟩) hh⟩)
   refine cU ?_
   obtain rfl:=oN hF
   exact qW Jj124 ⟨x120,hRl123,rfl,rfl⟩ 4 [0,1,2,3] rfl rfl ⟨rfl,rfl,rfl,rfl,rfl,rfl,trivial⟩
  refine go ?_ ?_
  refine aL hF rfl (fun h156 hF=>?_) (fun h156 hF=>?_)
  ·refine aU (nC ?_)
   refine nC ?_
   refine aX (zC rfl) zU1 ?_
   refine aX (lN (off:=0) (k:=0) rfl tyF151_0) zU1 ?_
   refine aX (eV 0 1 rfl rfl rfl rfl (.one tyO3)) zU1 ?_
   obtain⟨v157,h158,hF⟩:=a8 hF
   refine aX (zV rfl h158) zU2 ?_
   refine aAm ?_
   refine bI ?_
   exact qW Jj117 ⟨v157,hF,rfl,rfl⟩ 4 [0,1,2,3] rfl rfl ⟨rfl,rfl,rfl,rfl,rfl,trivial⟩
  refine iR ?_
  exact qW Jj117 ⟨v113,hF,rfl,rfl⟩ 4 [0,1,2,3] rfl rfl ⟨rfl,rfl,rfl,rfl,rfl,trivial⟩
 obtain⟨x40',hL,hRl41⟩:=a8 hF
 refine hY (fun k a w=>∃(x38:Int),∃(x39:Int),gB K v6 v33 k x38 x39=some x40'∧hs _ ([⟨some b35,1,44,4,1,(eQ v33)⟩,⟨some b8,1,151,3,1,([pI .i64 v6.1]++[pO b12 n14 c13]++[pO b17 n19 c18])⟩,hO (cH g22) b12 c13 24 n14 v6.2.1,hO cI b17 c18 3 n19 v6.2.2.1,⟨some b1,1,68,3,1,([pS cQ ([]:List Rat)]++[pS cQ ([]:List Rat)]++[pI .i64 0])⟩]++jI cQ 44 g22 v6.2.2.2) [(2,.vc (pI .i64 a2)),(6,.vc (pP (some b1) 0)),(8,.vc (pP (some b8) 0)),(9,.vc (pP (some b35) 0)),(10,.vc (pI .i64 x38)),(39,.vc (pI .i64 v6.1)),(40,.vc (pI .i64 x39))] a w) K (fun a w ⟨_,_,hF,_⟩=>by cases hF) (fun k a w ⟨x38,x39,hF,hh⟩=>iA ?_ hh) (fun a w hh=>⟨0,0,hL,cS 5 [0,1,2,3,4] rfl rfl (by decide) (by exact⟨rfl,rfl,rfl,rfl,rfl,rfl,rfl,trivial⟩) hh⟩)
 rw [gB.eq_2] at hF
 refine go ?_ ?_
 refine aL hF rfl (fun h159 hF=>?_) (fun h159 hF=>?_)
 ·refine go ?_ ?_
  refine aQ ?_
  obtain⟨v160,h161,hF⟩:=a8 hF
  refine go ?_ ?_
  refine aEb 5 [1,2,3] [0,4] rfl (sI h161 q15 q20 q24 q25 q26) ⟨rfl,rfl,rfl,rfl,rfl,trivial⟩ rfl rfl rfl (by decide) ?_
  rintro _ _ ⟨rfl,rfl⟩
  refine tR (rW [⟨some b8,1,151,3,1,([pI .i64 v6.1]++[pO b12 n14 c13]++[pO b17 n19 c18])⟩,hO (cH g22) b12 c13 24 n14 v6.2.1,hO cI b17 c18 3 n19 v6.2.2.1] (jI cQ 44 g22 v6.2.2.2) [⟨some b35,1,44,4,1,(eQ v33)⟩,⟨some b1,1,68,3,1,([pS cQ ([]:List Rat)]++[pS cQ ([]:List Rat)]++[pI .i64 0])⟩]) ?_
  refine bI (aP (aL hF rfl (fun h162 hF=>?_) (fun h162 hF=>?_)))
  ·obtain⟨v163,h164,hF⟩:=a8 hF
   refine go ?_ ?_
   exact aM (fun a w hh=>⟨x39,v163,hF,cS 5 [3,0,1,2,4] rfl rfl (by decide) (by exact⟨rfl,rfl,rfl,rfl,rfl,rfl,rfl,trivial⟩) hh⟩)
  obtain⟨v165,h166,hF⟩:=a8 hF
  refine go ?_ ?_
  exact aM (fun a w hh=>⟨x38,v165,hF,cS 5 [3,0,1,2,4] rfl rfl (by decide) (by exact⟨rfl,rfl,rfl,rfl,rfl,rfl,rfl,trivial⟩) hh⟩)
 refine cU ?_
 obtain rfl:=oN hF
 exact qW Jj42 ⟨x38,hRl41,rfl,rfl⟩ 5 [1,2,3,4] rfl rfl ⟨rfl,rfl,rfl,rfl,trivial⟩
def kS (K:Nat):Option Int:=
 some (-1)
def dA (K:Nat) (a0:List Rat) (a1:(Rat→Option Bool)):Nat→Int→Option (LR Int Unit)
 |0,_=>none
 |k+1,x2=>bif(decide (x2<(a0.length:Int))) then((bT a0 x2).bind fun v6=>(a1 v6).bind fun v8=>bif v8 then(some (.ret x2)) else((aS (x2+1)).bind fun v11=>dA K a0 a1 k v11)) else(some (.go ()))
def mD (K:Nat) (a0:List Rat) (a1:(Rat→Option Bool)):Option Int:=
 (dA K a0 a1 K 0).bind fun o=>match o with| .ret r=>some r| .go _=>kS K
theorem aAb {K:Nat} {a0:List Rat} {a1:(Rat→Option Bool)} {r:Int} (hF:mD K a0 a1=some r):Ct Tryz.prog 222 [.vc (pS cQ a0),.vc (pFn Tryz.prog (fun x:Rat=>[.va (eQ x)]) (fun r:Bool=>.vc (pB r)) a1)] (.vc (pI .i64 r)):=by
 unfold mD at hF
 refine aJ Tryz.func222 rfl (by kernel_rfl) Tryz.ntmps222 rfl (fun w0 M0=>?_)
 refine go ?_ ?_
 refine aQ (bY (fun H E=>kS K=some r∧H=[]∧E=[]) ?_ (fun Jj4=>?_))
 ·rintro _ _ ⟨hF,rfl,rfl⟩
  unfold kS at hF
  exact bQ
 obtain⟨ol3,hL,hRl3⟩:=a8 hF
 refine hY (fun k a w=>∃(x2:Int),dA K a0 a1 k x2=some ol3∧hs _ [] [(0,.vc (pS cQ a0)),(1,.vc (pFn Tryz.prog (fun x:Rat=>[.va (eQ x)]) (fun r:Bool=>.vc (pB r)) a1)),(7,.vc (pI .i64 (a0.length:Int))),(8,.vc (pI .i64 x2))] a w) K (fun a w ⟨_,hF,_⟩=>by cases hF) (fun k a w ⟨x2,hF,hh⟩=>iA ?_ hh) (fun a w hh=>⟨0,hL,gJ [] hh⟩)
 rw [dA.eq_2] at hF
 refine go ?_ ?_
 refine aL hF rfl (fun h5 hF=>?_) (fun h5 hF=>?_)
 ·refine go ?_ ?_
  refine aQ ?_
  obtain⟨v6,h7,v8,h9,hF⟩:=wK hF
  refine go ?_ ?_
  refine aX (aDh (pre:=fun x:Rat=>[.va (eQ x)]) (post:=fun r:Bool=>.vc (pB r)) (x:=v6) (r:=v8) rfl h9 rfl) zU2 ?_
  refine bI (aP (aL hF rfl (fun h10 hF=>?_) (fun h10 hF=>?_)))
  ·exact bQ
  obtain⟨v11,h12,hF⟩:=a8 hF
  refine go ?_ ?_
  exact aM (fun a w hh=>⟨v11,hF,gJ [] hh⟩)
 refine cU ?_
 obtain rfl:=oN hF
 exact p9 Jj4 ⟨hRl3,rfl,rfl⟩ []
def kM (K:Nat) (a0:List Rat) (a1:(Rat→Option Bool)):Option Bool:=
 (mD K a0 a1).bind fun v1=>some (decide (0≤v1))
theorem zJ {K:Nat} {a0:List Rat} {a1:(Rat→Option Bool)} {r:Bool} (hF:kM K a0 a1=some r):Ct Tryz.prog 161 [.vc (pS cQ a0),.vc (pFn Tryz.prog (fun x:Rat=>[.va (eQ x)]) (fun r:Bool=>.vc (pB r)) a1)] (.vc (pB r)):=by
 unfold kM at hF
 refine aJ Tryz.func161 rfl (by kernel_rfl) Tryz.ntmps161 rfl (fun w0 M0=>?_)
 obtain⟨v1,h2,hF⟩:=aY hF aAb
 exact bQ
def oM (a0:Rat):Option Bool:=
 (aAV a0).bind fun v2=>some (!v2)
theorem aDV {a0:Rat} {r:Bool} (hF:oM a0=some r):Ct Tryz.prog 162 [.va (eQ a0)] (.vc (pB r)):=by
 unfold oM at hF
 refine aJ Tryz.func162 rfl (by kernel_rfl) Tryz.ntmps162 rfl (fun w0 M0=>?_)
 refine aN (aU (cE rfl rfl trivial (fun b1=>?_)))
 obtain⟨v2,h3,hF⟩:=aY hF rN
 exact bQ
def pW (K:Nat) (a0:List Rat):Option Bool:=
 (kM K a0 (oM)).bind fun v1=>some (!v1)
theorem z5 {K:Nat} {a0:List Rat} {r:Bool} (hF:pW K a0=some r):Ct Tryz.prog 75 [.vc (pS cQ a0)] (.vc (pB r)):=by
 unfold pW at hF
 refine aJ Tryz.func75 rfl (by kernel_rfl) Tryz.ntmps75 rfl (fun w0 M0=>?_)
 obtain⟨v1,h2,hF⟩:=aY hF zJ
 refine go ?_ ?_
 refine aX (bV rfl h2 rfl) ⟨rfl,(aOg (P:=Tryz.prog) (φ:=(oM)) (pre:=fun x:Rat=>[.va (eQ x)]) (post:=fun r:Bool=>.vc (pB r)) (fun x r h=>aDV h)),trivial⟩ ?_
 exact bQ
def nG (K:Nat):Option Int:=
 some (-1)
def eM (K:Nat) (a0:List aA) (a1:(aA→Option Bool)):Nat→Int→Option (LR Int Unit)
 |0,_=>none
 |k+1,x2=>bif(decide (x2<(a0.length:Int))) then((bT a0 x2).bind fun v6=>(a1 v6).bind fun v8=>bif v8 then(some (.ret x2)) else((aS (x2+1)).bind fun v11=>eM K a0 a1 k v11)) else(some (.go ()))
def mO (K:Nat) (a0:List aA) (a1:(aA→Option Bool)):Option Int:=
 (eM K a0 a1 K 0).bind fun o=>match o with| .ret r=>some r| .go _=>nG K
theorem aAw {K:Nat} {a0:List aA} {a1:(aA→Option Bool)} {r:Int} (hF:mO K a0 a1=some r):Ct Tryz.prog 178 [.vc (pS aA.cod a0),.vc (pFn Tryz.prog (fun x:aA=>[.va (aA.enc x)]) (fun r:Bool=>.vc (pB r)) a1)] (.vc (pI .i64 r)):=by
 unfold mO at hF
 refine aJ Tryz.func178 rfl (by kernel_rfl) Tryz.ntmps178 rfl (fun w0 M0=>?_)
 refine go ?_ ?_
 refine aQ (bY (fun H E=>nG K=some r∧H=[]∧E=[]) ?_ (fun Jj4=>?_))
 ·rintro _ _ ⟨hF,rfl,rfl⟩
  unfold nG at hF
  exact bQ
 obtain⟨ol3,hL,hRl3⟩:=a8 hF
 refine hY (fun k a w=>∃(x2:Int),eM K a0 a1 k x2=some ol3∧hs _ [] [(0,.vc (pS aA.cod a0)),(1,.vc (pFn Tryz.prog (fun x:aA=>[.va (aA.enc x)]) (fun r:Bool=>.vc (pB r)) a1)),(7,.vc (pI .i64 (a0.length:Int))),(8,.vc (pI .i64 x2))] a w) K (fun a w ⟨_,hF,_⟩=>by cases hF) (fun k a w ⟨x2,hF,hh⟩=>iA ?_ hh) (fun a w hh=>⟨0,hL,gJ [] hh⟩)
 rw [eM.eq_2] at hF
 refine go ?_ ?_
 refine aL hF rfl (fun h5 hF=>?_) (fun h5 hF=>?_)
 ·refine go ?_ ?_
  refine aQ ?_
  obtain⟨v6,h7,v8,h9,hF⟩:=wK hF
  refine go ?_ ?_
  refine aX (aDh (pre:=fun x:aA=>[.va (aA.enc x)]) (post:=fun r:Bool=>.vc (pB r)) (x:=v6) (r:=v8) rfl h9 rfl) zU2 ?_
  refine bI (aP (aL hF rfl (fun h10 hF=>?_) (fun h10 hF=>?_)))
  ·exact bQ
  obtain⟨v11,h12,hF⟩:=a8 hF
  refine go ?_ ?_
  exact aM (fun a w hh=>⟨v11,hF,gJ [] hh⟩)
 refine cU ?_
 obtain rfl:=oN hF
 exact p9 Jj4 ⟨hRl3,rfl,rfl⟩ []
def fY (K:Nat) (a0:List aA) (a1:(aA→Option Bool)):Option Bool:=
 (mO K a0 a1).bind fun v1=>some (decide (0≤v1))
theorem t0 {K:Nat} {a0:List aA} {a1:(aA→Option Bool)} {r:Bool} (hF:fY K a0 a1=some r):Ct Tryz.prog 90 [.vc (pS aA.cod a0),.vc (pFn Tryz.prog (fun x:aA=>[.va (aA.enc x)]) (fun r:Bool=>.vc (pB r)) a1)] (.vc (pB r)):=by
 unfold fY at hF
 refine aJ Tryz.func90 rfl (by kernel_rfl) Tryz.ntmps90 rfl (fun w0 M0=>?_)
 obtain⟨v1,h2,hF⟩:=aY hF aAw
 exact bQ
def wX (K:Nat) (x7:Rat):Option Rat:=
 some x7
def mC (K:Nat) (a0:List aC) (a1:List Rat):Nat→Rat→Int→Option Rat
 |0,_,_=>none
 |k+1,x5,x6=>bif(decide (x6<(a0.length:Int))) then((bT a0 x6).bind fun v11=>bif(decide (0≤v11.dof)) then(bif(decide (v11.dof<(a1.length:Int))) then((bT a1 v11.dof).bind fun v18=>(xU v11.k v18).bind fun v20=>(aCC x5 v20).bind fun v22=>(aS (x6+1)).bind fun v24=>mC K a0 a1 k v22 v24) else((aS (x6+1)).bind fun v26=>mC K a0 a1 k x5 v26)) else((aS (x6+1)).bind fun v28=>mC K a0 a1 k x5 v28)) else(some x5)
def iH (K:Nat) (a0:List aC) (a1:List Rat):Option Rat:=
 (mC K a0 a1 K 0 0).bind fun x7=>wX K x7
theorem lK {K:Nat} {a0:List aC} {a1:List Rat} {r:Rat} (hF:iH K a0 a1=some r):Ct Tryz.prog 33 [.vc (pS aC.cod a0),.vc (pS cQ a1)] (.va (eQ r)):=by
 unfold iH at hF
 refine aJ Tryz.func33 rfl (by kernel_rfl) Tryz.ntmps33 rfl (fun w0 M0=>?_)
 refine aN (aU (aO rfl tyZ44q (fun b1=>?_)))
 refine go ?_ ?_
 refine aO rfl tyZ44q (fun b2=>?_)
 refine go ?_ ?_
 refine aQ (bY (fun H E=>∃(x7:Rat),wX K x7=some r∧H=[⟨some b2,1,44,4,1,(eQ x7)⟩,⟨some b1,1,44,4,1,(eQ 0)⟩]∧E=[(4,.vc (pP (some b1) 0)),(5,.vc (pP (some b2) 0))]) ?_ (fun Jj9=>?_))
 ·rintro _ _ ⟨x7,hF,rfl,rfl⟩
  unfold wX at hF
  exact bQ
 obtain⟨x7',hL,hRl8⟩:=a8 hF
 refine hY (fun k a w=>∃(x5:Rat),∃(x6:Int),mC K a0 a1 k x5 x6=some x7'∧hs _ [⟨some b2,1,44,4,1,(eQ x5)⟩,⟨some b1,1,44,4,1,(eQ 0)⟩] [(1,.vc (pS cQ a1)),(4,.vc (pP (some b1) 0)),(5,.vc (pP (some b2) 0)),(8,.vc (pS aC.cod a0)),(9,.vc (pI .i64 (a0.length:Int))),(10,.vc (pI .i64 x6))] a w) K (fun a w ⟨_,_,hF,_⟩=>by cases hF) (fun k a w ⟨x5,x6,hF,hh⟩=>iA ?_ hh) (fun a w hh=>⟨0,0,hL,gJ [0,1] hh⟩)
 rw [mC.eq_2] at hF
 refine go ?_ ?_
 refine aL hF rfl (fun h10 hF=>?_) (fun h10 hF=>?_)
 ·refine go ?_ ?_
  refine aQ ?_
  obtain⟨v11,h12,hF⟩:=a8 hF
  refine go ?_ ?_
  refine aO rfl tyZ92q (fun b13=>?_)
  refine go ?_ ?_
  refine dC hF (fun h14 hF=>?_) (fun h14 hF=>?_)
  ·refine go ?_ ?_
   refine aL hF rfl (fun h15 hF=>?_) (fun h15 hF=>?_)
   ·obtain⟨v18,h19,hF⟩:=a8 hF
    obtain⟨v20,h21,hF⟩:=aY hF s7
    obtain⟨v22,h23,hF⟩:=aY hF xJ
    refine dr [0,0,2,0,0,16,56,120,254,511,1023] 10 1 ?_ (fun bs17 G16=>?_)
    obtain⟨v24,h25,hF⟩:=a8 hF
    refine go ?_ ?_
    exact aM (fun a w hh=>⟨v22,v24,hF,gJ [1,2] hh⟩)
   obtain⟨v26,h27,hF⟩:=a8 hF
   refine go ?_ ?_
   exact aM (fun a w hh=>⟨x5,v26,hF,gJ [1,2] hh⟩)
  refine go ?_ ?_
  refine sS rfl ?_
  obtain⟨v28,h29,hF⟩:=a8 hF
  refine go ?_ ?_
  exact aM (fun a w hh=>⟨x5,v28,hF,gJ [1,2] hh⟩)
 refine cU ?_
 obtain rfl:=oN hF
 exact p9 Jj9 ⟨x5,hRl8,rfl,rfl⟩ [0,1]
def uM (K:Nat):Option Bool:=
 some true
def lT (K:Nat) (a0:List aC) (a1:Int):Nat→Int→Option (LR Bool Unit)
 |0,_=>none
 |k+1,x2=>bif(decide (x2<(a0.length:Int))) then((bT a0 x2).bind fun v6=>bif(decide (v6.dof<0)) then(some (.ret false)) else(bif(decide (a1≤v6.dof)) then(some (.ret false)) else(bif(decide (0<x2)) then((aS (x2-1)).bind fun v14=>(bT a0 v14).bind fun v16=>bif(decide (v6.dof≤v16.dof)) then(some (.ret false)) else((aAV v6.k).bind fun v19=>bif(!v19) then(some (.ret false)) else((aS (x2+1)).bind fun v22=>lT K a0 a1 k v22))) else((aAV v6.k).bind fun v24=>bif(!v24) then(some (.ret false)) else((aS (x2+1)).bind fun v27=>lT K a0 a1 k v27))))) else(some (.go ()))
def tJ (K:Nat) (a0:List aC) (a1:Int):Option Bool:=
 (lT K a0 a1 K 0).bind fun o=>match o with| .ret r=>some r| .go _=>uM K
theorem aBk {K:Nat} {a0:List aC} {a1:Int} {r:Bool} (hF:tJ K a0 a1=some r):Ct Tryz.prog 154 [.vc (pS aC.cod a0),.vc (pI .i64 a1)] (.vc (pB r)):=by
 unfold tJ at hF
 refine aJ Tryz.func154 rfl (by kernel_rfl) Tryz.ntmps154 rfl (fun w0 M0=>?_)
 refine go ?_ ?_
 refine aQ (bY (fun H E=>uM K=some r∧H=[]∧E=[]) ?_ (fun Jj4=>?_))
 ·rintro _ _ ⟨hF,rfl,rfl⟩
  unfold uM at hF
  exact bQ
 obtain⟨ol3,hL,hRl3⟩:=a8 hF
 refine hY (fun k a w=>∃(x2:Int),lT K a0 a1 k x2=some ol3∧hs _ [] [(0,.vc (pS aC.cod a0)),(1,.vc (pI .i64 a1)),(7,.vc (pS aC.cod a0)),(8,.vc (pI .i64 (a0.length:Int))),(9,.vc (pI .i64 x2))] a w) K (fun a w ⟨_,hF,_⟩=>by cases hF) (fun k a w ⟨x2,hF,hh⟩=>iA ?_ hh) (fun a w hh=>⟨0,hL,gJ [] hh⟩)
 rw [lT.eq_2] at hF
 refine go ?_ ?_
 refine aL hF rfl (fun h5 hF=>?_) (fun h5 hF=>?_)
 ·refine go ?_ ?_
  refine aQ ?_
  obtain⟨v6,h7,hF⟩:=a8 hF
  refine go ?_ ?_
  refine aO rfl tyZ92q (fun b8=>?_)
  refine go ?_ ?_
  rcases Bool.eq_false_or_eq_true (decide (v6.dof<0)) with h11|h11
  ·have hF:=sR h11 hF
   refine drb (0::1::3::7::15::31::15::127::255::511::1023::2047::4095::8191::16383::8191::8191::73727::237567::499711::1023999::2097151::4194303::8388607::16777215::33554431::67108863::134217727::268435455::536870911::[]) 30 0 ?_ (fun bs10 G9=>?_)
   refine bI (aP (gV rfl ?_))
   exact bQ
  have hF:=sP h11 hF
  rcases Bool.eq_false_or_eq_true (decide (a1≤v6.dof)) with h12|h12
  ·have hF:=sR h12 hF
   refine drb (0::1::3::7::15::31::15::127::255::511::1023::2047::4095::8191::16383::8191::8191::73727::237567::499711::1023999::2097151::4194303::8388607::16777215::33554431::67108863::134217727::268435455::536870911::[]) 30 0 ?_ (fun bs10 G9=>?_)
   refine bI (aP (gV rfl ?_))
   exact bQ
  have hF:=sP h12 hF
  rcases Bool.eq_false_or_eq_true (decide (0<x2)) with h13|h13
  ·have hF:=sR h13 hF
   obtain⟨v14,h15,hF⟩:=a8 hF
   obtain⟨v16,h17,hF⟩:=a8 hF
   rcases Bool.eq_false_or_eq_true (decide (v6.dof≤v16.dof)) with h18|h18
   ·have hF:=sR h18 hF
    refine drb (0::1::3::7::15::31::15::127::255::511::1023::2047::4095::8191::16383::8191::8191::73727::237567::499711::1023999::2097151::4194303::8388607::16777215::33554431::67108863::134217727::268435455::536870911::[]) 30 0 ?_ (fun bs10 G9=>?_)
    refine bI (aP (gV rfl ?_))
    exact bQ
   have hF:=sP h18 hF
   obtain⟨v19,h20,hF⟩:=aY hF rN
   refine drb (0::1::3::7::15::31::15::127::255::511::1023::2047::4095::8191::16383::8191::8191::73727::237567::499711::1023999::2097151::4194303::8388607::16777215::33554431::67108863::134217727::268435455::536870911::[]) 30 0 ?_ (fun bs10 G9=>?_)
   refine bI (aP (aL hF rfl (fun h21 hF=>?_) (fun h21 hF=>?_)))
   ·exact bQ
   obtain⟨v22,h23,hF⟩:=a8 hF
   refine go ?_ ?_
   exact aM (fun a w hh=>⟨v22,hF,gJ [] hh⟩)
  have hF:=sP h13 hF
  obtain⟨v24,h25,hF⟩:=aY hF rN
  refine drb (0::1::3::7::15::31::15::127::255::511::1023::2047::4095::8191::16383::8191::8191::73727::237567::499711::1023999::2097151::4194303::8388607::16777215::33554431::67108863::134217727::268435455::536870911::[]) 30 0 ?_ (fun bs10 G9=>?_)
  refine bI (aP (aL hF rfl (fun h26 hF=>?_) (fun h26 hF=>?_)))
  ·exact bQ
  obtain⟨v27,h28,hF⟩:=a8 hF
  refine go ?_ ?_
  exact aM (fun a w hh=>⟨v27,hF,gJ [] hh⟩)
 refine cU ?_
 obtain rfl:=oN hF
 exact p9 Jj4 ⟨hRl3,rfl,rfl⟩ []
def lU (K:Nat) (c0:Int) (c1:aH) (a0:aA):Option Bool:=
 (tJ K a0.j c0).bind fun v2=>bif(!v2) then(some true) else((tJ K a0.t c0).bind fun v5=>bif(!v5) then(some true) else((aAV a0.mu).bind fun v8=>bif(!v8) then(some true) else((uI a0.mu).bind fun v11=>bif(decide (v11<0)) then(some true) else((iH K a0.j c1.v).bind fun v14=>(uI v14).bind fun v16=>some (v16 != 0)))))
theorem aBc {K:Nat} {c0:Int} {c1:aH} {a0:aA} {r:Bool} (hF:lU K c0 c1 a0=some r):Ct Tryz.prog 153 [.va (aA.enc a0),.vc (pM (cI.e c0)),.vc (pM (aH.cod.e c1))] (.vc (pB r)):=by
 unfold lU at hF
 refine aJ Tryz.func153 rfl (by kernel_rfl) Tryz.ntmps153 rfl (fun w0 M0=>?_)
 refine aN (aU (cE rfl rfl trivial (fun b1=>?_)))
 obtain⟨v2,h3,hF⟩:=aY hF aBk
 refine go ?_ ?_
 refine dC hF (fun h4 hF=>?_) (fun h4 hF=>?_)
 ·exact bQ
 obtain⟨v5,h6,hF⟩:=aY hF aBk
 refine go ?_ ?_
 refine dC hF (fun h7 hF=>?_) (fun h7 hF=>?_)
 ·exact bQ
 obtain⟨v8,h9,hF⟩:=aY hF rN
 refine go ?_ ?_
 refine dC hF (fun h10 hF=>?_) (fun h10 hF=>?_)
 ·exact bQ
 obtain⟨v11,h12,hF⟩:=aY hF lA
 refine go ?_ ?_
 refine dC hF (fun h13 hF=>?_) (fun h13 hF=>?_)
 ·exact bQ
 obtain⟨v14,h15,hF⟩:=aY hF lK
 obtain⟨v16,h17,hF⟩:=aY hF lA
 exact bQ
def pV (K:Nat) (a0:aH):Option Bool:=
 (fY K a0.rows (lU K (a0.dofs.length:Int) a0)).bind fun v16=>some (!v16)
def iN (K:Nat) (a0:aH):Nat→Int→Option (LR Bool Unit)
 |0,_=>none
 |k+1,x13=>bif(decide (x13<(a0.dofs.length:Int))) then((bT a0.dofs x13).bind fun v19=>(aAV v19.inv).bind fun v22=>bif(!v22) then(some (.ret false)) else((uI v19.inv).bind fun v25=>bif(decide (v25≤0)) then(some (.ret false)) else((aS (x13+1)).bind fun v28=>iN K a0 k v28))) else(some (.go ()))
def nU (K:Nat) (a0:aH):Option Bool:=
 bif(decide (12<(a0.dofs.length:Int))) then(some false) else(bif((a0.load.length:Int) != (a0.dofs.length:Int)) then(some false) else(bif((a0.v.length:Int) != (a0.dofs.length:Int)) then(some false) else((pW K a0.load).bind fun v6=>bif(!v6) then(some false) else((pW K a0.v).bind fun v9=>bif(!v9) then(some false) else((iN K a0 K 0).bind fun o=>match o with| .ret r=>some r| .go _=>pV K a0)))))
theorem yG {K:Nat} {a0:aH} {r:Bool} (hF:nU K a0=some r):Ct Tryz.prog 69 [.va (aH.enc a0)] (.vc (pB r)):=by
 unfold nU at hF
 refine aJ Tryz.func69 rfl (by kernel_rfl) Tryz.ntmps69 rfl (fun w0 M0=>?_)
 refine aN (aU (cE rfl rfl trivial (fun b1=>?_)))
 refine go ?_ ?_
 refine aO rfl tyZ3q (fun b2=>?_)
 refine go ?_ ?_
 refine dC hF (fun h3 hF=>?_) (fun h3 hF=>?_)
 ·refine go ?_ ?_
  refine gV rfl ?_
  exact bQ
 refine go ?_ ?_
 refine dC hF (fun h4 hF=>?_) (fun h4 hF=>?_)
 ·refine go ?_ ?_
  refine gV rfl ?_
  exact bQ
 refine go ?_ ?_
 refine dC hF (fun h5 hF=>?_) (fun h5 hF=>?_)
 ·refine go ?_ ?_
  refine gV rfl ?_
  exact bQ
 obtain⟨v6,h7,hF⟩:=aY hF z5
 refine go ?_ ?_
 refine dC hF (fun h8 hF=>?_) (fun h8 hF=>?_)
 ·refine go ?_ ?_
  refine gV rfl ?_
  exact bQ
 obtain⟨v9,h10,hF⟩:=aY hF z5
 refine go ?_ ?_
 refine aL hF rfl (fun h11 hF=>?_) (fun h11 hF=>?_)
 ·exact bQ
 refine go ?_ ?_
 refine aQ (bY (fun H E=>pV K a0=some r∧H=[⟨some b2,1,3,1,1,[pI .i64 (a0.dofs.length:Int)]⟩,⟨some b1,1,113,4,1,(aH.enc a0)⟩]∧E=[(1,.vc (pP (some b1) 0)),(3,.vc (pP (some b2) 0))]) ?_ (fun Jj15=>?_))
 ·rintro _ _ ⟨hF,rfl,rfl⟩
  unfold pV at hF
  refine aP (aN (aU (aX (lN (off:=0) (k:=3) rfl tyF113_3) zU1 ?_)))
  refine aX (eV 1 1 rfl rfl rfl rfl (.one tyO25)) zU1 ?_
  refine aKG 0 [(3,0)] rfl zU1 rfl ?_
  refine aKG 0 [(1,0),(55,3)] rfl zU2 rfl ?_
  refine aX (aPO (φ:=(lU K (a0.dofs.length:Int) a0)) (pre:=fun x:aA=>[.va (aA.enc x)]) (post:=fun r:Bool=>.vc (pB r)) (xs:=[.tmp 3,.tmp 1]) (cs:=[pM (cI.e (a0.dofs.length:Int)),pM (aH.cod.e a0)]) rfl rfl (fun x r h=>aBc h)) zU2 ?_
  obtain⟨v16,h17,hF⟩:=aY hF t0
  exact bQ
 obtain⟨ol14,hL,hRl14⟩:=a8 hF
 refine hY (fun k a w=>∃(x13:Int),iN K a0 k x13=some ol14∧hs _ [⟨some b2,1,3,1,1,[pI .i64 (a0.dofs.length:Int)]⟩,⟨some b1,1,113,4,1,(aH.enc a0)⟩] [(1,.vc (pP (some b1) 0)),(3,.vc (pP (some b2) 0)),(38,.vc (pS aG.cod a0.dofs)),(39,.vc (pI .i64 (a0.dofs.length:Int))),(40,.vc (pI .i64 x13))] a w) K (fun a w ⟨_,hF,_⟩=>by cases hF) (fun k a w ⟨x13,hF,hh⟩=>iA ?_ hh) (fun a w hh=>⟨0,hL,gJ [0,1] hh⟩)
 rw [iN.eq_2] at hF
 refine go ?_ ?_
 refine aL hF rfl (fun h18 hF=>?_) (fun h18 hF=>?_)
 ·refine go ?_ ?_
  refine aQ ?_
  obtain⟨v19,h20,hF⟩:=a8 hF
  refine go ?_ ?_
  refine aO rfl tyZ108q (fun b21=>?_)
  obtain⟨v22,h23,hF⟩:=aY hF rN
  refine go ?_ ?_
  refine dC hF (fun h24 hF=>?_) (fun h24 hF=>?_)
  ·refine go ?_ ?_
   refine gV rfl ?_
   exact bQ
  obtain⟨v25,h26,hF⟩:=aY hF lA
  refine go ?_ ?_
  refine aL hF rfl (fun h27 hF=>?_) (fun h27 hF=>?_)
  ·exact bQ
  obtain⟨v28,h29,hF⟩:=a8 hF
  refine go ?_ ?_
  exact aM (fun a w hh=>⟨v28,hF,gJ [1,2] hh⟩)
 refine cU ?_
 obtain rfl:=oN hF
 exact p9 Jj15 ⟨hRl14,rfl,rfl⟩ [0,1]
def lP (K:Nat) (a0:aH) (a1:aA):Option Int:=
 (iH K a1.t a0.v).bind fun v3=>(uI v3).bind fun v5=>some v5
theorem uT {K:Nat} {a0:aH} {a1:aA} {r:Int} (hF:lP K a0 a1=some r):Ct Tryz.prog 155 [.va (aH.enc a0),.va (aA.enc a1)] (.vc (pI .i64 r)):=by
 unfold lP at hF
 refine aJ Tryz.func155 rfl (by kernel_rfl) Tryz.ntmps155 rfl (fun w0 M0=>?_)
 refine aN (aU (cE rfl rfl trivial (fun b1=>?_)))
 refine cE rfl rfl trivial (fun b2=>?_)
 obtain⟨v3,h4,hF⟩:=aY hF lK
 obtain⟨v5,h6,hF⟩:=aY hF lA
 exact bQ
def mE (K:Nat) (x18:List aE):Option (List aE):=
 some x18
def dM (K:Nat) (a0:aH):Nat→(List aE)→Int→Option (List aE)
 |0,_,_=>none
 |k+1,x11,x17=>bif(decide (x17<(a0.rows.length:Int))) then((bT a0.rows x17).bind fun v27=>(pA x11 [(⟨x17,0⟩:aE)]).bind fun x30=>bif(decide (0<(v27.t.length:Int))) then((lP K a0 v27).bind fun v38=>bif(v38==0) then((pA x30 [(⟨x17,1⟩:aE),(⟨x17,2⟩:aE),(⟨x17,3⟩:aE)]).bind fun x41=>(aS (x17+1)).bind fun v48=>dM K a0 k x41 v48) else((aS (x17+1)).bind fun v50=>dM K a0 k x30 v50)) else((aS (x17+1)).bind fun v52=>dM K a0 k x30 v52)) else(some x11)
def kJ (K:Nat) (a0:aH):Option (List aE):=
 (dM K a0 K ([]:List aE) 0).bind fun x18=>mE K x18
theorem wI {K:Nat} {a0:aH} {r:List aE} (hF:kJ K a0=some r):Ct Tryz.prog 70 [.va (aH.enc a0)] (.vc (pS aE.cod r)):=by
 unfold kJ at hF
 refine aJ Tryz.func70 rfl (by kernel_rfl) Tryz.ntmps70 rfl (fun w0 M0=>?_)
 refine aN (aU (cE rfl rfl trivial (fun b1=>?_)))
 refine aX (bP (.inr rfl)) ⟨d9 aE.cod,trivial⟩ ?_
 refine bI (aP (aN (aU (yS aE.cod 118 rfl ?_))))
 refine go ?_ ?_
 refine aQ (bY (fun H E=>∃(x18:List aE),∃(b19:Option Nat),∃(c20:Nat),∃(n21:Nat),mE K x18=some r∧x18.length=n21∧H=[hO aE.cod b19 c20 118 n21 x18]∧E=[(3,.vc (pO b19 n21 c20))]) ?_ (fun Jj25=>?_))
 ·rintro _ _ ⟨x18,b19,c20,n21,hF,q22,rfl,rfl⟩
  unfold mE at hF
  refine go ?_ ?_
  refine pU (pG (oI 0 [2,3,39] rfl q22 ⟨rfl,rfl,rfl,trivial⟩ rfl ?_))
  obtain rfl:=oN hF
  exact mT (.inl rfl) Tryz.results70 (.tmp rfl .nil) rfl rfl
 obtain⟨x18',hL,hRl24⟩:=a8 hF
 refine hY (fun k a w=>∃(x11:List aE),∃(x17:Int),∃(b12:Option Nat),∃(c13:Nat),∃(n14:Nat),dM K a0 k x11 x17=some x18'∧x11.length=n14∧hs _ [hO aE.cod b12 c13 118 n14 x11,⟨some b1,1,113,4,1,(aH.enc a0)⟩] [(1,.vc (pP (some b1) 0)),(3,.vc (pO b12 n14 c13)),(7,.vc (pS aA.cod a0.rows)),(8,.vc (pI .i64 (a0.rows.length:Int))),(9,.vc (pI .i64 x17))] a w) K (fun a w ⟨_,_,_,_,_,hF,_,_⟩=>by cases hF) (fun k a w ⟨x11,x17,b12,c13,n14,hF,q15,hh⟩=>iA ?_ hh) (fun a w hh=>⟨([]:List aE),0,none,0,0,hL,rfl,gJ [0,1] hh⟩)
 rw [dM.eq_2] at hF
 refine go ?_ ?_
 refine aL hF rfl (fun h26 hF=>?_) (fun h26 hF=>?_)
 ·refine go ?_ ?_
  refine aQ ?_
  obtain⟨v27,h28,hF⟩:=a8 hF
  refine go ?_ ?_
  refine aO rfl tyZ51q (fun b29=>?_)
  refine go ?_ ?_
  refine aX (cR (is:=[0,1]) (xs:=[.tmp 15,.const (.int .i64 (0))]) (ps:=[.vc (pI .i64 x17),.vc (pI .i64 0)]) rfl tyB118q rfl rfl ⟨trivial,trivial,trivial⟩ rfl) ⟨rfl,lC _ _,trivial⟩ ?_
  refine aX (kT (C:=aE.cod) (xs:=[.tmp 16]) (ps:=[.va ([pI .i64 x17]++[pI .i64 0])]) (zs:=[(⟨x17,0⟩:aE)]) rfl tyS114 rfl ⟨⟨trivial,rfl⟩,trivial⟩ rfl) zU1 ?_
  obtain⟨x30,h31,hF⟩:=a8 hF
  refine lY 1 rfl tyS114 rfl rfl q15 rfl rfl h31 (fun b32 c33 H34 e35=>?_)
  cases e35
  refine go ?_ ?_
  refine dC hF (fun h37 hF=>?_) (fun h37 hF=>?_)
  ·obtain⟨v38,h39,hF⟩:=aY hF uT
   refine go ?_ ?_
   refine aL hF rfl (fun h40 hF=>?_) (fun h40 hF=>?_)
   ·refine go ?_ ?_
    refine aX (cR (is:=[0,1]) (xs:=[.tmp 30,.const (.int .i64 (1))]) (ps:=[.vc (pI .i64 x17),.vc (pI .i64 1)]) rfl tyB118q rfl rfl ⟨trivial,trivial,trivial⟩ rfl) ⟨rfl,lC _ _,trivial⟩ ?_
    refine nC ?_
    refine aX (cR (is:=[0,1]) (xs:=[.tmp 32,.const (.int .i64 (2))]) (ps:=[.vc (pI .i64 x17),.vc (pI .i64 2)]) rfl tyB118q rfl rfl ⟨trivial,trivial,trivial⟩ rfl) ⟨rfl,lC _ _,trivial⟩ ?_
    refine nC ?_
    refine aX (cR (is:=[0,1]) (xs:=[.tmp 34,.const (.int .i64 (3))]) (ps:=[.vc (pI .i64 x17),.vc (pI .i64 3)]) rfl tyB118q rfl rfl ⟨trivial,trivial,trivial⟩ rfl) ⟨rfl,lC _ _,trivial⟩ ?_
    refine aX (kT (C:=aE.cod) (xs:=[.tmp 31,.tmp 33,.tmp 35]) (ps:=[.va ([pI .i64 x17]++[pI .i64 1]),.va ([pI .i64 x17]++[pI .i64 2]),.va ([pI .i64 x17]++[pI .i64 3])]) (zs:=[(⟨x17,1⟩:aE),(⟨x17,2⟩:aE),(⟨x17,3⟩:aE)]) rfl tyS114 rfl ⟨⟨trivial,rfl⟩,⟨trivial,rfl⟩,⟨trivial,rfl⟩,trivial⟩ rfl) ⟨rfl,rfl,rfl,trivial⟩ ?_
    obtain⟨x41,h42,hF⟩:=a8 hF
    refine lY 1 rfl tyS114 rfl rfl (bF h31 q15) rfl rfl h42 (fun b43 c44 H45 e46=>?_)
    cases e46
    obtain⟨v48,h49,hF⟩:=a8 hF
    refine go ?_ ?_
    exact aM (fun a w hh=>⟨x41,v48,b43,c44,((n14+[(⟨x17,0⟩:aE)].length)+[(⟨x17,1⟩:aE),(⟨x17,2⟩:aE),(⟨x17,3⟩:aE)].length),hF,(bF h42 (bF h31 q15)),gJ [1,2] hh⟩)
   obtain⟨v50,h51,hF⟩:=a8 hF
   refine go ?_ ?_
   exact aM (fun a w hh=>⟨x30,v50,b32,c33,(n14+[(⟨x17,0⟩:aE)].length),hF,(bF h31 q15),gJ [1,2] hh⟩)
  refine go ?_ ?_
  refine sS rfl ?_
  obtain⟨v52,h53,hF⟩:=a8 hF
  refine go ?_ ?_
  exact aM (fun a w hh=>⟨x30,v52,b32,c33,(n14+[(⟨x17,0⟩:aE)].length),hF,(bF h31 q15),gJ [1,2] hh⟩)
 refine cU ?_
 obtain rfl:=oN hF
 exact p9 Jj25 ⟨x11,b12,c13,n14,hRl24,q15,rfl,rfl⟩ [0]
def lD (K:Nat) (a0:aH) (a1:aA) (a2:Rat):Option Rat:=
 (lP K a0 a1).bind fun v7=>(aS (-v7)).bind fun v9=>(zK v9 1).bind fun v11=>(xU a1.mu a2).bind fun v13=>(xU v11 v13).bind fun v15=>some v15
theorem w6 {K:Nat} {a0:aH} {a1:aA} {a2:Rat} {r:Rat} (hF:lD K a0 a1 a2=some r):Ct Tryz.prog 72 [.va (aH.enc a0),.va (aA.enc a1),.va (eQ a2)] (.va (eQ r)):=by
 unfold lD at hF
 refine aJ Tryz.func72 rfl (by kernel_rfl) Tryz.ntmps72 rfl (fun w0 M0=>?_)
 refine aN (aU (cE rfl rfl trivial (fun b1=>?_)))
 refine cE rfl rfl trivial (fun b2=>?_)
 refine cE rfl rfl trivial (fun b3=>?_)
 refine aO rfl tyZ44q (fun b4=>?_)
 obtain⟨v7,h8,hF⟩:=aY hF uT
 obtain⟨v9,h10,hF⟩:=a8 hF
 obtain⟨v11,h12,hF⟩:=aY hF aAv
 obtain⟨v13,h14,hF⟩:=aY hF s7
 obtain⟨v15,h16,hF⟩:=aY hF s7
 refine go ?_ ?_
 refine dr [0,0,3,7,15,0,32,0,255,511,1023] 10 1 ?_ (fun bs6 G5=>?_)
 exact bQ
def qG (a0:List Rat):Option (List Rat):=
 (pA ([]:List Rat) a0).bind fun x9=>some x9
theorem aBD {a0:List Rat} {r:List Rat} (hF:qG a0=some r):CtO Tryz.prog 160 [] [.vc (pS cQ a0)] (fun Ho q=>∃b18 c19 n17,r.length=n17∧Ho=[hO cQ b18 c19 44 n17 r]∧q=.vc (pO b18 n17 c19)):=by
 unfold qG at hF
 refine aJ Tryz.func160 rfl (by kernel_rfl) Tryz.ntmps160 rfl (fun w0 M0=>?_)
 refine aN (aU (yS cQ 44 rfl ?_))
 refine bI (aP (aN (aN (aU (nC ?_)))))
 refine aKP rfl Tryz.underlying24 rfl (fun h3=>?_) ?_
 ·skip
  subst h3
  have hF:some ([]:List Rat)=some r:=by simpa [pA] using hF
  refine bI (aP (gV rfl ?_))
  refine aN (aU (yS cQ 44 rfl ?_))
  refine bI (aP (pU (pG ?_)))
  obtain rfl:=oN hF
  exact aBi (.inl rfl) Tryz.results160 (.tmp rfl .nil) rfl [0] rfl (by decide) ⟨none,0,0,rfl,rfl,rfl⟩
 refine bI (aP (sS rfl ?_))
 refine go ?_ ?_
 refine aEZ (yW (C:=cQ) (xs:=[]) (ps:=[]) (zs:=([]:List Rat)) rfl tyS24 rfl trivial rfl) trivial (fun b6 _=>?_)
 refine nC ?_
 obtain⟨x9,h10,hF⟩:=a8 hF
 refine lY 0 rfl tyS24 rfl rfl rfl rfl rfl h10 (fun b11 c12 H13 e14=>?_)
 cases e14
 refine go ?_ ?_
 refine pU (pG ?_)
 obtain rfl:=oN hF
 exact aBi (.inl rfl) Tryz.results160 (.tmp rfl .nil) rfl [0] rfl (by decide) ⟨b11,c12,(0+a0.length),(bF h10 rfl),rfl,rfl⟩
def jS (K:Nat) (x46:List Rat):Option (List Rat):=
 some x46
def dQ (K:Nat) (a0:aH):Nat→(List Rat)→Int→Option (List Rat)
 |0,_,_=>none
 |k+1,x39,x45=>bif(decide (x45<(a0.dofs.length:Int))) then((bT a0.dofs x45).bind fun v55=>(bT x39 x45).bind fun v60=>(xU v60 v55.inv).bind fun v62=>(bT x39 x45).bind fun v64=>(pC x39 x45 v62).bind fun x66=>(aS (x45+1)).bind fun v69=>dQ K a0 k x66 v69) else(some x39)
def jO (K:Nat) (a0:aH) (x24:List Rat):Option (List Rat):=
 (dQ K a0 K x24 0).bind fun x46=>jS K x46
def jD (K:Nat) (x23:Int) (recl30:(List Rat)→Int→Option (List Rat)) (x111:List Rat):Option (List Rat):=
 (aS (x23+1)).bind fun v119=>recl30 x111 v119
def cT (K:Nat) (a2:List aF) (x23:Int) (v72:aA):Nat→(List Rat)→Int→Option (List Rat)
 |0,_,_=>none
 |k+1,x104,x110=>bif(decide (x110<(v72.t.length:Int))) then((bT v72.t x110).bind fun v122=>(bT x104 v122.dof).bind fun v127=>(bT a2 x23).bind fun v129=>(xU v122.k v129.f).bind fun v131=>(aCC v127 v131).bind fun v133=>(bT x104 v122.dof).bind fun v135=>(pC x104 v122.dof v133).bind fun x137=>(aS (x110+1)).bind fun v140=>cT K a2 x23 v72 k x137 v140) else(some x104)
def jQ (K:Nat) (a2:List aF) (x23:Int) (v72:aA) (recl30:(List Rat)→Int→Option (List Rat)) (x89:List Rat):Option (List Rat):=
 (cT K a2 x23 v72 K x89 0).bind fun x111=>jD K x23 recl30 x111
def cW (K:Nat) (a2:List aF) (x23:Int) (v72:aA):Nat→(List Rat)→Int→Option (List Rat)
 |0,_,_=>none
 |k+1,x82,x88=>bif(decide (x88<(v72.j.length:Int))) then((bT v72.j x88).bind fun v143=>(bT x82 v143.dof).bind fun v148=>(bT a2 x23).bind fun v150=>(xU v143.k v150.n).bind fun v152=>(aCC v148 v152).bind fun v154=>(bT x82 v143.dof).bind fun v156=>(pC x82 v143.dof v154).bind fun x158=>(aS (x88+1)).bind fun v161=>cW K a2 x23 v72 k x158 v161) else(some x82)
def cJ (K:Nat) (a0:aH) (a2:List aF):Nat→(List Rat)→Int→Option (List Rat)
 |0,_,_=>none
 |k+1,x17,x23=>bif(decide (x23<(a0.rows.length:Int))) then((bT a0.rows x23).bind fun v72=>(cW K a2 x23 v72 K x17 0).bind fun x89=>jQ K a2 x23 v72 (cJ K a0 a2 k) x89) else(some x17)
def bM (K:Nat) (a0:aH) (a1:List Rat) (a2:List aF):Option (List Rat):=
 (qG a1).bind fun v2=>(cJ K a0 a2 K v2 0).bind fun x24=>jO K a0 x24
theorem cX {K:Nat} {a0:aH} {a1:List Rat} {a2:List aF} {r:List Rat} (hF:bM K a0 a1 a2=some r):Ct Tryz.prog 74 [.va (aH.enc a0),.vc (pS cQ a1),.vc (pS aF.cod a2)] (.vc (pS cQ r)):=by
 unfold bM at hF
 refine aJ Tryz.func74 rfl (by kernel_rfl) Tryz.ntmps74 rfl (fun w0 M0=>?_)
 refine aN (aU (cE rfl rfl trivial (fun b1=>?_)))
 refine aX (bP (.inr rfl)) ⟨d9 cQ,trivial⟩ ?_
 obtain⟨v2,h3,hF⟩:=a8 hF
 refine go ?_ ?_
 refine aD6 [] [0] rfl (aBD h3) zU1 rfl rfl (by decide) ?_
 rintro _ _ ⟨b5,c6,n7,q8,rfl,rfl⟩
 refine go ?_ ?_
 refine aQ (bY (fun H E=>∃(x24:List Rat),jO K a0 x24=some r∧x24.length=n7∧H=[hO cQ b5 c6 44 n7 x24,⟨some b1,1,113,4,1,(aH.enc a0)⟩]∧E=[(3,.vc (pP (some b1) 0)),(7,.vc (pO b5 n7 c6))]) ?_ (fun Jj31=>?_))
 ·rintro _ _ ⟨x24,hF,q28,rfl,rfl⟩
  unfold jO at hF
  refine go ?_ ?_
  refine aQ (bY (fun H E=>∃(x46:List Rat),jS K x46=some r∧x46.length=n7∧H=[hO cQ b5 c6 44 n7 x46]∧E=[(7,.vc (pO b5 n7 c6))]) ?_ (fun Jj53=>?_))
  ·rintro _ _ ⟨x46,hF,q50,rfl,rfl⟩
   unfold jS at hF
   refine go ?_ ?_
   refine pU (pG (oI 0 [6,7,98] rfl q50 ⟨rfl,rfl,rfl,trivial⟩ rfl ?_))
   obtain rfl:=oN hF
   exact mT (.inl rfl) Tryz.results74 (.tmp rfl .nil) rfl rfl
  obtain⟨x46',hL,hRl52⟩:=a8 hF
  refine hY (fun k a w=>∃(x39:List Rat),∃(x45:Int),dQ K a0 k x39 x45=some x46'∧x39.length=n7∧hs _ [hO cQ b5 c6 44 n7 x39] [(7,.vc (pO b5 n7 c6)),(80,.vc (pS aG.cod a0.dofs)),(81,.vc (pI .i64 (a0.dofs.length:Int))),(82,.vc (pI .i64 x45))] a w) K (fun a w ⟨_,_,hF,_,_⟩=>by cases hF) (fun k a w ⟨x39,x45,hF,q43,hh⟩=>iA ?_ hh) (fun a w hh=>⟨x24,0,hL,q28,gJ [0] hh⟩)
  rw [dQ.eq_2] at hF
  refine go ?_ ?_
  refine aL hF rfl (fun h54 hF=>?_) (fun h54 hF=>?_)
  ·refine go ?_ ?_
   refine aQ ?_
   obtain⟨v55,h56,hF⟩:=a8 hF
   refine go ?_ ?_
   refine aO rfl tyZ108q (fun b57=>?_)
   obtain⟨v60,h61,hF⟩:=a8 hF
   obtain⟨v62,h63,hF⟩:=aY hF s7
   have hF:=r7 h61 hF
   refine go ?_ ?_
   refine dr [0,0,0,0,12,28,0,64,252,511,1023] 10 1 ?_ (fun bs59 G58=>?_)
   obtain⟨x66,h67,v69,h70,hF⟩:=wK hF
   refine go ?_ ?_
   exact aM (fun a w hh=>⟨x66,v69,hF,(bL h67 q43),gJ [1] hh⟩)
  refine cU ?_
  obtain rfl:=oN hF
  exact p9 Jj53 ⟨x39,hRl52,q43,rfl,rfl⟩ [0]
 obtain⟨x24',hL,hRl30⟩:=a8 hF
 refine hY (fun k a w=>∃(x17:List Rat),∃(x23:Int),cJ K a0 a2 k x17 x23=some x24'∧x17.length=n7∧hs _ [hO cQ b5 c6 44 n7 x17,⟨some b1,1,113,4,1,(aH.enc a0)⟩] [(2,.vc (pS aF.cod a2)),(3,.vc (pP (some b1) 0)),(7,.vc (pO b5 n7 c6)),(19,.vc (pS aA.cod a0.rows)),(20,.vc (pI .i64 (a0.rows.length:Int))),(21,.vc (pI .i64 x23))] a w) K (fun a w ⟨_,_,hF,_,_⟩=>by cases hF) (fun k a w ⟨x17,x23,hF,q21,hh⟩=>iA ?_ hh) (fun a w hh=>⟨v2,0,hL,q8,gJ [0,1] hh⟩)
 rw [cJ.eq_2] at hF
 refine go ?_ ?_
 refine aL hF rfl (fun h71 hF=>?_) (fun h71 hF=>?_)
 ·refine go ?_ ?_
  refine aQ ?_
  obtain⟨v72,h73,hF⟩:=a8 hF
  refine go ?_ ?_
  refine aO rfl tyZ51q (fun b74=>?_)
  refine go ?_ ?_
  refine aQ (bY (fun H E=>∃(x89:List Rat),jQ K a2 x23 v72 (cJ K a0 a2 k) x89=some x24'∧x89.length=n7∧H=[⟨some b74,1,51,18,1,(aA.enc v72)⟩,hO cQ b5 c6 44 n7 x89,⟨some b1,1,113,4,1,(aH.enc a0)⟩]∧E=[(2,.vc (pS aF.cod a2)),(3,.vc (pP (some b1) 0)),(7,.vc (pO b5 n7 c6)),(8,.vc (pI .i64 x23)),(9,.vc (pP (some b74) 0)),(19,.vc (pS aA.cod a0.rows)),(20,.vc (pI .i64 (a0.rows.length:Int))),(21,.vc (pI .i64 x23))]) ?_ (fun Jj96=>?_))
  ·rintro _ _ ⟨x89,hF,q93,rfl,rfl⟩
   unfold jQ at hF
   refine go ?_ ?_
   refine aQ (bY (fun H E=>∃(x111:List Rat),jD K x23 (cJ K a0 a2 k) x111=some x24'∧x111.length=n7∧H=[hO cQ b5 c6 44 n7 x111,⟨some b1,1,113,4,1,(aH.enc a0)⟩]∧E=[(2,.vc (pS aF.cod a2)),(3,.vc (pP (some b1) 0)),(7,.vc (pO b5 n7 c6)),(19,.vc (pS aA.cod a0.rows)),(20,.vc (pI .i64 (a0.rows.length:Int))),(21,.vc (pI .i64 x23))]) ?_ (fun Jj118=>?_))
   ·rintro _ _ ⟨x111,hF,q115,rfl,rfl⟩
    unfold jD at hF
    obtain⟨v119,h120,hF⟩:=a8 hF
    refine go ?_ ?_
    exact aM (fun a w hh=>⟨x111,v119,hF,q115,gJ [0,1] hh⟩)
   obtain⟨x111',hL,hRl117⟩:=a8 hF
   refine hY (fun k a w=>∃(x104:List Rat),∃(x110:Int),cT K a2 x23 v72 k x104 x110=some x111'∧x104.length=n7∧hs _ [hO cQ b5 c6 44 n7 x104,⟨some b1,1,113,4,1,(aH.enc a0)⟩] [(2,.vc (pS aF.cod a2)),(3,.vc (pP (some b1) 0)),(7,.vc (pO b5 n7 c6)),(8,.vc (pI .i64 x23)),(19,.vc (pS aA.cod a0.rows)),(20,.vc (pI .i64 (a0.rows.length:Int))),(21,.vc (pI .i64 x23)),(53,.vc (pS aC.cod v72.t)),(54,.vc (pI .i64 (v72.t.length:Int))),(55,.vc (pI .i64 x110))] a w) K (fun a w ⟨_,_,hF,_,_⟩=>by cases hF) (fun k a w ⟨x104,x110,hF,q108,hh⟩=>iA ?_ hh) (fun a w hh=>⟨x89,0,hL,q93,gJ [1,2] hh⟩)
   rw [cT.eq_2] at hF
   refine go ?_ ?_
   refine aL hF rfl (fun h121 hF=>?_) (fun h121 hF=>?_)
   ·refine go ?_ ?_
    refine aQ ?_
    obtain⟨v122,h123,hF⟩:=a8 hF
    refine go ?_ ?_
    refine aO rfl tyZ92q (fun b124=>?_)
    obtain⟨v127,h128,v129,h130,hF⟩:=wK hF
    obtain⟨v131,h132,hF⟩:=aY hF s7
    obtain⟨v133,h134,hF⟩:=aY hF xJ
    have hF:=r7 h128 hF
    refine go ?_ ?_
    refine dr [0,0,2,0,0,16,56,120,0,256,0,0,3072,7168,15360,32512,65528,131071,262143] 18 1 ?_ (fun bs126 G125=>?_)
    obtain⟨x137,h138,v140,h141,hF⟩:=wK hF
    refine go ?_ ?_
    exact aM (fun a w hh=>⟨x137,v140,hF,(bL h138 q108),gJ [1,2] hh⟩)
   refine cU ?_
   obtain rfl:=oN hF
   exact p9 Jj118 ⟨x104,hRl117,q108,rfl,rfl⟩ [0,1]
  obtain⟨x89',hL,hRl95⟩:=a8 hF
  refine hY (fun k a w=>∃(x82:List Rat),∃(x88:Int),cW K a2 x23 v72 k x82 x88=some x89'∧x82.length=n7∧hs _ [⟨some b74,1,51,18,1,(aA.enc v72)⟩,hO cQ b5 c6 44 n7 x82,⟨some b1,1,113,4,1,(aH.enc a0)⟩] [(2,.vc (pS aF.cod a2)),(3,.vc (pP (some b1) 0)),(7,.vc (pO b5 n7 c6)),(8,.vc (pI .i64 x23)),(9,.vc (pP (some b74) 0)),(19,.vc (pS aA.cod a0.rows)),(20,.vc (pI .i64 (a0.rows.length:Int))),(21,.vc (pI .i64 x23)),(27,.vc (pS aC.cod v72.j)),(28,.vc (pI .i64 (v72.j.length:Int))),(29,.vc (pI .i64 x88))] a w) K (fun a w ⟨_,_,hF,_,_⟩=>by cases hF) (fun k a w ⟨x82,x88,hF,q86,hh⟩=>iA ?_ hh) (fun a w hh=>⟨x17,0,hL,q21,gJ [0,1,2] hh⟩)
  rw [cW.eq_2] at hF
  refine go ?_ ?_
  refine aL hF rfl (fun h142 hF=>?_) (fun h142 hF=>?_)
  ·refine go ?_ ?_
   refine aQ ?_
   obtain⟨v143,h144,hF⟩:=a8 hF
   refine go ?_ ?_
   refine aO rfl tyZ92q (fun b145=>?_)
   obtain⟨v148,h149,v150,h151,hF⟩:=wK hF
   obtain⟨v152,h153,hF⟩:=aY hF s7
   obtain⟨v154,h155,hF⟩:=aY hF xJ
   have hF:=r7 h149 hF
   refine go ?_ ?_
   refine dr [0,0,2,0,0,16,56,120,0,256,0,0,3072,7168,15360,32512,65528,131071,262143] 18 1 ?_ (fun bs147 G146=>?_)
   obtain⟨x158,h159,v161,h162,hF⟩:=wK hF
   refine go ?_ ?_
   exact aM (fun a w hh=>⟨x158,v161,hF,(bL h159 q86),gJ [1,2,3] hh⟩)
  refine cU ?_
  obtain rfl:=oN hF
  exact p9 Jj96 ⟨x82,hRl95,q86,rfl,rfl⟩ [0,1,2]
 refine cU ?_
 obtain rfl:=oN hF
 exact p9 Jj31 ⟨x17,hRl30,q21,rfl,rfl⟩ [0,1]
def gW (c0:List Rat) (a0:Int) (a1:Rat):Option (List Rat):=
 (bT c0 a0).bind fun v8=>(pC c0 a0 a1).bind fun x10=>some x10
theorem rB {c0:List Rat} {a0:Int} {a1:Rat} {r:List Rat} (hF:gW c0 a0 a1=some r) {p0:Nat} {b3:Option Nat} {c4 n2:Nat} (q5:c0.length=n2):CtO Tryz.prog 157 [⟨some p0,1,24,1,1,[pO b3 n2 c4]⟩,hO cQ b3 c4 44 n2 c0] [.vc (pI .i64 a0),.va (eQ a1),.vc (pP (some p0) 0)] (fun Ho q=>∃b15 c16 n14,r.length=n14∧Ho=[⟨some p0,1,24,1,1,[pO b15 n14 c16]⟩,hO cQ b15 c16 44 n14 r]∧q=.any):=by
 unfold gW at hF
 refine aJ Tryz.func157 rfl (by kernel_rfl) Tryz.ntmps157 rfl (fun w0 M0=>?_)
 refine aN (aU (cE rfl rfl trivial (fun b7=>?_)))
 obtain⟨v8,h9,x10,h11,hF⟩:=wK hF
 obtain rfl:=oN hF
 refine go ?_ ?_
 exact aBi (.inr rfl) Tryz.results157 .nil rfl [1,2] rfl (by decide) ⟨b3,c4,n2,(bL h11 q5),rfl,rfl⟩
def pK (a0:List aF):Option (List aF):=
 (pA ([]:List aF) a0).bind fun x9=>some x9
theorem aBg {a0:List aF} {r:List aF} (hF:pK a0=some r):CtO Tryz.prog 158 [] [.vc (pS aF.cod a0)] (fun Ho q=>∃b18 c19 n17,r.length=n17∧Ho=[hO aF.cod b18 c19 58 n17 r]∧q=.vc (pO b18 n17 c19)):=by
 unfold pK at hF
 refine aJ Tryz.func158 rfl (by kernel_rfl) Tryz.ntmps158 rfl (fun w0 M0=>?_)
 refine aN (aU (yS aF.cod 58 rfl ?_))
 refine bI (aP (aN (aN (aU (nC ?_)))))
 refine aKP rfl Tryz.underlying29 rfl (fun h3=>?_) ?_
 ·skip
  subst h3
  have hF:some ([]:List aF)=some r:=by simpa [pA] using hF
  refine bI (aP (gV rfl ?_))
  refine aN (aU (yS aF.cod 58 rfl ?_))
  refine bI (aP (pU (pG ?_)))
  obtain rfl:=oN hF
  exact aBi (.inl rfl) Tryz.results158 (.tmp rfl .nil) rfl [0] rfl (by decide) ⟨none,0,0,rfl,rfl,rfl⟩
 refine bI (aP (sS rfl ?_))
 refine go ?_ ?_
 refine aEZ (yW (C:=aF.cod) (xs:=[]) (ps:=[]) (zs:=([]:List aF)) rfl tyS29 rfl trivial rfl) trivial (fun b6 _=>?_)
 refine nC ?_
 obtain⟨x9,h10,hF⟩:=a8 hF
 refine lY 0 rfl tyS29 rfl rfl rfl rfl rfl h10 (fun b11 c12 H13 e14=>?_)
 cases e14
 refine go ?_ ?_
 refine pU (pG ?_)
 obtain rfl:=oN hF
 exact aBi (.inl rfl) Tryz.results158 (.tmp rfl .nil) rfl [0] rfl (by decide) ⟨b11,c12,(0+a0.length),(bF h10 rfl),rfl,rfl⟩
def gS (c0:(List Nat×List (List Rat))) (c1:Int) (a0:Int) (a1:Rat):Option (List Nat×List (List Rat)):=
 (bT c0.1 a0).bind fun v17=>(bT c0.1 a0).bind fun v19=>(bT (c0.2.getD v19 []) c1).bind fun v21=>(aCC v21 a1).bind fun v23=>(bT (c0.2.getD v17 []) c1).bind fun v25=>(pC (c0.2.getD v17 []) c1 v23).bind fun x27=>some (c0.1,(c0.2.set v17 x27))
theorem rC {c0:(List Nat×List (List Rat))} {c1:Int} {a0:Int} {a1:Rat} {r:(List Nat×List (List Rat))} (hF:gS c0 c1 a0 a1=some r) {p0:Nat} {b5:Option Nat} {c6 n4:Nat} {g3:List xO} {N9:Nat} (q7:c0.1.length=n4) (q10:c0.2.length=N9) (q11:nB g3 c0.2) (q12:(∀k∈c0.1,k<N9)):CtO Tryz.prog 159 ([⟨some p0,1,62,1,1,[pO b5 n4 c6]⟩,hO (cH g3) b5 c6 24 n4 c0.1]++jI cQ 44 g3 c0.2) [.vc (pI .i64 a0),.va (eQ a1),.vc (pP (some p0) 0),.vc (pM (cI.e c1))] (fun Ho q=>∃b34 c35 n33 g32 N38,r.1.length=n33∧r.2.length=N38∧nB g32 r.2∧(∀k∈r.1,k<N38)∧Ho=([⟨some p0,1,62,1,1,[pO b34 n33 c35]⟩,hO (cH g32) b34 c35 24 n33 r.1]++jI cQ 44 g32 r.2)∧q=.any):=by
 unfold gS at hF
 refine aJ Tryz.func159 rfl (by kernel_rfl) Tryz.ntmps159 rfl (fun w0 M0=>?_)
 refine aN (aU (cE rfl rfl trivial (fun b14=>?_)))
 refine bI (aP ?_)
 obtain⟨v17,h18,hF⟩:=a8 hF
 have hF:=r7 h18 hF
 obtain⟨v21,h22,hF⟩:=a8 hF
 obtain⟨v23,h24,hF⟩:=aY hF xJ
 have hF:=r7 h22 hF
 refine jJ [0,0,3,7,0,0,0,96,224,0,992,2016,0,8160,16383,32767] 15 1 [.v (.vc (pO b5 n4 c6)),.v (.vc (pI .i64 a0)),.v (.vc (pE b5 a0 (cH g3).n 0)),.v (.vc (pO (kV g3 v17).1 (kV g3 v17).2.1 (kV g3 v17).2.2)),.v (.vc (pI .i64 c1)),.v (.vc (pO b5 n4 c6)),.v (.vc (pI .i64 a0)),.v (.vc (pE b5 a0 (cH g3).n 0)),.v (.vc (pO (kV g3 v17).1 (kV g3 v17).2.1 (kV g3 v17).2.2)),.v (.vc (pI .i64 c1)),.v (.vc (pE (kV g3 v17).1 c1 cQ.n 0)),.v (.va (eQ v21)),.v (.va (eQ a1)),.v (.va (eQ v23)),.v (.vc (pE (kV g3 v17).1 c1 cQ.n 0))] bA ⟨d0 (eV 1 1 rfl rfl rfl rfl (.one tyO62)) zU1,d0 (bP (.inl rfl)) zU1,d0 (l9 (C:=(cH g3)) 2 rfl tyS62 rfl q7 (aV h18).1 (aV h18).2.1) zU2,d0 (r9 (C:=(cH g3)) (k:=1) 2 rfl rfl h18 rfl (.one tyO24) rfl) zU1,d0 (aDX 1 rfl rfl (.one tyO3)) zU1,d0 (eV 1 1 rfl rfl rfl rfl (.one tyO62)) zU1,d0 (bP (.inl rfl)) zU1,d0 (l9 (C:=(cH g3)) 2 rfl tyS62 rfl q7 (aV h18).1 (aV h18).2.1) zU2,d0 (r9 (C:=(cH g3)) (k:=1) 2 rfl rfl h18 rfl (.one tyO24) rfl) zU1,d0 (aDX 1 rfl rfl (.one tyO3)) zU1,d0 (l9 (3+v17) rfl tyS24 (l8 3 rfl q11 q10 (q12 _ (bK h18))) (nD q11 q10 (q12 _ (bK h18))) (aV h22).1 (aV h22).2.1) zU2,d0 (r9 (k:=4) (3+v17) rfl (l8 3 rfl q11 q10 (q12 _ (bK h18))) h22 rfl (.agg tyA44) rfl) zU1,d0 (eV 0 4 rfl rfl rfl rfl (.agg tyA44)) zU1,d0 (bV rfl h24 rfl) zU2,d0 (l9 (3+v17) rfl tyS24 (l8 3 rfl q11 q10 (q12 _ (bK h18))) (nD q11 q10 (q12 _ (bK h18))) (aV h22).1 (aV h22).2.1) zU2,trivial⟩ (fun bs16 G15=>?_)
 obtain⟨x27,h28,hF⟩:=a8 hF
 refine nZ (yT (H':=([⟨some b14,1,44,4,1,(eQ a1)⟩,⟨some p0,1,62,1,1,[pO b5 n4 c6]⟩,hO (cH g3) b5 c6 24 n4 c0.1]++jI cQ 44 g3 (c0.2.set v17 x27))) (3+v17) rfl (aCO 3 rfl q11 q10 (q12 _ (bK h18))) h22 h28 tyA44.s (hH:=stN 3 rfl q11 q10 (q12 _ (bK h18)))) zU2 ?_
 refine bI ?_
 obtain rfl:=oN hF
 exact aA0 (.inr rfl) Tryz.results159 .nil rfl 3 [1,2] rfl rfl (by decide) ⟨b5,c6,n4,g3,N9,q7,(vM q10),(yY q11 q10 (q12 _ (bK h18)) (bL h28 rfl)),q12,rfl,rfl⟩
def kG (K:Nat) (x21:List Rat):Option (List Rat):=
 some x21
def cB (K:Nat) (a0:List Rat) (a1:List aE) (a2:aH):Nat→(List Rat)→Int→Option (List Rat)
 |0,_,_=>none
 |k+1,x14,x20=>bif(decide (x20<(a1.length:Int))) then((bT a1 x20).bind fun v30=>(bT a2.rows v30.row).bind fun v33=>bif(v30.kind==0) then((iH K v33.j a0).bind fun v37=>(gW x14 x20 v37).bind fun v39=>(aS (x20+1)).bind fun v47=>cB K a0 a1 a2 k v39 v47) else(bif(v30.kind==1) then((iH K v33.t a0).bind fun v50=>(gW x14 x20 v50).bind fun v52=>(aS (x20+1)).bind fun v60=>cB K a0 a1 a2 k v52 v60) else(bif(v30.kind==2) then((iH K v33.t a0).bind fun v63=>(aAk v63).bind fun v65=>(gW x14 x20 v65).bind fun v67=>(aS (x20+1)).bind fun v75=>cB K a0 a1 a2 k v67 v75) else((aS (x20+1)).bind fun v77=>cB K a0 a1 a2 k x14 v77)))) else(some x14)
def mS (K:Nat) (a0:List Rat) (a1:List aE) (a2:aH) (a3:List Rat):Option (List Rat):=
 (cB K a0 a1 a2 K a3 0).bind fun x21=>kG K x21
theorem yA {K:Nat} {a0:List Rat} {a1:List aE} {a2:aH} {a3:List Rat} {r:List Rat} (hF:mS K a0 a1 a2 a3=some r) {p0:Nat} {p1:Nat} {p2:Nat} {b2:Option Nat} {c3 n4:Nat} (q5:a3.length=n4):CtO Tryz.prog 156 [⟨some p0,1,24,1,1,[pO b2 n4 c3]⟩,⟨some p1,1,114,1,1,[pS aE.cod a1]⟩,⟨some p2,1,113,4,1,(aH.enc a2)⟩,hO cQ b2 c3 44 n4 a3] [.vc (pS cQ a0),.vc (pF 157 [pP (some p0) 0]),.vc (pP (some p1) 0),.vc (pP (some p2) 0)] (fun Ho q=>∃b1079 c1080 n1081,r.length=n1081∧Ho=[⟨some p0,1,24,1,1,[pO b1079 n1081 c1080]⟩,⟨some p1,1,114,1,1,[pS aE.cod a1]⟩,⟨some p2,1,113,4,1,(aH.enc a2)⟩,hO cQ b1079 c1080 44 n1081 r]∧q=.any):=by
 unfold mS at hF
 refine aJ Tryz.func156 rfl (by kernel_rfl) Tryz.ntmps156 rfl (fun w0 M0=>?_)
 refine go ?_ ?_
 refine aQ (bY (fun H E=>∃(x21:List Rat),∃(b22:Option Nat),∃(c23:Nat),∃(n24:Nat),kG K x21=some r∧x21.length=n24∧H=[⟨some p0,1,24,1,1,[pO b22 n24 c23]⟩,⟨some p1,1,114,1,1,[pS aE.cod a1]⟩,⟨some p2,1,113,4,1,(aH.enc a2)⟩,hO cQ b22 c23 44 n24 x21]∧E=[]) ?_ (fun Jj28=>?_))
 ·rintro _ _ ⟨x21,b22,c23,n24,hF,q25,rfl,rfl⟩
  unfold kG at hF
  obtain rfl:=oN hF
  exact aBi (.inr rfl) Tryz.results156 .nil rfl [0,1,2,3] rfl (by decide) ⟨b22,c23,n24,q25,rfl,rfl⟩
 obtain⟨x21',hL,hRl27⟩:=a8 hF
 refine hY (fun k a w=>∃(x14:List Rat),∃(x20:Int),∃(b15:Option Nat),∃(c16:Nat),∃(n17:Nat),cB K a0 a1 a2 k x14 x20=some x21'∧x14.length=n17∧hs _ [⟨some p0,1,24,1,1,[pO b15 n17 c16]⟩,⟨some p1,1,114,1,1,[pS aE.cod a1]⟩,⟨some p2,1,113,4,1,(aH.enc a2)⟩,hO cQ b15 c16 44 n17 x14] [(0,.vc (pS cQ a0)),(1,.vc (pF 157 [pP (some p0) 0])),(3,.vc (pP (some p2) 0)),(9,.vc (pS aE.cod a1)),(10,.vc (pI .i64 (a1.length:Int))),(11,.vc (pI .i64 x20))] a w) K (fun a w ⟨_,_,_,_,_,hF,_,_⟩=>by cases hF) (fun k a w ⟨x14,x20,b15,c16,n17,hF,q18,hh⟩=>iA ?_ hh) (fun a w hh=>⟨a3,0,b2,c3,n4,hL,q5,gJ [0,1,2,3] hh⟩)
 rw [cB.eq_2] at hF
 refine go ?_ ?_
 refine aL hF rfl (fun h29 hF=>?_) (fun h29 hF=>?_)
 ·refine go ?_ ?_
  refine aQ ?_
  obtain⟨v30,h31,hF⟩:=a8 hF
  refine go ?_ ?_
  refine aO rfl tyZ118q (fun b32=>?_)
  obtain⟨v33,h34,hF⟩:=a8 hF
  refine go ?_ ?_
  refine aO rfl tyZ51q (fun b35=>?_)
  refine go ?_ ?_
  refine aQ (go ?_ ?_)
  refine aL hF rfl (fun h36 hF=>?_) (fun h36 hF=>?_)
  ·obtain⟨v37,h38,hF⟩:=aY hF lK
   obtain⟨v39,h40,hF⟩:=a8 hF
   refine go ?_ ?_
   refine aBC (f:=157) (cs:=[pP (some p0) 0]) (pre:=[.vc (pI .i64 x20),.va (eQ v37)]) (xs:=[.tmp 27,.tmp 31]) [2,5] [0,1,3,4] rfl (rB h40 q18) ⟨rfl,rfl,rfl,trivial⟩ rfl rfl (by decide) ?_
   rintro _ _ ⟨b43,c44,n42,q45,rfl,rfl⟩
   obtain⟨v47,h48,hF⟩:=a8 hF
   refine go ?_ ?_
   exact aM (fun a w hh=>⟨v39,v47,b43,c44,n42,hF,q45,gJ [0,4,5,1] hh⟩)
  refine go ?_ ?_
  refine aL hF rfl (fun h49 hF=>?_) (fun h49 hF=>?_)
  ·obtain⟨v50,h51,hF⟩:=aY hF lK
   obtain⟨v52,h53,hF⟩:=a8 hF
   refine go ?_ ?_
   refine aBC (f:=157) (cs:=[pP (some p0) 0]) (pre:=[.vc (pI .i64 x20),.va (eQ v50)]) (xs:=[.tmp 36,.tmp 40]) [2,5] [0,1,3,4] rfl (rB h53 q18) ⟨rfl,rfl,rfl,trivial⟩ rfl rfl (by decide) ?_
   rintro _ _ ⟨b56,c57,n55,q58,rfl,rfl⟩
   obtain⟨v60,h61,hF⟩:=a8 hF
   refine go ?_ ?_
   exact aM (fun a w hh=>⟨v52,v60,b56,c57,n55,hF,q58,gJ [0,4,5,1] hh⟩)
  refine go ?_ ?_
  refine aL hF rfl (fun h62 hF=>?_) (fun h62 hF=>?_)
  ·obtain⟨v63,h64,hF⟩:=aY hF lK
   obtain⟨v65,h66,hF⟩:=aY hF rZ
   obtain⟨v67,h68,hF⟩:=a8 hF
   refine go ?_ ?_
   refine aBC (f:=157) (cs:=[pP (some p0) 0]) (pre:=[.vc (pI .i64 x20),.va (eQ v65)]) (xs:=[.tmp 45,.tmp 50]) [2,5] [0,1,3,4] rfl (rB h68 q18) ⟨rfl,rfl,rfl,trivial⟩ rfl rfl (by decide) ?_
   rintro _ _ ⟨b71,c72,n70,q73,rfl,rfl⟩
   obtain⟨v75,h76,hF⟩:=a8 hF
   refine go ?_ ?_
   exact aM (fun a w hh=>⟨v67,v75,b71,c72,n70,hF,q73,gJ [0,4,5,1] hh⟩)
  obtain⟨v77,h78,hF⟩:=a8 hF
  refine go ?_ ?_
  exact aM (fun a w hh=>⟨x14,v77,b15,c16,n17,hF,q18,gJ [2,3,4,5] hh⟩)
 refine cU ?_
 obtain rfl:=oN hF
 exact p9 Jj28 ⟨x14,b15,c16,n17,hRl27,q18,rfl,rfl⟩ [0,1,2,3]
def kI (K:Nat) (x40:List Nat) (x46:List (List Rat)):Option ((List Nat)×(List (List Rat))):=
 some (x40,x46)
def cC (K:Nat) (a0:List Rat) (a1:Int) (a2:List aE) (a3:aH):Nat→(List Nat)→(List (List Rat))→Int→Option ((List Nat)×(List (List Rat)))
 |0,_,_,_=>none
 |k+1,x27,x33,x39=>bif(decide (x39<(a2.length:Int))) then((bT a2 x39).bind fun v55=>(bT a3.rows v55.row).bind fun v58=>bif(v55.kind==0) then((iH K v58.j a0).bind fun v62=>(gS (x27,x33) a1 x39 v62).bind fun v64=>(aS (x39+1)).bind fun v79=>cC K a0 a1 a2 a3 k v64.1 v64.2 v79) else(bif(v55.kind==1) then((iH K v58.t a0).bind fun v82=>(gS (x27,x33) a1 x39 v82).bind fun v84=>(aS (x39+1)).bind fun v99=>cC K a0 a1 a2 a3 k v84.1 v84.2 v99) else(bif(v55.kind==2) then((iH K v58.t a0).bind fun v102=>(aAk v102).bind fun v104=>(gS (x27,x33) a1 x39 v104).bind fun v106=>(aS (x39+1)).bind fun v121=>cC K a0 a1 a2 a3 k v106.1 v106.2 v121) else((aS (x39+1)).bind fun v123=>cC K a0 a1 a2 a3 k x27 x33 v123)))) else(some (x27,x33))
def cL (K:Nat) (a0:List Rat) (a1:Int) (a2:List aE) (a3:aH) (a4:List Nat) (a5:List (List Rat)):Option ((List Nat)×(List (List Rat))):=
 (cC K a0 a1 a2 a3 K a4 a5 0).bind fun(x40,x46)=>kI K x40 x46
theorem fZ {K:Nat} {a0:List Rat} {a1:Int} {a2:List aE} {a3:aH} {a4:List Nat} {a5:List (List Rat)} {r:(List Nat)×(List (List Rat))} (hF:cL K a0 a1 a2 a3 a4 a5=some r) {p0:Nat} {p1:Nat} {p2:Nat} {b3:Option Nat} {c4 n5:Nat} {g8:List xO} {N9:Nat} (q6:a4.length=n5) (q10:a5.length=N9) (q11:nB g8 a5) (q12:∀k∈a4,k<N9):CtO Tryz.prog 156 ([⟨some p0,1,62,1,1,[pO b3 n5 c4]⟩,⟨some p1,1,114,1,1,[pS aE.cod a2]⟩,⟨some p2,1,113,4,1,(aH.enc a3)⟩,hO (cH g8) b3 c4 24 n5 a4]++jI cQ 44 g8 a5) [.vc (pS cQ a0),.vc (pF 159 [pP (some p0) 0,pM (cI.e a1)]),.vc (pP (some p1) 0),.vc (pP (some p2) 0)] (fun Ho q=>∃b1125 c1126 n1127 g1130 N1131,r.1.length=n1127∧r.2.length=N1131∧nB g1130 r.2∧(∀k∈r.1,k<N1131)∧Ho=([⟨some p0,1,62,1,1,[pO b1125 n1127 c1126]⟩,⟨some p1,1,114,1,1,[pS aE.cod a2]⟩,⟨some p2,1,113,4,1,(aH.enc a3)⟩,hO (cH g1130) b1125 c1126 24 n1127 r.1]++jI cQ 44 g1130 r.2)∧q=.any):=by
 unfold cL at hF
 refine aJ Tryz.func156 rfl (by kernel_rfl) Tryz.ntmps156 rfl (fun w0 M0=>?_)
 refine go ?_ ?_
 refine aQ (bY (fun H E=>∃(x40:List Nat),∃(x46:List (List Rat)),∃(b41:Option Nat),∃(c42:Nat),∃(n43:Nat),∃(g47:List xO),∃(N48:Nat),kI K x40 x46=some r∧x40.length=n43∧x46.length=N48∧nB g47 x46∧(∀k∈x40,k<N48)∧H=([⟨some p0,1,62,1,1,[pO b41 n43 c42]⟩,⟨some p1,1,114,1,1,[pS aE.cod a2]⟩,⟨some p2,1,113,4,1,(aH.enc a3)⟩,hO (cH g47) b41 c42 24 n43 x40]++jI cQ 44 g47 x46)∧E=[]) ?_ (fun Jj53=>?_))
 ·rintro _ _ ⟨x40,x46,b41,c42,n43,g47,N48,hF,q44,q49,q50,q51,rfl,rfl⟩
  unfold kI at hF
  obtain rfl:=oN hF
  exact aA0 (.inr rfl) Tryz.results156 .nil rfl 4 [0,1,2,3] rfl rfl (by decide) ⟨b41,c42,n43,g47,N48,q44,q49,q50,q51,rfl,rfl⟩
 obtain⟨⟨x40',x46'⟩,hL,hRl52⟩:=a8 hF
 refine hY (fun k a w=>∃(x27:List Nat),∃(x33:List (List Rat)),∃(x39:Int),∃(b28:Option Nat),∃(c29:Nat),∃(n30:Nat),∃(g34:List xO),∃(N35:Nat),cC K a0 a1 a2 a3 k x27 x33 x39=some (x40',x46')∧x27.length=n30∧x33.length=N35∧nB g34 x33∧(∀k∈x27,k<N35)∧hs _ ([⟨some p0,1,62,1,1,[pO b28 n30 c29]⟩,⟨some p1,1,114,1,1,[pS aE.cod a2]⟩,⟨some p2,1,113,4,1,(aH.enc a3)⟩,hO (cH g34) b28 c29 24 n30 x27]++jI cQ 44 g34 x33) [(0,.vc (pS cQ a0)),(1,.vc (pF 159 [pP (some p0) 0,pM (cI.e a1)])),(3,.vc (pP (some p2) 0)),(9,.vc (pS aE.cod a2)),(10,.vc (pI .i64 (a2.length:Int))),(11,.vc (pI .i64 x39))] a w) K (fun a w ⟨_,_,_,_,_,_,_,_,hF,_,_,_,_,_⟩=>by cases hF) (fun k a w ⟨x27,x33,x39,b28,c29,n30,g34,N35,hF,q31,q36,q37,q38,hh⟩=>iA ?_ hh) (fun a w hh=>⟨a4,a5,0,b3,c4,n5,g8,N9,hL,q6,q10,q11,q12,cS 4 [0,1,2,3] rfl rfl (by decide) (by exact⟨rfl,rfl,rfl,rfl,rfl,rfl,trivial⟩) hh⟩)
 rw [cC.eq_2] at hF
 refine go ?_ ?_
 refine aL hF rfl (fun h54 hF=>?_) (fun h54 hF=>?_)
 ·refine go ?_ ?_
  refine aQ ?_
  obtain⟨v55,h56,hF⟩:=a8 hF
  refine go ?_ ?_
  refine aO rfl tyZ118q (fun b57=>?_)
  obtain⟨v58,h59,hF⟩:=a8 hF
  refine go ?_ ?_
  refine aO rfl tyZ51q (fun b60=>?_)
  refine go ?_ ?_
  refine aQ (go ?_ ?_)
  refine aL hF rfl (fun h61 hF=>?_) (fun h61 hF=>?_)
  ·obtain⟨v62,h63,hF⟩:=aY hF lK
   obtain⟨v64,h65,hF⟩:=a8 hF
   refine go ?_ ?_
   refine wW (f:=159) (cs:=[pP (some p0) 0,pM (cI.e a1)]) (pre:=[.vc (pI .i64 x39),.va (eQ v62)]) (xs:=[.tmp 27,.tmp 31]) 6 [2,5] [0,1,3,4] rfl (rC h65 q31 q36 q37 q38) ⟨rfl,rfl,rfl,trivial⟩ rfl rfl rfl (by decide) ?_
   rintro _ _ ⟨b70,c71,n69,g68,N74,q72,q75,q76,q77,rfl,rfl⟩
   refine tR (rW [⟨some p0,1,62,1,1,[pO b70 n69 c71]⟩,hO (cH g68) b70 c71 24 n69 v64.1] (jI cQ 44 g68 v64.2) [⟨some b60,1,51,18,1,(aA.enc v58)⟩,⟨some b57,1,118,2,1,(aE.enc v55)⟩,⟨some p1,1,114,1,1,[pS aE.cod a2]⟩,⟨some p2,1,113,4,1,(aH.enc a3)⟩]) ?_
   obtain⟨v79,h80,hF⟩:=a8 hF
   refine go ?_ ?_
   exact aM (fun a w hh=>⟨v64.1,v64.2,v79,b70,c71,n69,g68,N74,hF,q72,q75,q76,q77,cS 6 [0,4,5,1] rfl rfl (by decide) (by exact⟨rfl,rfl,rfl,rfl,rfl,rfl,trivial⟩) hh⟩)
  refine go ?_ ?_
  refine aL hF rfl (fun h81 hF=>?_) (fun h81 hF=>?_)
  ·obtain⟨v82,h83,hF⟩:=aY hF lK
   obtain⟨v84,h85,hF⟩:=a8 hF
   refine go ?_ ?_
   refine wW (f:=159) (cs:=[pP (some p0) 0,pM (cI.e a1)]) (pre:=[.vc (pI .i64 x39),.va (eQ v82)]) (xs:=[.tmp 36,.tmp 40]) 6 [2,5] [0,1,3,4] rfl (rC h85 q31 q36 q37 q38) ⟨rfl,rfl,rfl,trivial⟩ rfl rfl rfl (by decide) ?_
   rintro _ _ ⟨b90,c91,n89,g88,N94,q92,q95,q96,q97,rfl,rfl⟩
   refine tR (rW [⟨some p0,1,62,1,1,[pO b90 n89 c91]⟩,hO (cH g88) b90 c91 24 n89 v84.1] (jI cQ 44 g88 v84.2) [⟨some b60,1,51,18,1,(aA.enc v58)⟩,⟨some b57,1,118,2,1,(aE.enc v55)⟩,⟨some p1,1,114,1,1,[pS aE.cod a2]⟩,⟨some p2,1,113,4,1,(aH.enc a3)⟩]) ?_
   obtain⟨v99,h100,hF⟩:=a8 hF
   refine go ?_ ?_
   exact aM (fun a w hh=>⟨v84.1,v84.2,v99,b90,c91,n89,g88,N94,hF,q92,q95,q96,q97,cS 6 [0,4,5,1] rfl rfl (by decide) (by exact⟨rfl,rfl,rfl,rfl,rfl,rfl,trivial⟩) hh⟩)
  refine go ?_ ?_
  refine aL hF rfl (fun h101 hF=>?_) (fun h101 hF=>?_)
  ·obtain⟨v102,h103,hF⟩:=aY hF lK
   obtain⟨v104,h105,hF⟩:=aY hF rZ
   obtain⟨v106,h107,hF⟩:=a8 hF
   refine go ?_ ?_
   refine wW (f:=159) (cs:=[pP (some p0) 0,pM (cI.e a1)]) (pre:=[.vc (pI .i64 x39),.va (eQ v104)]) (xs:=[.tmp 45,.tmp 50]) 6 [2,5] [0,1,3,4] rfl (rC h107 q31 q36 q37 q38) ⟨rfl,rfl,rfl,trivial⟩ rfl rfl rfl (by decide) ?_
   rintro _ _ ⟨b112,c113,n111,g110,N116,q114,q117,q118,q119,rfl,rfl⟩
   refine tR (rW [⟨some p0,1,62,1,1,[pO b112 n111 c113]⟩,hO (cH g110) b112 c113 24 n111 v106.1] (jI cQ 44 g110 v106.2) [⟨some b60,1,51,18,1,(aA.enc v58)⟩,⟨some b57,1,118,2,1,(aE.enc v55)⟩,⟨some p1,1,114,1,1,[pS aE.cod a2]⟩,⟨some p2,1,113,4,1,(aH.enc a3)⟩]) ?_
   obtain⟨v121,h122,hF⟩:=a8 hF
   refine go ?_ ?_
   exact aM (fun a w hh=>⟨v106.1,v106.2,v121,b112,c113,n111,g110,N116,hF,q114,q117,q118,q119,cS 6 [0,4,5,1] rfl rfl (by decide) (by exact⟨rfl,rfl,rfl,rfl,rfl,rfl,trivial⟩) hh⟩)
  obtain⟨v123,h124,hF⟩:=a8 hF
  refine go ?_ ?_
  exact aM (fun a w hh=>⟨x27,x33,v123,b28,c29,n30,g34,N35,hF,q31,q36,q37,q38,cS 6 [2,3,4,5] rfl rfl (by decide) (by exact⟨rfl,rfl,rfl,rfl,rfl,rfl,trivial⟩) hh⟩)
 refine cU ?_
 obtain⟨rfl,rfl⟩:=sm2 hF
 exact qW Jj53 ⟨x27,x33,b28,c29,n30,g34,N35,hRl52,q31,q36,q37,q38,rfl,rfl⟩ 4 [0,1,2,3] rfl rfl trivial
end Go.Proofs.YtcjdedkdoagifaaGreat
