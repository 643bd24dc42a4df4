/- Texts of the proof, part 4: Q1. -/
import Derived.Test.YtcjdedkdoagifaaGreatZ3
set_option linter.unusedSimpArgs false
set_option linter.unusedVariables false
set_option maxRecDepth 100000
namespace Go.Proofs.YtcjdedkdoagifaaGreat
structure aGR where
 inv:Rat
 load:Rat
 bound:Bool
 lo:Rat
 hi:Rat
noncomputable def aGR.enc (x:aGR):List CP:=(eQ x.inv)++(eQ x.load)++[pB x.bound]++(eQ x.lo)++(eQ x.hi)
noncomputable def aGR.cod:Cd aGR:=⟨17,aGR.enc,fun _=>rfl⟩
structure aG where
 inv:Rat
 load:Rat
 bound:Bool
 lo:Rat
 hi:Rat
noncomputable def aG.enc (x:aG):List CP:=(eQ x.inv)++(eQ x.load)++[pB x.bound]++(eQ x.lo)++(eQ x.hi)
noncomputable def aG.cod:Cd aG:=⟨17,aG.enc,fun _=>rfl⟩
structure aE where
 dof:Int
 k:Rat
noncomputable def aE.enc (x:aE):List CP:=[pI .i64 x.dof]++(eQ x.k)
noncomputable def aE.cod:Cd aE:=⟨5,aE.enc,fun _=>rfl⟩
structure aA where
 kind:Int
 a:Int
 b:Int
 edge:Int
 gap:Rat
 j:List aE
 t:List aE
 mu:Rat
 e:Rat
noncomputable def aA.enc (x:aA):List CP:=[pI .i64 x.kind]++[pI .i64 x.a]++[pI .i64 x.b]++[pI .i64 x.edge]++(eQ x.gap)++[pS aE.cod x.j]++[pS aE.cod x.t]++(eQ x.mu)++(eQ x.e)
noncomputable def aA.cod:Cd aA:=⟨18,aA.enc,fun _=>rfl⟩
structure aHJ where
 dofs:List aG
 load:List Rat
 v:List Rat
 rows:List aA
noncomputable def aHJ.enc (x:aHJ):List CP:=[pS aG.cod x.dofs]++[pS cQ x.load]++[pS cQ x.v]++[pS aA.cod x.rows]
noncomputable def aHJ.cod:Cd aHJ:=⟨4,aHJ.enc,fun _=>rfl⟩
structure aGZ where
 row:Int
 kind:Int
noncomputable def aGZ.enc (x:aGZ):List CP:=[pI .i64 x.row]++[pI .i64 x.kind]
noncomputable def aGZ.cod:Cd aGZ:=⟨2,aGZ.enc,fun _=>rfl⟩
structure aG7 where
 n:Int
 rows:List (List Rat)
 basic:List Int
noncomputable def aG7.enc (x:aG7):List CP:=[pI .i64 x.n]++[pS (xC cQ) x.rows]++[pS cI x.basic]
noncomputable def aG7.cod:Cd aG7:=⟨3,aG7.enc,fun _=>rfl⟩
structure aH2 where
 row:Int
 kind:Int
noncomputable def aH2.enc (x:aH2):List CP:=[pI .i64 x.row]++[pI .i64 x.kind]
noncomputable def aH2.cod:Cd aH2:=⟨2,aH2.enc,fun _=>rfl⟩
structure aMS where
 dofs:List aG
 load:List Rat
 v:List Rat
 rows:List aA
noncomputable def aMS.enc (x:aMS):List CP:=[pS aG.cod x.dofs]++[pS cQ x.load]++[pS cQ x.v]++[pS aA.cod x.rows]
noncomputable def aMS.cod:Cd aMS:=⟨4,aMS.enc,fun _=>rfl⟩
structure aNh where
 kind:Int
 a:Int
 b:Int
 edge:Int
 gap:Rat
 j:List aE
 t:List aE
 mu:Rat
 e:Rat
noncomputable def aNh.enc (x:aNh):List CP:=[pI .i64 x.kind]++[pI .i64 x.a]++[pI .i64 x.b]++[pI .i64 x.edge]++(eQ x.gap)++[pS aE.cod x.j]++[pS aE.cod x.t]++(eQ x.mu)++(eQ x.e)
noncomputable def aNh.cod:Cd aNh:=⟨18,aNh.enc,fun _=>rfl⟩
structure aLz where
 n:Rat
 f:Rat
noncomputable def aLz.enc (x:aLz):List CP:=(eQ x.n)++(eQ x.f)
noncomputable def aLz.cod:Cd aLz:=⟨8,aLz.enc,fun _=>rfl⟩
structure aNa where
 z:List Rat
 w:List Rat
 pivots:Int
noncomputable def aNa.enc (x:aNa):List CP:=[pS cQ x.z]++[pS cQ x.w]++[pI .i64 x.pivots]
noncomputable def aNa.cod:Cd aNa:=⟨3,aNa.enc,fun _=>rfl⟩
structure aMB where
 dof:Int
 k:Rat
noncomputable def aMB.enc (x:aMB):List CP:=[pI .i64 x.dof]++(eQ x.k)
noncomputable def aMB.cod:Cd aMB:=⟨5,aMB.enc,fun _=>rfl⟩
structure aO where
 z:List Rat
 w:List Rat
 pivots:Int
noncomputable def aO.enc (x:aO):List CP:=[pS cQ x.z]++[pS cQ x.w]++[pI .i64 x.pivots]
noncomputable def aO.cod:Cd aO:=⟨3,aO.enc,fun _=>rfl⟩
structure aF where
 n:Rat
 f:Rat
noncomputable def aF.enc (x:aF):List CP:=(eQ x.n)++(eQ x.f)
noncomputable def aF.cod:Cd aF:=⟨8,aF.enc,fun _=>rfl⟩
structure oM where
 n:Int
 rows:List (List Rat)
 basic:List Int
noncomputable def oM.enc (x:oM):List CP:=[pI .i64 x.n]++[pS (xC cQ) x.rows]++[pS cI x.basic]
noncomputable def oM.cod:Cd oM:=⟨3,oM.enc,fun _=>rfl⟩
structure aK where
 dofs:List aG
 load:List Rat
 v:List Rat
 rows:List aA
noncomputable def aK.enc (x:aK):List CP:=[pS aG.cod x.dofs]++[pS cQ x.load]++[pS cQ x.v]++[pS aA.cod x.rows]
noncomputable def aK.cod:Cd aK:=⟨4,aK.enc,fun _=>rfl⟩
structure aQ where
 row:Int
 kind:Int
noncomputable def aQ.enc (x:aQ):List CP:=[pI .i64 x.row]++[pI .i64 x.kind]
noncomputable def aQ.cod:Cd aQ:=⟨2,aQ.enc,fun _=>rfl⟩
structure aD where
 dofs:List aG
 load:List Rat
 v:List Rat
 rows:List aA
noncomputable def aD.enc (x:aD):List CP:=[pS aG.cod x.dofs]++[pS cQ x.load]++[pS cQ x.v]++[pS aA.cod x.rows]
noncomputable def aD.cod:Cd aD:=⟨4,aD.enc,fun _=>rfl⟩
structure aC where
 row:Int
 kind:Int
noncomputable def aC.enc (x:aC):List CP:=[pI .i64 x.row]++[pI .i64 x.kind]
noncomputable def aC.cod:Cd aC:=⟨2,aC.enc,fun _=>rfl⟩
instance tyA108:TyA Tryz.prog 108 17:=mkA Tryz.underlying108 rfl (by kernel_rfl)
instance tyA113:TyA Tryz.prog 113 4:=mkA Tryz.underlying113 rfl (by kernel_rfl)
instance tyA118:TyA Tryz.prog 118 2:=mkA Tryz.underlying118 rfl (by kernel_rfl)
instance tyA27:TyA Tryz.prog 27 4:=mkA Tryz.underlying27 rfl (by kernel_rfl)
instance tyA51:TyA Tryz.prog 51 18:=mkA Tryz.underlying51 rfl (by kernel_rfl)
instance tyA58:TyA Tryz.prog 58 8:=mkA Tryz.underlying58 rfl (by kernel_rfl)
instance tyA68:TyA Tryz.prog 68 3:=mkA Tryz.underlying68 rfl (by kernel_rfl)
instance tyA92:TyA Tryz.prog 92 5:=mkA Tryz.underlying92 rfl (by kernel_rfl)
theorem tyB108q:TyB Tryz.prog 108 [(0,4),(4,4),(8,1),(9,4),(13,4)] ((eQ 0)++(eQ 0)++[pB false]++(eQ 0)++(eQ 0)):=mkB (z:=.agg #[.bool false,.slice none 0 0,.bool false,.slice none 0 0,.bool false,.slice none 0 0,.bool false,.slice none 0 0,.bool false,.bool false,.slice none 0 0,.bool false,.slice none 0 0,.bool false,.slice none 0 0,.bool false,.slice none 0 0]) (by kernel_rfl) Tryz.underlying108 (by kernel_rfl) (fun M=>aZ.app (aZ.app (aZ.app (aZ.app (eQ0 M) (eQ0 M)) (show aZ M [pB false] [.bool false] from zU1)) (eQ0 M)) (eQ0 M))
theorem tyB113q:TyB Tryz.prog 113 [(0,1),(1,1),(2,1),(3,1)] ([pS aG.cod ([]:List aG)]++[pS cQ ([]:List Rat)]++[pS cQ ([]:List Rat)]++[pS aA.cod ([]:List aA)]):=mkB (z:=.agg #[.slice none 0 0,.slice none 0 0,.slice none 0 0,.slice none 0 0]) (by kernel_rfl) Tryz.underlying113 (by kernel_rfl) (fun M=>aZ.app (aZ.app (aZ.app (show aZ M [pS aG.cod ([]:List aG)] [.slice none 0 0] from⟨eJ aG.cod M,trivial⟩) (show aZ M [pS cQ ([]:List Rat)] [.slice none 0 0] from⟨eJ cQ M,trivial⟩)) (show aZ M [pS cQ ([]:List Rat)] [.slice none 0 0] from⟨eJ cQ M,trivial⟩)) (show aZ M [pS aA.cod ([]:List aA)] [.slice none 0 0] from⟨eJ aA.cod M,trivial⟩))
theorem tyB118q:TyB Tryz.prog 118 [(0,1),(1,1)] ([pI .i64 0]++[pI .i64 0]):=mkB (z:=.agg #[.int .i64 0,.int .i64 0]) (by kernel_rfl) Tryz.underlying118 (by kernel_rfl) (fun M=>aZ.app (show aZ M [pI .i64 0] [.int .i64 0] from zU1) (show aZ M [pI .i64 0] [.int .i64 0] from zU1))
theorem tyB151_o1_o2q:TyB Tryz.prog 151 [(0,1),(1,1),(2,1)] ([pI .i64 0]++[pO none 0 0]++[pO none 0 0]):=mkB (z:=.agg #[.int .i64 0,.slice none 0 0,.slice none 0 0]) (by kernel_rfl) Tryz.underlying151 (by kernel_rfl) (fun M=>aZ.app (aZ.app (show aZ M [pI .i64 0] [.int .i64 0] from zU1) (show aZ M [pO none 0 0] [.slice none 0 0] from⟨.inl rfl,trivial⟩)) (show aZ M [pO none 0 0] [.slice none 0 0] from⟨.inl rfl,trivial⟩))
theorem tyB27q:TyB Tryz.prog 27 [(0,1),(1,1),(2,1),(3,1)] ([pS aG.cod ([]:List aG)]++[pS cQ ([]:List Rat)]++[pS cQ ([]:List Rat)]++[pS aA.cod ([]:List aA)]):=mkB (z:=.agg #[.slice none 0 0,.slice none 0 0,.slice none 0 0,.slice none 0 0]) (by kernel_rfl) Tryz.underlying27 (by kernel_rfl) (fun M=>aZ.app (aZ.app (aZ.app (show aZ M [pS aG.cod ([]:List aG)] [.slice none 0 0] from⟨eJ aG.cod M,trivial⟩) (show aZ M [pS cQ ([]:List Rat)] [.slice none 0 0] from⟨eJ cQ M,trivial⟩)) (show aZ M [pS cQ ([]:List Rat)] [.slice none 0 0] from⟨eJ cQ M,trivial⟩)) (show aZ M [pS aA.cod ([]:List aA)] [.slice none 0 0] from⟨eJ aA.cod M,trivial⟩))
theorem tyB44q:TyB Tryz.prog 44 [(0,2),(2,2)] (eQ 0):=mkB (z:=.agg #[.bool false,.slice none 0 0,.bool false,.slice none 0 0]) (by kernel_rfl) Tryz.underlying44 (by kernel_rfl) (fun M=>eQ0 M)
theorem tyB51q:TyB Tryz.prog 51 [(0,1),(1,1),(2,1),(3,1),(4,4),(8,1),(9,1),(10,4),(14,4)] ([pI .i64 0]++[pI .i64 0]++[pI .i64 0]++[pI .i64 0]++(eQ 0)++[pS aE.cod ([]:List aE)]++[pS aE.cod ([]:List aE)]++(eQ 0)++(eQ 0)):=mkB (z:=.agg #[.int .i64 0,.int .i64 0,.int .i64 0,.int .i64 0,.bool false,.slice none 0 0,.bool false,.slice none 0 0,.slice none 0 0,.slice none 0 0,.bool false,.slice none 0 0,.bool false,.slice none 0 0,.bool false,.slice none 0 0,.bool false,.slice none 0 0]) (by kernel_rfl) Tryz.underlying51 (by kernel_rfl) (fun M=>aZ.app (aZ.app (aZ.app (aZ.app (aZ.app (aZ.app (aZ.app (aZ.app (show aZ M [pI .i64 0] [.int .i64 0] from zU1) (show aZ M [pI .i64 0] [.int .i64 0] from zU1)) (show aZ M [pI .i64 0] [.int .i64 0] from zU1)) (show aZ M [pI .i64 0] [.int .i64 0] from zU1)) (eQ0 M)) (show aZ M [pS aE.cod ([]:List aE)] [.slice none 0 0] from⟨eJ aE.cod M,trivial⟩)) (show aZ M [pS aE.cod ([]:List aE)] [.slice none 0 0] from⟨eJ aE.cod M,trivial⟩)) (eQ0 M)) (eQ0 M))
theorem tyB68q:TyB Tryz.prog 68 [(0,1),(1,1),(2,1)] ([pS cQ ([]:List Rat)]++[pS cQ ([]:List Rat)]++[pI .i64 0]):=mkB (z:=.agg #[.slice none 0 0,.slice none 0 0,.int .i64 0]) (by kernel_rfl) Tryz.underlying68 (by kernel_rfl) (fun M=>aZ.app (aZ.app (show aZ M [pS cQ ([]:List Rat)] [.slice none 0 0] from⟨eJ cQ M,trivial⟩) (show aZ M [pS cQ ([]:List Rat)] [.slice none 0 0] from⟨eJ cQ M,trivial⟩)) (show aZ M [pI .i64 0] [.int .i64 0] from zU1))
theorem tyB92q:TyB Tryz.prog 92 [(0,1),(1,4)] ([pI .i64 0]++(eQ 0)):=mkB (z:=.agg #[.int .i64 0,.bool false,.slice none 0 0,.bool false,.slice none 0 0]) (by kernel_rfl) Tryz.underlying92 (by kernel_rfl) (fun M=>aZ.app (show aZ M [pI .i64 0] [.int .i64 0] from zU1) (eQ0 M))
instance tyF108_0:TyF Tryz.prog 108 0 0:=mkF (ft:=44) (k:=3) Tryz.underlying108 rfl rfl rfl (by kernel_rfl)
instance tyF113_0:TyF Tryz.prog 113 0 0:=mkF (ft:=23) (k:=0) Tryz.underlying113 rfl rfl rfl (by kernel_rfl)
instance tyF113_1:TyF Tryz.prog 113 1 1:=mkF (ft:=24) (k:=0) Tryz.underlying113 rfl rfl rfl (by kernel_rfl)
instance tyF113_2:TyF Tryz.prog 113 2 2:=mkF (ft:=24) (k:=0) Tryz.underlying113 rfl rfl rfl (by kernel_rfl)
instance tyF113_3:TyF Tryz.prog 113 3 3:=mkF (ft:=25) (k:=0) Tryz.underlying113 rfl rfl rfl (by kernel_rfl)
instance tyF118_0:TyF Tryz.prog 118 0 0:=mkF (ft:=3) (k:=0) Tryz.underlying118 rfl rfl rfl (by kernel_rfl)
instance tyF118_1:TyF Tryz.prog 118 1 1:=mkF (ft:=3) (k:=0) Tryz.underlying118 rfl rfl rfl (by kernel_rfl)
instance tyF151_0:TyF Tryz.prog 151 0 0:=mkF (ft:=3) (k:=0) Tryz.underlying151 rfl rfl rfl (by kernel_rfl)
instance tyF151_1:TyF Tryz.prog 151 1 1:=mkF (ft:=62) (k:=0) Tryz.underlying151 rfl rfl rfl (by kernel_rfl)
instance tyF151_2:TyF Tryz.prog 151 2 2:=mkF (ft:=22) (k:=0) Tryz.underlying151 rfl rfl rfl (by kernel_rfl)
instance tyF154_0:TyF Tryz.prog 154 0 0:=mkF (ft:=3) (k:=0) Tryz.underlying154 rfl rfl rfl (by kernel_rfl)
instance tyF154_1:TyF Tryz.prog 154 1 1:=mkF (ft:=3) (k:=0) Tryz.underlying154 rfl rfl rfl (by kernel_rfl)
instance tyF27_0:TyF Tryz.prog 27 0 0:=mkF (ft:=23) (k:=0) Tryz.underlying27 rfl rfl rfl (by kernel_rfl)
instance tyF27_1:TyF Tryz.prog 27 1 1:=mkF (ft:=24) (k:=0) Tryz.underlying27 rfl rfl rfl (by kernel_rfl)
instance tyF27_2:TyF Tryz.prog 27 2 2:=mkF (ft:=24) (k:=0) Tryz.underlying27 rfl rfl rfl (by kernel_rfl)
instance tyF27_3:TyF Tryz.prog 27 3 3:=mkF (ft:=25) (k:=0) Tryz.underlying27 rfl rfl rfl (by kernel_rfl)
instance tyF51_5:TyF Tryz.prog 51 5 8:=mkF (ft:=49) (k:=0) Tryz.underlying51 rfl rfl rfl (by kernel_rfl)
instance tyF51_6:TyF Tryz.prog 51 6 9:=mkF (ft:=49) (k:=0) Tryz.underlying51 rfl rfl rfl (by kernel_rfl)
instance tyF51_7:TyF Tryz.prog 51 7 10:=mkF (ft:=44) (k:=3) Tryz.underlying51 rfl rfl rfl (by kernel_rfl)
instance tyF58_0:TyF Tryz.prog 58 0 0:=mkF (ft:=44) (k:=3) Tryz.underlying58 rfl rfl rfl (by kernel_rfl)
instance tyF58_1:TyF Tryz.prog 58 1 4:=mkF (ft:=44) (k:=3) Tryz.underlying58 rfl rfl rfl (by kernel_rfl)
instance tyF68_0:TyF Tryz.prog 68 0 0:=mkF (ft:=24) (k:=0) Tryz.underlying68 rfl rfl rfl (by kernel_rfl)
instance tyF68_1:TyF Tryz.prog 68 1 1:=mkF (ft:=24) (k:=0) Tryz.underlying68 rfl rfl rfl (by kernel_rfl)
instance tyF68_2:TyF Tryz.prog 68 2 2:=mkF (ft:=3) (k:=0) Tryz.underlying68 rfl rfl rfl (by kernel_rfl)
instance tyF92_0:TyF Tryz.prog 92 0 0:=mkF (ft:=3) (k:=0) Tryz.underlying92 rfl rfl rfl (by kernel_rfl)
instance tyF92_1:TyF Tryz.prog 92 1 1:=mkF (ft:=44) (k:=3) Tryz.underlying92 rfl rfl rfl (by kernel_rfl)
instance tyO114:Ty1 Tryz.prog 114:=mk1 Tryz.underlying114 rfl (by kernel_rfl)
instance tyO23:Ty1 Tryz.prog 23:=mk1 Tryz.underlying23 rfl (by kernel_rfl)
instance tyO24:Ty1 Tryz.prog 24:=mk1 Tryz.underlying24 rfl (by kernel_rfl)
instance tyO25:Ty1 Tryz.prog 25:=mk1 Tryz.underlying25 rfl (by kernel_rfl)
instance tyO49:Ty1 Tryz.prog 49:=mk1 Tryz.underlying49 rfl (by kernel_rfl)
instance tyO62:Ty1 Tryz.prog 62:=mk1 Tryz.underlying62 rfl (by kernel_rfl)
theorem tyQ118:TyQ Tryz.prog 118:=mkQ Tryz.underlying118 (by kernel_rfl) (by kernel_rfl) rfl (by decide) (by decide) rfl rfl Tryz.underlying3 Tryz.underlying3
instance tyS114:TyS Tryz.prog 114 118 2 16:=mkS (z:=.agg #[.int .i64 0,.int .i64 0]) (k:=1) Tryz.underlying114 (by kernel_rfl) rfl
instance tyS142:TyS Tryz.prog 142 154 2 16:=mkS (z:=.agg #[.int .i64 0,.int .i64 0]) (k:=1) Tryz.underlying142 (by kernel_rfl) rfl
instance tyS23:TyS Tryz.prog 23 108 17 264:=mkS (z:=.agg #[.bool false,.slice none 0 0,.bool false,.slice none 0 0,.bool false,.slice none 0 0,.bool false,.slice none 0 0,.bool false,.bool false,.slice none 0 0,.bool false,.slice none 0 0,.bool false,.slice none 0 0,.bool false,.slice none 0 0]) (k:=16) Tryz.underlying23 (by kernel_rfl) rfl
instance tyS24:TyS Tryz.prog 24 44 4 64:=mkS (z:=.agg #[.bool false,.slice none 0 0,.bool false,.slice none 0 0]) (k:=3) Tryz.underlying24 (by kernel_rfl) rfl
instance tyS25:TyS Tryz.prog 25 51 18 272:=mkS (z:=.agg #[.int .i64 0,.int .i64 0,.int .i64 0,.int .i64 0,.bool false,.slice none 0 0,.bool false,.slice none 0 0,.slice none 0 0,.slice none 0 0,.bool false,.slice none 0 0,.bool false,.slice none 0 0,.bool false,.slice none 0 0,.bool false,.slice none 0 0]) (k:=17) Tryz.underlying25 (by kernel_rfl) rfl
instance tyS29:TyS Tryz.prog 29 58 8 128:=mkS (z:=.agg #[.bool false,.slice none 0 0,.bool false,.slice none 0 0,.bool false,.slice none 0 0,.bool false,.slice none 0 0]) (k:=7) Tryz.underlying29 (by kernel_rfl) rfl
instance tyS49:TyS Tryz.prog 49 92 5 72:=mkS (z:=.agg #[.int .i64 0,.bool false,.slice none 0 0,.bool false,.slice none 0 0]) (k:=4) Tryz.underlying49 (by kernel_rfl) rfl
instance tyS62:TyS Tryz.prog 62 24 1 24:=mkS (z:=.slice none 0 0) (k:=0) Tryz.underlying62 (by kernel_rfl) rfl
instance tyZ108q:TyZ Tryz.prog 108 ((eQ 0)++(eQ 0)++[pB false]++(eQ 0)++(eQ 0)):=mkZ (z:=.agg #[.bool false,.slice none 0 0,.bool false,.slice none 0 0,.bool false,.slice none 0 0,.bool false,.slice none 0 0,.bool false,.bool false,.slice none 0 0,.bool false,.slice none 0 0,.bool false,.slice none 0 0,.bool false,.slice none 0 0]) (k:=17) (by kernel_rfl) rfl (fun M=>aZ.app (aZ.app (aZ.app (aZ.app (eQ0 M) (eQ0 M)) (show aZ M [pB false] [.bool false] from zU1)) (eQ0 M)) (eQ0 M))
instance tyZ113q:TyZ Tryz.prog 113 ([pS aG.cod ([]:List aG)]++[pS cQ ([]:List Rat)]++[pS cQ ([]:List Rat)]++[pS aA.cod ([]:List aA)]):=mkZ (z:=.agg #[.slice none 0 0,.slice none 0 0,.slice none 0 0,.slice none 0 0]) (k:=4) (by kernel_rfl) rfl (fun M=>aZ.app (aZ.app (aZ.app (show aZ M [pS aG.cod ([]:List aG)] [.slice none 0 0] from⟨eJ aG.cod M,trivial⟩) (show aZ M [pS cQ ([]:List Rat)] [.slice none 0 0] from⟨eJ cQ M,trivial⟩)) (show aZ M [pS cQ ([]:List Rat)] [.slice none 0 0] from⟨eJ cQ M,trivial⟩)) (show aZ M [pS aA.cod ([]:List aA)] [.slice none 0 0] from⟨eJ aA.cod M,trivial⟩))
instance tyZ114q:TyZ Tryz.prog 114 [pS aC.cod ([]:List aC)]:=mkZ (z:=.slice none 0 0) (k:=1) (by kernel_rfl) rfl (fun M=>show aZ M [pS aC.cod ([]:List aC)] [.slice none 0 0] from⟨eJ aC.cod M,trivial⟩)
instance tyZ118q:TyZ Tryz.prog 118 ([pI .i64 0]++[pI .i64 0]):=mkZ (z:=.agg #[.int .i64 0,.int .i64 0]) (k:=2) (by kernel_rfl) rfl (fun M=>aZ.app (show aZ M [pI .i64 0] [.int .i64 0] from zU1) (show aZ M [pI .i64 0] [.int .i64 0] from zU1))
instance tyZ24q:TyZ Tryz.prog 24 [pS cQ ([]:List Rat)]:=mkZ (z:=.slice none 0 0) (k:=1) (by kernel_rfl) rfl (fun M=>show aZ M [pS cQ ([]:List Rat)] [.slice none 0 0] from⟨eJ cQ M,trivial⟩)
theorem tyZ24_oq:TyZ Tryz.prog 24 [pO none 0 0]:=mkZ (z:=.slice none 0 0) (k:=1) (by kernel_rfl) rfl (fun M=>show aZ M [pO none 0 0] [.slice none 0 0] from⟨.inl rfl,trivial⟩)
instance tyZ27q:TyZ Tryz.prog 27 ([pS aG.cod ([]:List aG)]++[pS cQ ([]:List Rat)]++[pS cQ ([]:List Rat)]++[pS aA.cod ([]:List aA)]):=mkZ (z:=.agg #[.slice none 0 0,.slice none 0 0,.slice none 0 0,.slice none 0 0]) (k:=4) (by kernel_rfl) rfl (fun M=>aZ.app (aZ.app (aZ.app (show aZ M [pS aG.cod ([]:List aG)] [.slice none 0 0] from⟨eJ aG.cod M,trivial⟩) (show aZ M [pS cQ ([]:List Rat)] [.slice none 0 0] from⟨eJ cQ M,trivial⟩)) (show aZ M [pS cQ ([]:List Rat)] [.slice none 0 0] from⟨eJ cQ M,trivial⟩)) (show aZ M [pS aA.cod ([]:List aA)] [.slice none 0 0] from⟨eJ aA.cod M,trivial⟩))
theorem tyZ27_o0_o1_o2_o3q:TyZ Tryz.prog 27 ([pO none 0 0]++[pO none 0 0]++[pO none 0 0]++[pO none 0 0]):=mkZ (z:=.agg #[.slice none 0 0,.slice none 0 0,.slice none 0 0,.slice none 0 0]) (k:=4) (by kernel_rfl) rfl (fun M=>aZ.app (aZ.app (aZ.app (show aZ M [pO none 0 0] [.slice none 0 0] from⟨.inl rfl,trivial⟩) (show aZ M [pO none 0 0] [.slice none 0 0] from⟨.inl rfl,trivial⟩)) (show aZ M [pO none 0 0] [.slice none 0 0] from⟨.inl rfl,trivial⟩)) (show aZ M [pO none 0 0] [.slice none 0 0] from⟨.inl rfl,trivial⟩))
instance tyZ3q:TyZ Tryz.prog 3 [pI .i64 0]:=mkZ (z:=.int .i64 0) (k:=1) (by kernel_rfl) rfl (fun M=>show aZ M [pI .i64 0] [.int .i64 0] from zU1)
instance tyZ44q:TyZ Tryz.prog 44 (eQ 0):=mkZ (z:=.agg #[.bool false,.slice none 0 0,.bool false,.slice none 0 0]) (k:=4) (by kernel_rfl) rfl (fun M=>eQ0 M)
instance tyZ51q:TyZ Tryz.prog 51 ([pI .i64 0]++[pI .i64 0]++[pI .i64 0]++[pI .i64 0]++(eQ 0)++[pS aE.cod ([]:List aE)]++[pS aE.cod ([]:List aE)]++(eQ 0)++(eQ 0)):=mkZ (z:=.agg #[.int .i64 0,.int .i64 0,.int .i64 0,.int .i64 0,.bool false,.slice none 0 0,.bool false,.slice none 0 0,.slice none 0 0,.slice none 0 0,.bool false,.slice none 0 0,.bool false,.slice none 0 0,.bool false,.slice none 0 0,.bool false,.slice none 0 0]) (k:=18) (by kernel_rfl) rfl (fun M=>aZ.app (aZ.app (aZ.app (aZ.app (aZ.app (aZ.app (aZ.app (aZ.app (show aZ M [pI .i64 0] [.int .i64 0] from zU1) (show aZ M [pI .i64 0] [.int .i64 0] from zU1)) (show aZ M [pI .i64 0] [.int .i64 0] from zU1)) (show aZ M [pI .i64 0] [.int .i64 0] from zU1)) (eQ0 M)) (show aZ M [pS aE.cod ([]:List aE)] [.slice none 0 0] from⟨eJ aE.cod M,trivial⟩)) (show aZ M [pS aE.cod ([]:List aE)] [.slice none 0 0] from⟨eJ aE.cod M,trivial⟩)) (eQ0 M)) (eQ0 M))
instance tyZ58q:TyZ Tryz.prog 58 ((eQ 0)++(eQ 0)):=mkZ (z:=.agg #[.bool false,.slice none 0 0,.bool false,.slice none 0 0,.bool false,.slice none 0 0,.bool false,.slice none 0 0]) (k:=8) (by kernel_rfl) rfl (fun M=>aZ.app (eQ0 M) (eQ0 M))
instance tyZ62q:TyZ Tryz.prog 62 [pS (xC cQ) ([]:List (List Rat))]:=mkZ (z:=.slice none 0 0) (k:=1) (by kernel_rfl) rfl (fun M=>show aZ M [pS (xC cQ) ([]:List (List Rat))] [.slice none 0 0] from⟨eJ (xC cQ) M,trivial⟩)
instance tyZ68q:TyZ Tryz.prog 68 ([pS cQ ([]:List Rat)]++[pS cQ ([]:List Rat)]++[pI .i64 0]):=mkZ (z:=.agg #[.slice none 0 0,.slice none 0 0,.int .i64 0]) (k:=3) (by kernel_rfl) rfl (fun M=>aZ.app (aZ.app (show aZ M [pS cQ ([]:List Rat)] [.slice none 0 0] from⟨eJ cQ M,trivial⟩) (show aZ M [pS cQ ([]:List Rat)] [.slice none 0 0] from⟨eJ cQ M,trivial⟩)) (show aZ M [pI .i64 0] [.int .i64 0] from zU1))
instance tyZ92q:TyZ Tryz.prog 92 ([pI .i64 0]++(eQ 0)):=mkZ (z:=.agg #[.int .i64 0,.bool false,.slice none 0 0,.bool false,.slice none 0 0]) (k:=5) (by kernel_rfl) rfl (fun M=>aZ.app (show aZ M [pI .i64 0] [.int .i64 0] from zU1) (eQ0 M))
def kQ (a0:Int) (a1:Int):Option Int:=
 bif(decide (a0<0)) then((aP (a0+1)).bind fun v2=>(aP (-v2)).bind fun v4=>(wH v4 a1).bind fun v6=>some v6) else((wH a0 a1).bind fun v8=>some v8)
theorem vY {a0:Int} {a1:Int} {r:Int} (hF:kQ a0 a1=some r):Ct Tryz.prog 24 [.vc (pI .i64 a0),.vc (pI .i64 a1)] (.vc (pI .i64 r)):=by
 unfold kQ at hF
 refine aI Tryz.func24 rfl (by kernel_rfl) Tryz.ntmps24 rfl (fun w0 M0=>?_)
 refine go ?_ ?_
 refine aJ hF rfl (fun h1 hF=>?_) (fun h1 hF=>?_)
 ·obtain⟨v2,h3,v4,h5,v6,h7,hF⟩:=bn3 hF
  exact cA
 obtain⟨v8,h9,hF⟩:=a9 hF
 exact cA
def bH (a0:List Int) (a1:Int) (a2:Int):Option Int:=
 bif(decide (a1<0)) then(some 0) else(bif(decide ((a0.length:Int)≤a1)) then(some 0) else((bM a0 a1).bind fun v3=>(kQ v3 a2).bind fun v5=>some v5))
theorem dD {a0:List Int} {a1:Int} {a2:Int} {r:Int} (hF:bH a0 a1 a2=some r):Ct Tryz.prog 26 [.vc (pS cI a0),.vc (pI .i64 a1),.vc (pI .i64 a2)] (.vc (pI .i64 r)):=by
 unfold bH at hF
 refine aI Tryz.func26 rfl (by kernel_rfl) Tryz.ntmps26 rfl (fun w0 M0=>?_)
 refine go ?_ ?_
 refine dQ hF (fun h1 hF=>?_) (fun h1 hF=>?_)
 ·refine go ?_ ?_
  refine mD rfl ?_
  exact cA
 refine go ?_ ?_
 refine aJ hF rfl (fun h2 hF=>?_) (fun h2 hF=>?_)
 ·exact cA
 obtain⟨v3,h4,hF⟩:=a9 hF
 obtain⟨v5,h6,hF⟩:=bD hF vY
 exact cA
def nX (K:Nat) (x19:List aE):Option (List aE):=
 some x19
def eF (K:Nat) (a1:Int):Nat→(List aE)→Int→Int→Option (List aE)
 |0,_,_,_=>none
 |k+1,x11,x17,x18=>bif(decide (x18<a1)) then((wH x17 7).bind fun v28=>(bM [0,1,(-1),0,2,(-1),1] v28).bind fun v30=>(w4 x17 7).bind fun v32=>bif(v30 != 0) then((wH v32 3).bind fun v35=>(aP (1+v35)).bind fun v37=>(qof v30 v37).bind fun v39=>(qD x11 [(⟨x18,v39⟩:aE)]).bind fun x41=>(w4 v32 3).bind fun v48=>(aP (x18+1)).bind fun v50=>eF K a1 k x41 v48 v50) else((w4 v32 3).bind fun v52=>(aP (x18+1)).bind fun v54=>eF K a1 k x11 v52 v54)) else(some x11)
def d6 (K:Nat) (a0:Int) (a1:Int):Option (List aE):=
 (eF K a1 K ([]:List aE) a0 0).bind fun x19=>nX K x19
theorem nN {K:Nat} {a0:Int} {a1:Int} {r:List aE} (hF:d6 K a0 a1=some r):Ct Tryz.prog 67 [.vc (pI .i64 a0),.vc (pI .i64 a1)] (.vc (pS aE.cod r)):=by
 unfold d6 at hF
 refine aI Tryz.func67 rfl (by kernel_rfl) Tryz.ntmps67 rfl (fun w0 M0=>?_)
 refine aM (aX (aR (bW (.inr rfl)) ⟨eJ aE.cod,trivial⟩ ?_))
 refine bQ (aS (aM (aX (wV aE.cod 92 rfl ?_))))
 refine go ?_ ?_
 refine aV (cJ (fun H E=>∃(x19:List aE),∃(b20:Option Nat),∃(c21:Nat),∃(n22:Nat),nX K x19=some r∧x19.length=n22∧H=[hO aE.cod b20 c21 92 n22 x19]∧E=[(5,.vc (pO b20 n22 c21))]) ?_ (fun Jj26=>?_))
 ·rintro _ _ ⟨x19,b20,c21,n22,hF,q23,rfl,rfl⟩
  unfold nX at hF
  refine go ?_ ?_
  refine sP (sS (yF 0 [4,5,34] rfl q23 ⟨rfl,rfl,rfl,trivial⟩ rfl ?_))
  obtain rfl:=qN hF
  exact s7 (.inl rfl) Tryz.results67 (.tmp rfl .nil) rfl rfl
 obtain⟨x19',hL,hRl25⟩:=a9 hF
 refine iT (fun k a w=>∃(x11:List aE),∃(x17:Int),∃(x18:Int),∃(b12:Option Nat),∃(c13:Nat),∃(n14:Nat),eF K a1 k x11 x17 x18=some x19'∧x11.length=n14∧hs _ [hO aE.cod b12 c13 92 n14 x11] [(0,.vc (pI .i64 x17)),(1,.vc (pI .i64 a1)),(5,.vc (pO b12 n14 c13)),(6,.vc (pI .i64 x18))] a w) K (fun a w ⟨_,_,_,_,_,_,hF,_,_⟩=>by cases hF) (fun k a w ⟨x11,x17,x18,b12,c13,n14,hF,q15,hh⟩=>iS ?_ hh) (fun a w hh=>⟨([]:List aE),a0,0,none,0,0,hL,rfl,iH [0] hh⟩)
 rw [eF.eq_2] at hF
 refine go ?_ ?_
 refine aJ hF rfl (fun h27 hF=>?_) (fun h27 hF=>?_)
 ·refine go ?_ ?_
  refine aV (aM (aX (aR (sM (C:=cI) (xs:=[.const (.int .i64 (0)),.const (.int .i64 (1)),.const (.int .i64 (-1)),.const (.int .i64 (0)),.const (.int .i64 (2)),.const (.int .i64 (-1)),.const (.int .i64 (1))]) (ps:=[.vc (pI .i64 0),.vc (pI .i64 1),.vc (pI .i64 (-1)),.vc (pI .i64 0),.vc (pI .i64 2),.vc (pI .i64 (-1)),.vc (pI .i64 1)]) (zs:=[0,1,(-1),0,2,(-1),1]) rfl tyS22 rfl ⟨⟨trivial,rfl⟩,⟨trivial,rfl⟩,⟨trivial,rfl⟩,⟨trivial,rfl⟩,⟨trivial,rfl⟩,⟨trivial,rfl⟩,⟨trivial,rfl⟩,trivial⟩ rfl) ⟨kL _ _,kL _ _,kL _ _,kL _ _,kL _ _,kL _ _,kL _ _,trivial⟩ ?_)))
  obtain⟨v28,h29,v30,h31,v32,h33,hF⟩:=bn3 hF
  refine go ?_ ?_
  refine aJ hF rfl (fun h34 hF=>?_) (fun h34 hF=>?_)
  ·obtain⟨v35,h36,v37,h38,hF⟩:=vN hF
   obtain⟨v39,h40,hF⟩:=bD hF cG
   refine go ?_ ?_
   refine aR (fC (is:=[0,1]) (xs:=[.tmp 23,.tmp 28]) (ps:=[.vc (pI .i64 x18),.va (eQ v39)]) rfl tyB92q rfl rfl ⟨trivial,trivial,trivial⟩ rfl) zU2 ?_
   refine aR (sM (C:=aE.cod) (xs:=[.tmp 29]) (ps:=[.va ([pI .i64 x18]++(eQ v39))]) (zs:=[(⟨x18,v39⟩:aE)]) rfl tyS49 rfl ⟨⟨trivial,rfl⟩,trivial⟩ rfl) zU1 ?_
   obtain⟨x41,h42,hF⟩:=a9 hF
   refine o8 0 rfl tyS49 rfl rfl q15 rfl rfl h42 (fun b43 c44 H45 e46=>?_)
   cases e46
   obtain⟨v48,h49,v50,h51,hF⟩:=vN hF
   refine go ?_ ?_
   exact aL (fun a w hh=>⟨x41,v48,v50,b43,c44,(n14+[(⟨x18,v39⟩:aE)].length),hF,(f7 h42 q15),iH [0] hh⟩)
  obtain⟨v52,h53,v54,h55,hF⟩:=vN hF
  refine go ?_ ?_
  exact aL (fun a w hh=>⟨x11,v52,v54,b12,c13,n14,hF,q15,iH [0] hh⟩)
 refine dJ ?_
 obtain rfl:=qN hF
 exact qB Jj26 ⟨x11,b12,c13,n14,hRl25,q15,rfl,rfl⟩ [0]
def kP (K:Nat) (x75:List Rat) (x81:List aG) (x93:List Rat) (x114:List aA):Option aK:=
 some (⟨x81,x75,x93,x114⟩:aK)
def eZ (K:Nat) (x107:List aA) (x113:Int) (v129:Int) (recl120:(List aA)→Int→Option (List aA)) (x159:aA):Option (List aA):=
 (wP x159.mu).bind fun v161=>bif(v161==0) then((qD x107 [(⟨x159.kind,x159.a,x159.b,x159.edge,x159.gap,x159.j,[],0,x159.e⟩:aA)]).bind fun x164=>(aP (x113+1)).bind fun v171=>recl120 x164 v171) else((wH v129 5).bind fun v173=>bif(v173==0) then((qD x107 [(⟨x159.kind,x159.a,x159.b,x159.edge,x159.gap,x159.j,[],0,x159.e⟩:aA)]).bind fun x176=>(aP (x113+1)).bind fun v183=>recl120 x176 v183) else((qD x107 [x159]).bind fun x185=>(aP (x113+1)).bind fun v192=>recl120 x185 v192))
def cU (K:Nat) (a0:List Int) (a1:Bool) (v4:Int):Nat→(List aA)→Int→Option (List aA)
 |0,_,_=>none
 |k+1,x107,x113=>(bH a0 8 5).bind fun v122=>bif(decide (x113<v122)) then((aP (3*x113)).bind fun v125=>(aP (9+v125)).bind fun v127=>(bH a0 v127 1099511627776).bind fun v129=>(d6 K v129 v4).bind fun v131=>(aP (3*x113)).bind fun v133=>(aP (10+v133)).bind fun v135=>(bH a0 v135 1099511627776).bind fun v137=>(d6 K v137 v4).bind fun v139=>(aP (3*x113)).bind fun v141=>(aP (11+v141)).bind fun v143=>(bH a0 v143 5).bind fun v145=>(aP (3*x113)).bind fun v147=>(aP (11+v147)).bind fun v149=>(bH a0 v149 3).bind fun v151=>(aP (1+v151)).bind fun v153=>(qof v145 v153).bind fun v155=>bif(!a1) then((aP (v4-1)).bind fun v195=>(d6 K v129 v195).bind fun v197=>eZ K x107 x113 v129 (cU K a0 a1 v4 k) (⟨0,0,x113,0,0,v197,v139,v155,0⟩:aA)) else(eZ K x107 x113 v129 (cU K a0 a1 v4 k) (⟨0,0,x113,0,0,v131,v139,v155,0⟩:aA))) else(some x107)
def iX (K:Nat) (a0:List Int) (a1:Bool) (v4:Int) (x75:List Rat) (x81:List aG) (x93:List Rat):Option aK:=
 (cU K a0 a1 v4 K ([]:List aA) 0).bind fun x114=>kP K x75 x81 x93 x114
def nJ (K:Nat) (x69:List Rat) (x75:List Rat) (x81:List aG) (x235:List aA):Option aK:=
 some (⟨x81,x75,x69,x235⟩:aK)
def f9 (K:Nat) (x228:List aA) (x234:Int) (v250:Int) (v252:List aE) (v260:List aE) (v276:Rat) (recl241:(List aA)→Int→Option (List aA)):Option (List aA):=
 (wP v276).bind fun v281=>bif(v281==0) then((qD x228 [(⟨0,0,x234,0,0,v252,[],0,0⟩:aA)]).bind fun x284=>(aP (x234+1)).bind fun v291=>recl241 x284 v291) else((wH v250 5).bind fun v293=>bif(v293==0) then((qD x228 [(⟨0,0,x234,0,0,v252,[],0,0⟩:aA)]).bind fun x296=>(aP (x234+1)).bind fun v303=>recl241 x296 v303) else((qD x228 [(⟨0,0,x234,0,0,v252,v260,v276,0⟩:aA)]).bind fun x305=>(aP (x234+1)).bind fun v312=>recl241 x305 v312))
def dW (K:Nat) (a0:List Int) (v4:Int):Nat→(List aA)→Int→Option (List aA)
 |0,_,_=>none
 |k+1,x228,x234=>(bH a0 8 5).bind fun v243=>bif(decide (x234<v243)) then((aP (3*x234)).bind fun v246=>(aP (9+v246)).bind fun v248=>(bH a0 v248 1099511627776).bind fun v250=>(d6 K v250 v4).bind fun v252=>(aP (3*x234)).bind fun v254=>(aP (10+v254)).bind fun v256=>(bH a0 v256 1099511627776).bind fun v258=>(d6 K v258 v4).bind fun v260=>(aP (3*x234)).bind fun v262=>(aP (11+v262)).bind fun v264=>(bH a0 v264 5).bind fun v266=>(aP (3*x234)).bind fun v268=>(aP (11+v268)).bind fun v270=>(bH a0 v270 3).bind fun v272=>(aP (1+v272)).bind fun v274=>(qof v266 v274).bind fun v276=>f9 K x228 x234 v250 v252 v260 v276 (dW K a0 v4 k)) else(some x228)
def m9 (K:Nat) (a0:List Int) (v4:Int) (x69:List Rat) (x75:List Rat) (x81:List aG):Option aK:=
 (dW K a0 v4 K ([]:List aA) 0).bind fun x235=>nJ K x69 x75 x81 x235
def iY (K:Nat) (a0:List Int) (a1:Bool) (v4:Int) (x69:List Rat) (x75:List Rat) (x81:List aG):Option aK:=
 (bH a0 5 3).bind fun v89=>bif(decide (0<v89)) then(bif(!a1) then((aP (v4-1)).bind fun v202=>(bH a0 6 9).bind fun v204=>(aP (v204-4)).bind fun v206=>(bH a0 7 3).bind fun v208=>(aP (1+v208)).bind fun v210=>(qof v206 v210).bind fun v212=>(bM x69 v202).bind fun v214=>(nU x69 v202 v212).bind fun x216=>iX K a0 a1 v4 x75 x81 x216) else(iX K a0 a1 v4 x75 x81 x69)) else(m9 K a0 v4 x69 x75 x81)
def gO (K:Nat) (a0:List Int) (v4:Int):Nat→(List Rat)→(List Rat)→(List aG)→Int→Option ((List Rat)×(List Rat)×(List aG))
 |0,_,_,_,_=>none
 |k+1,x50,x56,x62,x68=>bif(decide (x68<v4)) then((aP (1+x68)).bind fun v315=>(bH a0 v315 1073741824).bind fun v317=>(wH v317 3).bind fun v321=>(aP (1+v321)).bind fun v323=>(w4 v317 3).bind fun v325=>(wH v325 4).bind fun v327=>(aP (1+v327)).bind fun v329=>(qof v323 v329).bind fun v331=>(qD x62 [(⟨v331,0,false,0,0⟩:aG)]).bind fun x333=>(w4 v317 12).bind fun v342=>(wH v342 13).bind fun v344=>(aP (v344-6)).bind fun v346=>(w4 v317 156).bind fun v348=>(wH v348 3).bind fun v350=>(aP (1+v350)).bind fun v352=>(qof v346 v352).bind fun v354=>(qD x56 [v354]).bind fun x356=>(qD x50 [0]).bind fun x363=>(aP (x68+1)).bind fun v370=>gO K a0 v4 k x363 x356 x333 v370) else(some (x50,x56,x62))
def kE (K:Nat) (a0:List Int) (a1:Bool):Option aK:=
 (bH a0 0 4).bind fun v2=>(aP (1+v2)).bind fun v4=>(gO K a0 v4 K ([]:List Rat) ([]:List Rat) ([]:List aG) 0).bind fun(x69,x75,x81)=>iY K a0 a1 v4 x69 x75 x81
theorem aBj {K:Nat} {a0:List Int} {a1:Bool} {r:aK} (hF:kE K a0 a1=some r):Ct Tryz.prog 16 [.vc (pS cI a0),.vc (pB a1)] (.va (aK.enc r)):=by
 unfold kE at hF
 refine aI Tryz.func16 rfl (by kernel_rfl) Tryz.ntmps16 rfl (fun w0 M0=>?_)
 refine aM (aX (aN rfl tyZ27q (fun b1=>?_)))
 refine bQ (aS (aM (aX (mF ?_))))
 obtain⟨v2,h3,hF⟩:=bD hF dD
 refine aR (bS rfl h3 rfl) ⟨rfl,kL _ _,kL _ _,trivial⟩ ?_
 obtain⟨v4,h5,hF⟩:=a9 hF
 refine aR (w6 rfl h5) ⟨kL _ _,rfl,trivial⟩ ?_
 refine wX ?_
 refine bQ (aS (aM (aX (aCY aG.cod 108 ?_))))
 refine aCY cQ 44 ?_
 refine aCY cQ 44 ?_
 refine aCY aA.cod 51 ?_
 refine aN rfl tyZ27_o0_o1_o2_o3q (fun b30=>?_)
 refine go ?_ ?_
 refine aV (cJ (fun H E=>∃(x69:List Rat),∃(x75:List Rat),∃(x81:List aG),∃(b70:Option Nat),∃(c71:Nat),∃(n72:Nat),∃(b76:Option Nat),∃(c77:Nat),∃(n78:Nat),∃(b82:Option Nat),∃(c83:Nat),∃(n84:Nat),iY K a0 a1 v4 x69 x75 x81=some r∧x69.length=n72∧x75.length=n78∧x81.length=n84∧H=[⟨some b30,1,27,4,1,([pO b82 n84 c83]++[pO b76 n78 c77]++[pO b70 n72 c71]++[pO none 0 0])⟩,hO aA.cod none 0 51 0 ([]:List aA),hO cQ b70 c71 44 n72 x69,hO cQ b76 c77 44 n78 x75,hO aG.cod b82 c83 108 n84 x81,⟨some b1,1,27,4,1,([pS aG.cod ([]:List aG)]++[pS cQ ([]:List Rat)]++[pS cQ ([]:List Rat)]++[pS aA.cod ([]:List aA)])⟩]∧E=[(0,.vc (pS cI a0)),(1,.vc (pB a1)),(4,.vc (pP (some b1) 0)),(5,.vc (pI .i64 v4)),(6,.vc (pP (some b30) 0))]) ?_ (fun Jj88=>?_))
 ·rintro _ _ ⟨x69,x75,x81,b70,c71,n72,b76,c77,n78,b82,c83,n84,hF,q73,q79,q85,rfl,rfl⟩
  unfold iY at hF
  obtain⟨v89,h90,hF⟩:=bD hF dD
  refine go ?_ ?_
  refine dQ hF (fun h91 hF=>?_) (fun h91 hF=>?_)
  ·refine aHS (bW (.inl rfl)) zU1 ?_
   refine aHS (aJI rfl) zU1 ?_
   refine aR (wO rfl) zU2 ?_
   refine wX ?_
   refine bQ (aS (aM (uM (fun H E=>∃(x93:List Rat),iX K a0 a1 v4 x75 x81 x93=some r∧x93.length=n72∧H=[⟨some b30,1,27,4,1,([pO b82 n84 c83]++[pO b76 n78 c77]++[pO b70 n72 c71]++[pO none 0 0])⟩,hO aA.cod none 0 51 0 ([]:List aA),hO cQ b70 c71 44 n72 x93,hO cQ b76 c77 44 n78 x75,hO aG.cod b82 c83 108 n84 x81,⟨some b1,1,27,4,1,([pS aG.cod ([]:List aG)]++[pS cQ ([]:List Rat)]++[pS cQ ([]:List Rat)]++[pS aA.cod ([]:List aA)])⟩]∧E=[(0,.vc (pS cI a0)),(4,.vc (pP (some b1) 0)),(5,.vc (pI .i64 v4)),(6,.vc (pP (some b30) 0)),(9,.vc (pB (!a1)))]) ?_ (fun Jj99=>?_))))
   ·rintro _ _ ⟨x93,hF,q97,rfl,rfl⟩
    unfold iX at hF
    refine go ?_ ?_
    refine aV (cJ (fun H E=>∃(x114:List aA),∃(b115:Option Nat),∃(c116:Nat),∃(n117:Nat),kP K x75 x81 x93 x114=some r∧x114.length=n117∧H=[⟨some b30,1,27,4,1,([pO b82 n84 c83]++[pO b76 n78 c77]++[pO b70 n72 c71]++[pO b115 n117 c116])⟩,hO aA.cod b115 c116 51 n117 x114,hO cQ b70 c71 44 n72 x93,hO cQ b76 c77 44 n78 x75,hO aG.cod b82 c83 108 n84 x81,⟨some b1,1,27,4,1,([pS aG.cod ([]:List aG)]++[pS cQ ([]:List Rat)]++[pS cQ ([]:List Rat)]++[pS aA.cod ([]:List aA)])⟩]∧E=[(4,.vc (pP (some b1) 0)),(6,.vc (pP (some b30) 0))]) ?_ (fun Jj121=>?_))
    ·rintro _ _ ⟨x114,b115,c116,n117,hF,q118,rfl,rfl⟩
     unfold kP at hF
     refine aS (aM (aX (aBz 4 0 0 rfl q85 rfl rfl rfl rfl rfl ?_)))
     refine aBz 3 0 1 rfl q79 rfl rfl rfl rfl rfl ?_
     refine aBz 2 0 2 rfl q97 rfl rfl rfl rfl rfl ?_
     refine aBz 1 0 3 rfl q118 rfl rfl rfl rfl rfl ?_
     exact cA
    obtain⟨x114',hL,hRl120⟩:=a9 hF
    refine iT (fun k a w=>∃(x107:List aA),∃(x113:Int),∃(b108:Option Nat),∃(c109:Nat),∃(n110:Nat),cU K a0 a1 v4 k x107 x113=some x114'∧x107.length=n110∧hs _ [⟨some b30,1,27,4,1,([pO b82 n84 c83]++[pO b76 n78 c77]++[pO b70 n72 c71]++[pO b108 n110 c109])⟩,hO aA.cod b108 c109 51 n110 x107,hO cQ b70 c71 44 n72 x93,hO cQ b76 c77 44 n78 x75,hO aG.cod b82 c83 108 n84 x81,⟨some b1,1,27,4,1,([pS aG.cod ([]:List aG)]++[pS cQ ([]:List Rat)]++[pS cQ ([]:List Rat)]++[pS aA.cod ([]:List aA)])⟩] [(0,.vc (pS cI a0)),(4,.vc (pP (some b1) 0)),(5,.vc (pI .i64 v4)),(6,.vc (pP (some b30) 0)),(9,.vc (pB (!a1))),(10,.vc (pI .i64 x113))] a w) K (fun a w ⟨_,_,_,_,_,hF,_,_⟩=>by cases hF) (fun k a w ⟨x107,x113,b108,c109,n110,hF,q111,hh⟩=>iS ?_ hh) (fun a w hh=>⟨([]:List aA),0,none,0,0,hL,rfl,iH [0,1,2,3,4,5] hh⟩)
    rw [cU.eq_2] at hF
    obtain⟨v122,h123,hF⟩:=bD hF dD
    refine go ?_ ?_
    refine aJ hF rfl (fun h124 hF=>?_) (fun h124 hF=>?_)
    ·refine go ?_ ?_
     refine aV ?_
     obtain⟨v125,h126,v127,h128,hF⟩:=vN hF
     obtain⟨v129,h130,hF⟩:=bD hF dD
     obtain⟨v131,h132,hF⟩:=bD hF nN
     have hF:=tC h126 hF
     obtain⟨v135,h136,hF⟩:=a9 hF
     obtain⟨v137,h138,hF⟩:=bD hF dD
     obtain⟨v139,h140,hF⟩:=bD hF nN
     have hF:=tC h126 hF
     obtain⟨v143,h144,hF⟩:=a9 hF
     obtain⟨v145,h146,hF⟩:=bD hF dD
     have hF:=tC h126 hF
     have hF:=tC h144 hF
     obtain⟨v151,h152,hF⟩:=bD hF dD
     obtain⟨v153,h154,hF⟩:=a9 hF
     obtain⟨v155,h156,hF⟩:=bD hF cG
     refine go ?_ ?_
     refine aR (fC (is:=[5,6,7,2]) (xs:=[.tmp 92,.tmp 99,.tmp 111,.tmp 112]) (ps:=[.vc (pS aE.cod v131),.vc (pS aE.cod v139),.va (eQ v155),.vc (pI .i64 x113)]) rfl tyB51q rfl rfl ⟨trivial,trivial,trivial,trivial,trivial⟩ rfl) ⟨rfl,rfl,rfl,rfl,trivial⟩ ?_
     refine aN rfl tyZ51q (fun b157=>?_)
     refine oS (t_s 0 rfl rfl rfl tyA51.s) zU2 ?_
     refine bQ (aS (aM (uM (fun H E=>∃(x159:aA),eZ K x107 x113 v129 (cU K a0 a1 v4 k) x159=some x114'∧H=[⟨some b157,1,51,18,1,(aA.enc x159)⟩,⟨some b30,1,27,4,1,([pO b82 n84 c83]++[pO b76 n78 c77]++[pO b70 n72 c71]++[pO b108 n110 c109])⟩,hO aA.cod b108 c109 51 n110 x107,hO cQ b70 c71 44 n72 x93,hO cQ b76 c77 44 n78 x75,hO aG.cod b82 c83 108 n84 x81,⟨some b1,1,27,4,1,([pS aG.cod ([]:List aG)]++[pS cQ ([]:List Rat)]++[pS cQ ([]:List Rat)]++[pS aA.cod ([]:List aA)])⟩]∧E=[(0,.vc (pS cI a0)),(4,.vc (pP (some b1) 0)),(5,.vc (pI .i64 v4)),(6,.vc (pP (some b30) 0)),(9,.vc (pB (!a1))),(10,.vc (pI .i64 x113)),(11,.vc (pI .i64 v129)),(12,.vc (pP (some b157) 0))]) ?_ (fun Jj160=>?_))))
     ·rintro _ _ ⟨x159,hF,rfl,rfl⟩
      unfold eZ at hF
      obtain⟨v161,h162,hF⟩:=bD hF wY
      refine go ?_ ?_
      refine dQ hF (fun h163 hF=>?_) (fun h163 hF=>?_)
      ·refine go ?_ ?_
       refine mD rfl ?_
       refine go ?_ ?_
       refine oS (t_s 0 rfl rfl rfl tyO49.s) ⟨rfl,eJ aE.cod,trivial⟩ ?_
       refine go ?_ ?_
       refine aR (fC (is:=[]) (xs:=[]) (ps:=[]) rfl tyB44q rfl rfl trivial rfl) trivial ?_
       refine go ?_ ?_
       refine aR (sM (C:=aA.cod) (xs:=[.tmp 134]) (ps:=[.va ([pI .i64 x159.kind]++[pI .i64 x159.a]++[pI .i64 x159.b]++[pI .i64 x159.edge]++(eQ x159.gap)++[pS aE.cod x159.j]++[pS aE.cod []]++(eQ 0)++(eQ x159.e))]) (zs:=[(⟨x159.kind,x159.a,x159.b,x159.edge,x159.gap,x159.j,[],0,x159.e⟩:aA)]) rfl tyS25 rfl ⟨⟨trivial,rfl⟩,trivial⟩ rfl) zU1 ?_
       obtain⟨x164,h165,hF⟩:=a9 hF
       refine o8 2 rfl tyS25 rfl rfl q111 rfl rfl h165 (fun b166 c167 H168 e169=>?_)
       cases e169
       obtain⟨v171,h172,hF⟩:=a9 hF
       refine go ?_ ?_
       exact aL (fun a w hh=>⟨x164,v171,b166,c167,(n110+[(⟨x159.kind,x159.a,x159.b,x159.edge,x159.gap,x159.j,[],0,x159.e⟩:aA)].length),hF,(f7 h165 q111),iH [1,2,3,4,5,6] hh⟩)
      obtain⟨v173,h174,hF⟩:=a9 hF
      refine go ?_ ?_
      refine aJ hF rfl (fun h175 hF=>?_) (fun h175 hF=>?_)
      ·refine go ?_ ?_
       refine oS (t_s 0 rfl rfl rfl tyO49.s) ⟨rfl,eJ aE.cod,trivial⟩ ?_
       refine go ?_ ?_
       refine aR (fC (is:=[]) (xs:=[]) (ps:=[]) rfl tyB44q rfl rfl trivial rfl) trivial ?_
       refine go ?_ ?_
       refine aR (sM (C:=aA.cod) (xs:=[.tmp 134]) (ps:=[.va ([pI .i64 x159.kind]++[pI .i64 x159.a]++[pI .i64 x159.b]++[pI .i64 x159.edge]++(eQ x159.gap)++[pS aE.cod x159.j]++[pS aE.cod []]++(eQ 0)++(eQ x159.e))]) (zs:=[(⟨x159.kind,x159.a,x159.b,x159.edge,x159.gap,x159.j,[],0,x159.e⟩:aA)]) rfl tyS25 rfl ⟨⟨trivial,rfl⟩,trivial⟩ rfl) zU1 ?_
       obtain⟨x176,h177,hF⟩:=a9 hF
       refine o8 2 rfl tyS25 rfl rfl q111 rfl rfl h177 (fun b178 c179 H180 e181=>?_)
       cases e181
       obtain⟨v183,h184,hF⟩:=a9 hF
       refine go ?_ ?_
       exact aL (fun a w hh=>⟨x176,v183,b178,c179,(n110+[(⟨x159.kind,x159.a,x159.b,x159.edge,x159.gap,x159.j,[],0,x159.e⟩:aA)].length),hF,(f7 h177 q111),iH [1,2,3,4,5,6] hh⟩)
      refine go ?_ ?_
      refine aR (sM (C:=aA.cod) (xs:=[.tmp 134]) (ps:=[.va (aA.enc x159)]) (zs:=[x159]) rfl tyS25 rfl ⟨⟨trivial,rfl⟩,trivial⟩ rfl) zU1 ?_
      obtain⟨x185,h186,hF⟩:=a9 hF
      refine o8 2 rfl tyS25 rfl rfl q111 rfl rfl h186 (fun b187 c188 H189 e190=>?_)
      cases e190
      obtain⟨v192,h193,hF⟩:=a9 hF
      refine go ?_ ?_
      exact aL (fun a w hh=>⟨x185,v192,b187,c188,(n110+[x159].length),hF,(f7 h186 q111),iH [1,2,3,4,5,6] hh⟩)
     refine go ?_ ?_
     refine aJ hF rfl (fun h194 hF=>?_) (fun h194 hF=>?_)
     ·refine aX (mF ?_)
      refine mF ?_
      obtain⟨v195,h196,hF⟩:=a9 hF
      refine aR (aCk rfl h196) ⟨rfl,kL _ _,trivial⟩ ?_
      obtain⟨v197,h198,hF⟩:=bD hF nN
      refine aR (bS rfl h198 rfl) zU2 ?_
      refine aR (oK (off:=0) (k:=8) rfl tyF51_5) zU1 ?_
      refine oS (t_s 0 rfl rfl rfl tyO49.s) zU2 ?_
      refine bQ ?_
      exact qB Jj160 ⟨(⟨0,0,x113,0,0,v197,v139,v155,0⟩:aA),hF,rfl,rfl⟩ [0,1,2,3,4,5,6]
     refine iO ?_
     exact qB Jj160 ⟨(⟨0,0,x113,0,0,v131,v139,v155,0⟩:aA),hF,rfl,rfl⟩ [0,1,2,3,4,5,6]
    refine dJ ?_
    obtain rfl:=qN hF
    exact qB Jj121 ⟨x107,b108,c109,n110,hRl120,q111,rfl,rfl⟩ [0,1,2,3,4,5]
   refine go ?_ ?_
   refine aJ hF rfl (fun h199 hF=>?_) (fun h199 hF=>?_)
   ·obtain⟨v202,h203,hF⟩:=a9 hF
    obtain⟨v204,h205,hF⟩:=bD hF dD
    obtain⟨v206,h207,hF⟩:=a9 hF
    obtain⟨v208,h209,hF⟩:=bD hF dD
    obtain⟨v210,h211,hF⟩:=a9 hF
    obtain⟨v212,h213,hF⟩:=bD hF cG
    obtain⟨v214,h215,hF⟩:=a9 hF
    refine dr [0,1,0,4,0,16,48,0,176,432,1008,2047,4095] 12 1 ?_ (fun bs201 G200=>?_)
    obtain⟨x216,h217,hF⟩:=a9 hF
    refine oS (xT 2 rfl rfl h215 h217 tyA44.s) zU2 ?_
    refine bQ ?_
    exact qB Jj99 ⟨x216,hF,(bI h217 q73),rfl,rfl⟩ [0,1,2,3,4,5]
   refine iO ?_
   exact qB Jj99 ⟨x69,hF,q73,rfl,rfl⟩ [0,1,2,3,4,5]
  refine aMD ?_
  refine aMD ?_
  refine aR (xD rfl) ⟨rfl,k_B _,trivial⟩ ?_
  refine wX ?_
  refine bQ (aS (aM (uM (fun H E=>m9 K a0 v4 x69 x75 x81=some r∧H=[⟨some b30,1,27,4,1,([pO b82 n84 c83]++[pO b76 n78 c77]++[pO b70 n72 c71]++[pO none 0 0])⟩,hO aA.cod none 0 51 0 ([]:List aA),hO cQ b70 c71 44 n72 x69,hO cQ b76 c77 44 n78 x75,hO aG.cod b82 c83 108 n84 x81,⟨some b1,1,27,4,1,([pS aG.cod ([]:List aG)]++[pS cQ ([]:List Rat)]++[pS cQ ([]:List Rat)]++[pS aA.cod ([]:List aA)])⟩]∧E=[(0,.vc (pS cI a0)),(4,.vc (pP (some b1) 0)),(5,.vc (pI .i64 v4)),(6,.vc (pP (some b30) 0)),(9,.vc (pB false))]) ?_ (fun Jj220=>?_))))
  ·rintro _ _ ⟨hF,rfl,rfl⟩
   unfold m9 at hF
   refine go ?_ ?_
   refine aV (cJ (fun H E=>∃(x235:List aA),∃(b236:Option Nat),∃(c237:Nat),∃(n238:Nat),nJ K x69 x75 x81 x235=some r∧x235.length=n238∧H=[⟨some b30,1,27,4,1,([pO b82 n84 c83]++[pO b76 n78 c77]++[pO b70 n72 c71]++[pO b236 n238 c237])⟩,hO aA.cod b236 c237 51 n238 x235,hO cQ b70 c71 44 n72 x69,hO cQ b76 c77 44 n78 x75,hO aG.cod b82 c83 108 n84 x81,⟨some b1,1,27,4,1,([pS aG.cod ([]:List aG)]++[pS cQ ([]:List Rat)]++[pS cQ ([]:List Rat)]++[pS aA.cod ([]:List aA)])⟩]∧E=[(4,.vc (pP (some b1) 0)),(6,.vc (pP (some b30) 0))]) ?_ (fun Jj242=>?_))
   ·rintro _ _ ⟨x235,b236,c237,n238,hF,q239,rfl,rfl⟩
    unfold nJ at hF
    refine aS (aM (aX (aBz 4 0 0 rfl q85 rfl rfl rfl rfl rfl ?_)))
    refine aBz 3 0 1 rfl q79 rfl rfl rfl rfl rfl ?_
    refine aBz 2 0 2 rfl q73 rfl rfl rfl rfl rfl ?_
    refine aBz 1 0 3 rfl q239 rfl rfl rfl rfl rfl ?_
    exact cA
   obtain⟨x235',hL,hRl241⟩:=a9 hF
   refine iT (fun k a w=>∃(x228:List aA),∃(x234:Int),∃(b229:Option Nat),∃(c230:Nat),∃(n231:Nat),dW K a0 v4 k x228 x234=some x235'∧x228.length=n231∧hs _ [⟨some b30,1,27,4,1,([pO b82 n84 c83]++[pO b76 n78 c77]++[pO b70 n72 c71]++[pO b229 n231 c230])⟩,hO aA.cod b229 c230 51 n231 x228,hO cQ b70 c71 44 n72 x69,hO cQ b76 c77 44 n78 x75,hO aG.cod b82 c83 108 n84 x81,⟨some b1,1,27,4,1,([pS aG.cod ([]:List aG)]++[pS cQ ([]:List Rat)]++[pS cQ ([]:List Rat)]++[pS aA.cod ([]:List aA)])⟩] [(0,.vc (pS cI a0)),(4,.vc (pP (some b1) 0)),(5,.vc (pI .i64 v4)),(6,.vc (pP (some b30) 0)),(9,.vc (pB false)),(10,.vc (pI .i64 x234))] a w) K (fun a w ⟨_,_,_,_,_,hF,_,_⟩=>by cases hF) (fun k a w ⟨x228,x234,b229,c230,n231,hF,q232,hh⟩=>iS ?_ hh) (fun a w hh=>⟨([]:List aA),0,none,0,0,hL,rfl,iH [0,1,2,3,4,5] hh⟩)
   rw [dW.eq_2] at hF
   obtain⟨v243,h244,hF⟩:=bD hF dD
   refine go ?_ ?_
   refine aJ hF rfl (fun h245 hF=>?_) (fun h245 hF=>?_)
   ·refine go ?_ ?_
    refine aV ?_
    obtain⟨v246,h247,v248,h249,hF⟩:=vN hF
    obtain⟨v250,h251,hF⟩:=bD hF dD
    obtain⟨v252,h253,hF⟩:=bD hF nN
    have hF:=tC h247 hF
    obtain⟨v256,h257,hF⟩:=a9 hF
    obtain⟨v258,h259,hF⟩:=bD hF dD
    obtain⟨v260,h261,hF⟩:=bD hF nN
    have hF:=tC h247 hF
    obtain⟨v264,h265,hF⟩:=a9 hF
    obtain⟨v266,h267,hF⟩:=bD hF dD
    have hF:=tC h247 hF
    have hF:=tC h265 hF
    obtain⟨v272,h273,hF⟩:=bD hF dD
    obtain⟨v274,h275,hF⟩:=a9 hF
    obtain⟨v276,h277,hF⟩:=bD hF cG
    refine go ?_ ?_
    refine aR (fC (is:=[5,6,7,2]) (xs:=[.tmp 92,.tmp 99,.tmp 111,.tmp 112]) (ps:=[.vc (pS aE.cod v252),.vc (pS aE.cod v260),.va (eQ v276),.vc (pI .i64 x234)]) rfl tyB51q rfl rfl ⟨trivial,trivial,trivial,trivial,trivial⟩ rfl) ⟨rfl,rfl,rfl,rfl,trivial⟩ ?_
    refine aN rfl tyZ51q (fun b278=>?_)
    refine oS (t_s 0 rfl rfl rfl tyA51.s) zU2 ?_
    refine bQ (aS (aM (uM (fun H E=>f9 K x228 x234 v250 v252 v260 v276 (dW K a0 v4 k)=some x235'∧H=[⟨some b278,1,51,18,1,([pI .i64 0]++[pI .i64 0]++[pI .i64 x234]++[pI .i64 0]++(eQ 0)++[pS aE.cod v252]++[pS aE.cod v260]++(eQ v276)++(eQ 0))⟩,⟨some b30,1,27,4,1,([pO b82 n84 c83]++[pO b76 n78 c77]++[pO b70 n72 c71]++[pO b229 n231 c230])⟩,hO aA.cod b229 c230 51 n231 x228,hO cQ b70 c71 44 n72 x69,hO cQ b76 c77 44 n78 x75,hO aG.cod b82 c83 108 n84 x81,⟨some b1,1,27,4,1,([pS aG.cod ([]:List aG)]++[pS cQ ([]:List Rat)]++[pS cQ ([]:List Rat)]++[pS aA.cod ([]:List aA)])⟩]∧E=[(0,.vc (pS cI a0)),(4,.vc (pP (some b1) 0)),(5,.vc (pI .i64 v4)),(6,.vc (pP (some b30) 0)),(9,.vc (pB false)),(10,.vc (pI .i64 x234)),(11,.vc (pI .i64 v250)),(12,.vc (pP (some b278) 0))]) ?_ (fun Jj280=>?_))))
    ·rintro _ _ ⟨hF,rfl,rfl⟩
     unfold f9 at hF
     obtain⟨v281,h282,hF⟩:=bD hF wY
     refine go ?_ ?_
     refine dQ hF (fun h283 hF=>?_) (fun h283 hF=>?_)
     ·refine go ?_ ?_
      refine mD rfl ?_
      refine go ?_ ?_
      refine oS (t_s 0 rfl rfl rfl tyO49.s) ⟨rfl,eJ aE.cod,trivial⟩ ?_
      refine go ?_ ?_
      refine aR (fC (is:=[]) (xs:=[]) (ps:=[]) rfl tyB44q rfl rfl trivial rfl) trivial ?_
      refine go ?_ ?_
      refine aR (sM (C:=aA.cod) (xs:=[.tmp 134]) (ps:=[.va ([pI .i64 0]++[pI .i64 0]++[pI .i64 x234]++[pI .i64 0]++(eQ 0)++[pS aE.cod v252]++[pS aE.cod []]++(eQ 0)++(eQ 0))]) (zs:=[(⟨0,0,x234,0,0,v252,[],0,0⟩:aA)]) rfl tyS25 rfl ⟨⟨trivial,rfl⟩,trivial⟩ rfl) zU1 ?_
      obtain⟨x284,h285,hF⟩:=a9 hF
      refine o8 2 rfl tyS25 rfl rfl q232 rfl rfl h285 (fun b286 c287 H288 e289=>?_)
      cases e289
      obtain⟨v291,h292,hF⟩:=a9 hF
      refine go ?_ ?_
      exact aL (fun a w hh=>⟨x284,v291,b286,c287,(n231+[(⟨0,0,x234,0,0,v252,[],0,0⟩:aA)].length),hF,(f7 h285 q232),iH [1,2,3,4,5,6] hh⟩)
     obtain⟨v293,h294,hF⟩:=a9 hF
     refine go ?_ ?_
     refine aJ hF rfl (fun h295 hF=>?_) (fun h295 hF=>?_)
     ·refine go ?_ ?_
      refine oS (t_s 0 rfl rfl rfl tyO49.s) ⟨rfl,eJ aE.cod,trivial⟩ ?_
      refine go ?_ ?_
      refine aR (fC (is:=[]) (xs:=[]) (ps:=[]) rfl tyB44q rfl rfl trivial rfl) trivial ?_
      refine go ?_ ?_
      refine aR (sM (C:=aA.cod) (xs:=[.tmp 134]) (ps:=[.va ([pI .i64 0]++[pI .i64 0]++[pI .i64 x234]++[pI .i64 0]++(eQ 0)++[pS aE.cod v252]++[pS aE.cod []]++(eQ 0)++(eQ 0))]) (zs:=[(⟨0,0,x234,0,0,v252,[],0,0⟩:aA)]) rfl tyS25 rfl ⟨⟨trivial,rfl⟩,trivial⟩ rfl) zU1 ?_
      obtain⟨x296,h297,hF⟩:=a9 hF
      refine o8 2 rfl tyS25 rfl rfl q232 rfl rfl h297 (fun b298 c299 H300 e301=>?_)
      cases e301
      obtain⟨v303,h304,hF⟩:=a9 hF
      refine go ?_ ?_
      exact aL (fun a w hh=>⟨x296,v303,b298,c299,(n231+[(⟨0,0,x234,0,0,v252,[],0,0⟩:aA)].length),hF,(f7 h297 q232),iH [1,2,3,4,5,6] hh⟩)
     refine go ?_ ?_
     refine aR (sM (C:=aA.cod) (xs:=[.tmp 134]) (ps:=[.va ([pI .i64 0]++[pI .i64 0]++[pI .i64 x234]++[pI .i64 0]++(eQ 0)++[pS aE.cod v252]++[pS aE.cod v260]++(eQ v276)++(eQ 0))]) (zs:=[(⟨0,0,x234,0,0,v252,v260,v276,0⟩:aA)]) rfl tyS25 rfl ⟨⟨trivial,rfl⟩,trivial⟩ rfl) zU1 ?_
     obtain⟨x305,h306,hF⟩:=a9 hF
     refine o8 2 rfl tyS25 rfl rfl q232 rfl rfl h306 (fun b307 c308 H309 e310=>?_)
     cases e310
     obtain⟨v312,h313,hF⟩:=a9 hF
     refine go ?_ ?_
     exact aL (fun a w hh=>⟨x305,v312,b307,c308,(n231+[(⟨0,0,x234,0,0,v252,v260,v276,0⟩:aA)].length),hF,(f7 h306 q232),iH [1,2,3,4,5,6] hh⟩)
    refine go ?_ ?_
    refine uP rfl ?_
    refine iO ?_
    exact qB Jj280 ⟨hF,rfl,rfl⟩ [0,1,2,3,4,5,6]
   refine dJ ?_
   obtain rfl:=qN hF
   exact qB Jj242 ⟨x228,b229,c230,n231,hRl241,q232,rfl,rfl⟩ [0,1,2,3,4,5]
  refine go ?_ ?_
  refine uP rfl ?_
  refine iO ?_
  exact qB Jj220 ⟨hF,rfl,rfl⟩ [0,1,2,3,4,5]
 obtain⟨⟨x69',x75',x81'⟩,hL,hRl87⟩:=a9 hF
 refine iT (fun k a w=>∃(x50:List Rat),∃(x56:List Rat),∃(x62:List aG),∃(x68:Int),∃(b51:Option Nat),∃(c52:Nat),∃(n53:Nat),∃(b57:Option Nat),∃(c58:Nat),∃(n59:Nat),∃(b63:Option Nat),∃(c64:Nat),∃(n65:Nat),gO K a0 v4 k x50 x56 x62 x68=some (x69',x75',x81')∧x50.length=n53∧x56.length=n59∧x62.length=n65∧hs _ [⟨some b30,1,27,4,1,([pO b63 n65 c64]++[pO b57 n59 c58]++[pO b51 n53 c52]++[pO none 0 0])⟩,hO aA.cod none 0 51 0 ([]:List aA),hO cQ b51 c52 44 n53 x50,hO cQ b57 c58 44 n59 x56,hO aG.cod b63 c64 108 n65 x62,⟨some b1,1,27,4,1,([pS aG.cod ([]:List aG)]++[pS cQ ([]:List Rat)]++[pS cQ ([]:List Rat)]++[pS aA.cod ([]:List aA)])⟩] [(0,.vc (pS cI a0)),(1,.vc (pB a1)),(4,.vc (pP (some b1) 0)),(5,.vc (pI .i64 v4)),(6,.vc (pP (some b30) 0)),(7,.vc (pI .i64 x68))] a w) K (fun a w ⟨_,_,_,_,_,_,_,_,_,_,_,_,_,hF,_,_,_,_⟩=>by cases hF) (fun k a w ⟨x50,x56,x62,x68,b51,c52,n53,b57,c58,n59,b63,c64,n65,hF,q54,q60,q66,hh⟩=>iS ?_ hh) (fun a w hh=>⟨([]:List Rat),([]:List Rat),([]:List aG),0,none,0,0,none,0,0,none,0,0,hL,rfl,rfl,rfl,iH [0,1,2,3,4,5] hh⟩)
 rw [gO.eq_2] at hF
 refine go ?_ ?_
 refine aJ hF rfl (fun h314 hF=>?_) (fun h314 hF=>?_)
 ·refine go ?_ ?_
  refine aV ?_
  obtain⟨v315,h316,hF⟩:=a9 hF
  obtain⟨v317,h318,hF⟩:=bD hF dD
  obtain⟨v321,h322,v323,h324,v325,h326,v327,h328,hF⟩:=bn4 hF
  obtain⟨v329,h330,hF⟩:=a9 hF
  obtain⟨v331,h332,hF⟩:=bD hF cG
  refine go ?_ ?_
  refine kG [0,1,0,4,12,0,32,96,224,508,1020,2044,4095,8191,16383] 12 3 [.v (.vc (pP (some b30) 0)),.v (.vc (pO b63 n65 c64)),.v (.vc (pI .i64 v317)),.v (.vc (pI .i64 v321)),.v (.vc (pI .i64 v323)),.v (.vc (pI .i64 v317)),.v (.vc (pI .i64 v325)),.v (.vc (pI .i64 v327)),.v (.vc (pI .i64 v329)),.v (.va (eQ v331)),.v (.va ((eQ v331)++(eQ 0)++[pB false]++(eQ 0)++(eQ 0))),.v (.vc (pS aG.cod [(⟨v331,0,false,0,0⟩:aG)]))] bK ⟨d0 (oK (off:=0) (k:=0) rfl tyF27_0) zU1,d0 (gF 0 1 rfl rfl rfl rfl (.one tyO23)) zU1,d0 (bW (.inl rfl)) zU1,d0 (aBA rfl h322) ⟨rfl,kL _ _,trivial⟩,d0 (w6 rfl h324) ⟨kL _ _,rfl,trivial⟩,d0 (bW (.inl rfl)) zU1,d0 (aD0 rfl h326) ⟨rfl,kL _ _,trivial⟩,d0 (aBA rfl h328) ⟨rfl,kL _ _,trivial⟩,d0 (w6 rfl h330) ⟨kL _ _,rfl,trivial⟩,d0 (bS rfl h332 rfl) zU2,d0 (fC (is:=[0]) (xs:=[.tmp 34]) (ps:=[.va (eQ v331)]) rfl tyB108q rfl rfl ⟨trivial,trivial⟩ rfl) zU1,d0 (sM (C:=aG.cod) (xs:=[.tmp 35]) (ps:=[.va ((eQ v331)++(eQ 0)++[pB false]++(eQ 0)++(eQ 0))]) (zs:=[(⟨v331,0,false,0,0⟩:aG)]) rfl tyS23 rfl ⟨⟨trivial,rfl⟩,trivial⟩ rfl) zU1,trivial⟩ (fun bs320 G319=>?_)
  obtain⟨x333,h334,hF⟩:=a9 hF
  refine o8 4 rfl tyS23 rfl rfl q66 rfl rfl h334 (fun b335 c336 H337 e338=>?_)
  cases e338
  obtain⟨v342,h343,v344,h345,v346,h347,v348,h349,hF⟩:=bn4 hF
  obtain⟨v350,h351,v352,h353,hF⟩:=vN hF
  obtain⟨v354,h355,hF⟩:=bD hF cG
  refine go ?_ ?_
  refine kG [0,1,0,4,12,28,0,64,192,448,1020,2044,4095,8191,16383] 12 3 [.v (.vc (pP (some b30) 1)),.v (.vc (pO b57 n59 c58)),.v (.vc (pI .i64 v317)),.v (.vc (pI .i64 v342)),.v (.vc (pI .i64 v344)),.v (.vc (pI .i64 v346)),.v (.vc (pI .i64 v317)),.v (.vc (pI .i64 v348)),.v (.vc (pI .i64 v350)),.v (.vc (pI .i64 v352)),.v (.va (eQ v354)),.v (.vc (pS cQ [v354]))] bK ⟨d0 (oK (off:=0) (k:=1) rfl tyF27_1) zU1,d0 (gF 0 1 rfl rfl rfl rfl (.one tyO24)) zU1,d0 (bW (.inl rfl)) zU1,d0 (aD0 rfl h343) ⟨rfl,kL _ _,trivial⟩,d0 (aBA rfl h345) ⟨rfl,kL _ _,trivial⟩,d0 (aCk rfl h347) ⟨rfl,kL _ _,trivial⟩,d0 (bW (.inl rfl)) zU1,d0 (aD0 rfl h349) ⟨rfl,kL _ _,trivial⟩,d0 (aBA rfl h351) ⟨rfl,kL _ _,trivial⟩,d0 (w6 rfl h353) ⟨kL _ _,rfl,trivial⟩,d0 (bS rfl h355 rfl) zU2,d0 (sM (C:=cQ) (xs:=[.tmp 49]) (ps:=[.va (eQ v354)]) (zs:=[v354]) rfl tyS24 rfl ⟨⟨trivial,rfl⟩,trivial⟩ rfl) zU1,trivial⟩ (fun bs341 G340=>?_)
  obtain⟨x356,h357,hF⟩:=a9 hF
  refine o8 3 rfl tyS24 rfl rfl q60 rfl rfl h357 (fun b358 c359 H360 e361=>?_)
  cases e361
  refine go ?_ ?_
  refine aR (fC (is:=[]) (xs:=[]) (ps:=[]) rfl tyB44q rfl rfl trivial rfl) trivial ?_
  refine aR (sM (C:=cQ) (xs:=[.tmp 55]) (ps:=[.va (eQ 0)]) (zs:=[0]) rfl tyS24 rfl ⟨⟨trivial,rfl⟩,trivial⟩ rfl) zU1 ?_
  obtain⟨x363,h364,hF⟩:=a9 hF
  refine o8 2 rfl tyS24 rfl rfl q54 rfl rfl h364 (fun b365 c366 H367 e368=>?_)
  cases e368
  obtain⟨v370,h371,hF⟩:=a9 hF
  refine go ?_ ?_
  exact aL (fun a w hh=>⟨x363,x356,x333,v370,b365,c366,(n53+[0].length),b358,c359,(n59+[v354].length),b335,c336,(n65+[(⟨v331,0,false,0,0⟩:aG)].length),hF,(f7 h364 q54),(f7 h357 q60),(f7 h334 q66),iH [0,1,2,3,4,5] hh⟩)
 refine dJ ?_
 obtain⟨rfl,rfl,rfl⟩:=sm3 hF
 exact qB Jj88 ⟨x50,x56,x62,b51,c52,n53,b57,c58,n59,b63,c64,n65,hRl87,q54,q60,q66,rfl,rfl⟩ [0,1,2,3,4,5]
def o7 (K:Nat):Option Bool:=
 some true
def iM (K:Nat) (a0:List Rat):Nat→Int→Option (LR Bool Unit)
 |0,_=>none
 |k+1,x2=>bif(decide (x2<(a0.length:Int))) then((bM a0 x2).bind fun v6=>(aBw v6).bind fun v9=>bif(!v9) then(some (.ret false)) else((aP (x2+1)).bind fun v12=>iM K a0 k v12)) else(some (.go ()))
def nE (K:Nat) (a0:List Rat):Option Bool:=
 (iM K a0 K 0).bind fun o=>match o with| .ret r=>some r| .go _=>o7 K
theorem xW {K:Nat} {a0:List Rat} {r:Bool} (hF:nE K a0=some r):Ct Tryz.prog 150 [.vc (pS cQ a0)] (.vc (pB r)):=by
 unfold nE at hF
 refine aI Tryz.func150 rfl (by kernel_rfl) Tryz.ntmps150 rfl (fun w0 M0=>?_)
 refine go ?_ ?_
 refine aV (cJ (fun H E=>o7 K=some r∧H=[]∧E=[]) ?_ (fun Jj4=>?_))
 ·rintro _ _ ⟨hF,rfl,rfl⟩
  unfold o7 at hF
  exact cA
 obtain⟨ol3,hL,hRl3⟩:=a9 hF
 refine iT (fun k a w=>∃(x2:Int),iM K a0 k x2=some ol3∧hs _ [] [(5,.vc (pS cQ a0)),(6,.vc (pI .i64 (a0.length:Int))),(7,.vc (pI .i64 x2))] a w) K (fun a w ⟨_,hF,_⟩=>by cases hF) (fun k a w ⟨x2,hF,hh⟩=>iS ?_ hh) (fun a w hh=>⟨0,hL,iH [] hh⟩)
 rw [iM.eq_2] at hF
 refine go ?_ ?_
 refine aJ hF rfl (fun h5 hF=>?_) (fun h5 hF=>?_)
 ·refine go ?_ ?_
  refine aV ?_
  obtain⟨v6,h7,hF⟩:=a9 hF
  refine go ?_ ?_
  refine aN rfl tyZ44q (fun b8=>?_)
  obtain⟨v9,h10,hF⟩:=bD hF pD
  refine go ?_ ?_
  refine aJ hF rfl (fun h11 hF=>?_) (fun h11 hF=>?_)
  ·exact cA
  obtain⟨v12,h13,hF⟩:=a9 hF
  refine go ?_ ?_
  exact aL (fun a w hh=>⟨v12,hF,iH [] hh⟩)
 refine dJ ?_
 obtain rfl:=qN hF
 exact qB Jj4 ⟨hRl3,rfl,rfl⟩ []
def oP (K:Nat):Option Bool:=
 some true
def gY (K:Nat) (a0:List (List Rat)) (a1:List Rat):Nat→Int→Option (LR Bool Unit)
 |0,_=>none
 |k+1,x7=>bif(decide (x7<(a0.length:Int))) then((bM a0 x7).bind fun v11=>bif((v11.length:Int) != (a1.length:Int)) then(some (.ret false)) else((nE K v11).bind fun v14=>bif(!v14) then(some (.ret false)) else((aP (x7+1)).bind fun v17=>gY K a0 a1 k v17))) else(some (.go ()))
def oJ (K:Nat) (a0:List (List Rat)) (a1:List Rat):Option Bool:=
 bif((a0.length:Int) != (a1.length:Int)) then(some false) else(bif(decide (32<(a0.length:Int))) then(some false) else((nE K a1).bind fun v3=>bif(!v3) then(some false) else((gY K a0 a1 K 0).bind fun o=>match o with| .ret r=>some r| .go _=>oP K)))
theorem aBi {K:Nat} {a0:List (List Rat)} {a1:List Rat} {r:Bool} (hF:oJ K a0 a1=some r):Ct Tryz.prog 108 [.vc (pS (xC cQ) a0),.vc (pS cQ a1)] (.vc (pB r)):=by
 unfold oJ at hF
 refine aI Tryz.func108 rfl (by kernel_rfl) Tryz.ntmps108 rfl (fun w0 M0=>?_)
 refine go ?_ ?_
 refine dQ hF (fun h1 hF=>?_) (fun h1 hF=>?_)
 ·refine go ?_ ?_
  refine mD rfl ?_
  exact cA
 refine go ?_ ?_
 refine dQ hF (fun h2 hF=>?_) (fun h2 hF=>?_)
 ·refine go ?_ ?_
  refine mD rfl ?_
  exact cA
 obtain⟨v3,h4,hF⟩:=bD hF xW
 refine go ?_ ?_
 refine aJ hF rfl (fun h5 hF=>?_) (fun h5 hF=>?_)
 ·exact cA
 refine go ?_ ?_
 refine aV (cJ (fun H E=>oP K=some r∧H=[]∧E=[]) ?_ (fun Jj9=>?_))
 ·rintro _ _ ⟨hF,rfl,rfl⟩
  unfold oP at hF
  exact cA
 obtain⟨ol8,hL,hRl8⟩:=a9 hF
 refine iT (fun k a w=>∃(x7:Int),gY K a0 a1 k x7=some ol8∧hs _ [] [(1,.vc (pS cQ a1)),(22,.vc (pS (xC cQ) a0)),(23,.vc (pI .i64 (a0.length:Int))),(24,.vc (pI .i64 x7))] a w) K (fun a w ⟨_,hF,_⟩=>by cases hF) (fun k a w ⟨x7,hF,hh⟩=>iS ?_ hh) (fun a w hh=>⟨0,hL,iH [] hh⟩)
 rw [gY.eq_2] at hF
 refine go ?_ ?_
 refine aJ hF rfl (fun h10 hF=>?_) (fun h10 hF=>?_)
 ·refine go ?_ ?_
  refine aV ?_
  obtain⟨v11,h12,hF⟩:=a9 hF
  refine go ?_ ?_
  refine dQ hF (fun h13 hF=>?_) (fun h13 hF=>?_)
  ·refine go ?_ ?_
   refine mD rfl ?_
   exact cA
  obtain⟨v14,h15,hF⟩:=bD hF xW
  refine go ?_ ?_
  refine aJ hF rfl (fun h16 hF=>?_) (fun h16 hF=>?_)
  ·exact cA
  obtain⟨v17,h18,hF⟩:=a9 hF
  refine go ?_ ?_
  exact aL (fun a w hh=>⟨v17,hF,iH [] hh⟩)
 refine dJ ?_
 obtain rfl:=qN hF
 exact qB Jj9 ⟨hRl8,rfl,rfl⟩ []
def mP (K:Nat):Option Bool:=
 some false
def fS (K:Nat) (a0:List Rat):Nat→Int→Option (LR Bool Unit)
 |0,_=>none
 |k+1,x2=>bif(decide (x2<(a0.length:Int))) then((bM a0 x2).bind fun v6=>(wP v6).bind fun v9=>bif(decide (v9<0)) then(some (.ret true)) else((aP (x2+1)).bind fun v12=>fS K a0 k v12)) else(some (.go ()))
def mC (K:Nat) (a0:List Rat):Option Bool:=
 (fS K a0 K 0).bind fun o=>match o with| .ret r=>some r| .go _=>mP K
theorem aAh {K:Nat} {a0:List Rat} {r:Bool} (hF:mC K a0=some r):Ct Tryz.prog 110 [.vc (pS cQ a0)] (.vc (pB r)):=by
 unfold mC at hF
 refine aI Tryz.func110 rfl (by kernel_rfl) Tryz.ntmps110 rfl (fun w0 M0=>?_)
 refine go ?_ ?_
 refine aV (cJ (fun H E=>mP K=some r∧H=[]∧E=[]) ?_ (fun Jj4=>?_))
 ·rintro _ _ ⟨hF,rfl,rfl⟩
  unfold mP at hF
  exact cA
 obtain⟨ol3,hL,hRl3⟩:=a9 hF
 refine iT (fun k a w=>∃(x2:Int),fS K a0 k x2=some ol3∧hs _ [] [(5,.vc (pS cQ a0)),(6,.vc (pI .i64 (a0.length:Int))),(7,.vc (pI .i64 x2))] a w) K (fun a w ⟨_,hF,_⟩=>by cases hF) (fun k a w ⟨x2,hF,hh⟩=>iS ?_ hh) (fun a w hh=>⟨0,hL,iH [] hh⟩)
 rw [fS.eq_2] at hF
 refine go ?_ ?_
 refine aJ hF rfl (fun h5 hF=>?_) (fun h5 hF=>?_)
 ·refine go ?_ ?_
  refine aV ?_
  obtain⟨v6,h7,hF⟩:=a9 hF
  refine go ?_ ?_
  refine aN rfl tyZ44q (fun b8=>?_)
  obtain⟨v9,h10,hF⟩:=bD hF jO
  refine go ?_ ?_
  refine aJ hF rfl (fun h11 hF=>?_) (fun h11 hF=>?_)
  ·exact cA
  obtain⟨v12,h13,hF⟩:=a9 hF
  refine go ?_ ?_
  exact aL (fun a w hh=>⟨v12,hF,iH [] hh⟩)
 refine dJ ?_
 obtain rfl:=qN hF
 exact qB Jj4 ⟨hRl3,rfl,rfl⟩ []
def lY (K:Nat) (a1:List Rat) (x59:List Int) (x65:List Nat) (x71:List (List Rat)):Option (Int×(List Nat)×(List Int)×(List (List Rat))):=
 some ((a1.length:Int),x65,x59,x71)
def lF (K:Nat) (a1:List Rat) (x40:List Int) (x46:List Nat) (x52:List (List Rat)) (x58:Int) (recl77:(List Int)→(List Nat)→(List (List Rat))→Int→Option ((List Int)×(List Nat)×(List (List Rat)))) (x110:List Rat):Option ((List Int)×(List Nat)×(List (List Rat))):=
 (aP (2*(a1.length:Int))).bind fun v118=>(qof (-1) 1).bind fun v120=>(bM x110 v118).bind fun v122=>(nU x110 v118 v120).bind fun x124=>(aP (2*(a1.length:Int))).bind fun v127=>(aP (v127+1)).bind fun v129=>(bM a1 x58).bind fun v131=>(bM x124 v129).bind fun v133=>(nU x124 v129 v131).bind fun x135=>(qD x46 [x52.length]).bind fun x139=>(qD x40 [x58]).bind fun x146=>(aP (x58+1)).bind fun v153=>recl77 x146 x139 (x52++[x135]) v153
def eR (K:Nat) (a0:List (List Rat)) (a1:List Rat) (x58:Int):Nat→(List Rat)→Int→Option (List Rat)
 |0,_,_=>none
 |k+1,x103,x109=>bif(decide (x109<(a1.length:Int))) then((aP ((a1.length:Int)+x109)).bind fun v156=>(bM a0 x58).bind fun v158=>(bM v158 x109).bind fun v160=>(aBY v160).bind fun v162=>(bM x103 v156).bind fun v164=>(nU x103 v156 v162).bind fun x166=>(aP (x109+1)).bind fun v169=>eR K a0 a1 x58 k x166 v169) else(some x103)
def d7 (K:Nat) (a0:List (List Rat)) (a1:List Rat):Nat→(List Int)→(List Nat)→(List (List Rat))→Int→Option ((List Int)×(List Nat)×(List (List Rat)))
 |0,_,_,_,_=>none
 |k+1,x40,x46,x52,x58=>bif(decide (x58<(a1.length:Int))) then((aP (2*(a1.length:Int))).bind fun v80=>(aP (v80+2)).bind fun v82=>(wG v82 0).bind fun x84=>(qof 1 1).bind fun v89=>(bM x84 x58).bind fun v91=>(nU x84 x58 v89).bind fun x93=>(eR K a0 a1 x58 K x93 0).bind fun x110=>lF K a1 x40 x46 x52 x58 (d7 K a0 a1 k) x110) else(some (x40,x46,x52))
def mB (K:Nat) (a0:List (List Rat)) (a1:List Rat):Option (Int×(List Nat)×(List Int)×(List (List Rat))):=
 (d7 K a0 a1 K ([]:List Int) ([]:List Nat) ([]:List (List Rat)) 0).bind fun(x59,x65,x71)=>lY K a1 x59 x65 x71
theorem zG {K:Nat} {a0:List (List Rat)} {a1:List Rat} {r:Int×(List Nat)×(List Int)×(List (List Rat))} (hF:mB K a0 a1=some r):CtO Tryz.prog 109 [] [.vc (pS (xC cQ) a0),.vc (pS cQ a1)] (fun Ho q=>∃b1171 b1175 c1176 n1177 b1180 c1181 n1182 g1185 N1186,r.2.1.length=n1177∧r.2.2.1.length=n1182∧r.2.2.2.length=N1186∧lR g1185 r.2.2.2∧(∀k∈r.2.1,k<N1186)∧Ho=([⟨some b1171,1,151,3,1,([pI .i64 r.1]++[pO b1175 n1177 c1176]++[pO b1180 n1182 c1181])⟩,hO (cH g1185) b1175 c1176 24 n1177 r.2.1,hO cI b1180 c1181 3 n1182 r.2.2.1]++iD cQ 44 g1185 r.2.2.2)∧q=.vc (pP (some b1171) 0)):=by
 unfold mB at hF
 refine aI Tryz.func109 rfl (by kernel_rfl) Tryz.ntmps109 rfl (fun w0 M0=>?_)
 refine aM (aX (aR (bW (p:=.any) (.inr rfl)) ⟨fun _=>trivial,trivial⟩ ?_))
 refine bQ (aS (aM (aX (mF ?_))))
 refine aR (uN rfl tyS24) zU1 ?_
 refine wX ?_
 refine bQ (aS (aM (aX (mF ?_))))
 refine aN5 cQ 44 ?_
 refine aCY (cH ([]:List wM)) 24 ?_
 refine aCY cI 3 ?_
 refine aR (fC (is:=[0]) (xs:=[.tmp 12]) (ps:=[.vc (pI .i64 (a1.length:Int))]) rfl tyB151_o1_o2q rfl rfl ⟨trivial,trivial⟩ rfl) zU1 ?_
 refine cT rfl rfl trivial (fun b20=>?_)
 refine go ?_ ?_
 refine aV (cJ (fun H E=>∃(x59:List Int),∃(x65:List Nat),∃(x71:List (List Rat)),∃(b60:Option Nat),∃(c61:Nat),∃(n62:Nat),∃(b66:Option Nat),∃(c67:Nat),∃(n68:Nat),∃(g72:List wM),∃(N73:Nat),lY K a1 x59 x65 x71=some r∧x59.length=n62∧x65.length=n68∧x71.length=N73∧lR g72 x71∧(∀k∈x65,k<N73)∧H=([⟨some b20,1,151,3,1,([pI .i64 (a1.length:Int)]++[pO b66 n68 c67]++[pO b60 n62 c61])⟩,hO cI b60 c61 3 n62 x59,hO (cH g72) b66 c67 24 n68 x65]++iD cQ 44 g72 x71)∧E=[(6,.vc (pP (some b20) 0))]) ?_ (fun Jj78=>?_))
 ·rintro _ _ ⟨x59,x65,x71,b60,c61,n62,b66,c67,n68,g72,N73,hF,q63,q69,q74,q75,q76,rfl,rfl⟩
  unfold lY at hF
  refine go ?_ ?_
  refine sP (sS ?_)
  obtain rfl:=qN hF
  exact zZ (.inl rfl) Tryz.results109 (.tmp rfl .nil) rfl 3 [0,2,1] rfl rfl (by decide) ⟨b20,b66,c67,n68,b60,c61,n62,g72,N73,q69,q63,q74,q75,q76,rfl,rfl⟩
 obtain⟨⟨x59',x65',x71'⟩,hL,hRl77⟩:=a9 hF
 refine iT (fun k a w=>∃(x40:List Int),∃(x46:List Nat),∃(x52:List (List Rat)),∃(x58:Int),∃(b41:Option Nat),∃(c42:Nat),∃(n43:Nat),∃(b47:Option Nat),∃(c48:Nat),∃(n49:Nat),∃(g53:List wM),∃(N54:Nat),d7 K a0 a1 k x40 x46 x52 x58=some (x59',x65',x71')∧x40.length=n43∧x46.length=n49∧x52.length=N54∧lR g53 x52∧(∀k∈x46,k<N54)∧hs _ ([⟨some b20,1,151,3,1,([pI .i64 (a1.length:Int)]++[pO b47 n49 c48]++[pO b41 n43 c42])⟩,hO cI b41 c42 3 n43 x40,hO (cH g53) b47 c48 24 n49 x46]++iD cQ 44 g53 x52) [(0,.vc (pS (xC cQ) a0)),(1,.vc (pS cQ a1)),(5,.vc (pI .i64 (a1.length:Int))),(6,.vc (pP (some b20) 0)),(15,.vc (pI .i64 (a1.length:Int))),(16,.vc (pI .i64 x58))] a w) K (fun a w ⟨_,_,_,_,_,_,_,_,_,_,_,_,hF,_,_,_,_,_,_⟩=>by cases hF) (fun k a w ⟨x40,x46,x52,x58,b41,c42,n43,b47,c48,n49,g53,N54,hF,q44,q50,q55,q56,q57,hh⟩=>iS ?_ hh) (fun a w hh=>⟨([]:List Int),([]:List Nat),([]:List (List Rat)),0,none,0,0,none,0,0,([]:List wM),0,hL,rfl,rfl,(rfl),aFL,(by simp),cM 3 [0,1,2] rfl rfl (by decide) (by exact⟨rfl,rfl,rfl,rfl,rfl,rfl,trivial⟩) hh⟩)
 rw [d7.eq_2] at hF
 refine go ?_ ?_
 refine aJ hF rfl (fun h79 hF=>?_) (fun h79 hF=>?_)
 ·refine go ?_ ?_
  refine aV ?_
  obtain⟨v80,h81,v82,h83,x84,h85,hF⟩:=bn3 hF
  refine go ?_ ?_
  refine uY (C:=cQ) rfl tyS24 rfl tyZ44q rfl h85 (fun b86=>?_)
  obtain⟨v89,h90,hF⟩:=bD hF zB
  obtain⟨v91,h92,x93,h94,hF⟩:=vN hF
  refine go ?_ ?_
  refine aV (cJ (fun H E=>∃(x110:List Rat),lF K a1 x40 x46 x52 x58 (d7 K a0 a1 k) x110=some (x59',x65',x71')∧x110.length=x84.length∧H=([hO cQ b86 x84.length 44 x84.length x110,⟨some b20,1,151,3,1,([pI .i64 (a1.length:Int)]++[pO b47 n49 c48]++[pO b41 n43 c42])⟩,hO cI b41 c42 3 n43 x40,hO (cH g53) b47 c48 24 n49 x46]++iD cQ 44 g53 x52)∧E=[(0,.vc (pS (xC cQ) a0)),(1,.vc (pS cQ a1)),(5,.vc (pI .i64 (a1.length:Int))),(6,.vc (pP (some b20) 0)),(7,.vc (pI .i64 x58)),(8,.vc (pO b86 x84.length x84.length)),(15,.vc (pI .i64 (a1.length:Int))),(16,.vc (pI .i64 x58))]) ?_ (fun Jj117=>?_))
  ·rintro _ _ ⟨x110,hF,q114,rfl,rfl⟩
   unfold lF at hF
   have hF:=tC h81 hF
   obtain⟨v120,h121,hF⟩:=bD hF zB
   obtain⟨v122,h123,x124,h125,hF⟩:=vN hF
   have hF:=tC h81 hF
   obtain⟨v129,h130,v131,h132,v133,h134,x135,h136,hF⟩:=bn4 hF
   refine go ?_ ?_
   refine aR (aR3 (rs:=x52) rfl tyS62 q56.1 (show([hO cQ b86 x84.length 44 x84.length x135,⟨some b20,1,151,3,1,([pI .i64 (a1.length:Int)]++[pO b47 n49 c48]++[pO b41 n43 c42])⟩,hO cI b41 c42 3 n43 x40,hO (cH (g53++[(b86,x84.length,x84.length)])) b47 c48 24 n49 x46]++iD cQ 44 g53 x52)=([hO cQ b86 x84.length 44 x84.length x135,⟨some b20,1,151,3,1,([pI .i64 (a1.length:Int)]++[pO b47 n49 c48]++[pO b41 n43 c42])⟩,hO cI b41 c42 3 n43 x40,hO (cH g53) b47 c48 24 n49 x46]++iD cQ 44 g53 x52) from by rw [aID (N:=x52.length) (b86,x84.length,x84.length) q56.1 (aGp q55 q57)])) zU1 ?_
   refine aEh (g:=(b86,x84.length,x84.length)) 0 4 rfl rfl rfl q56 ?_
   refine aO7 8 rfl (aLH (N:=x52.length) (b86,x84.length,x84.length) q56.1) ?_
   obtain⟨x139,h140,hF⟩:=a9 hF
   refine o8 2 rfl tyS62 rfl rfl q50 rfl rfl h140 (fun b141 c142 H143 e144=>?_)
   cases e144
   refine go ?_ ?_
   refine aR (sM (C:=cI) (xs:=[.tmp 74]) (ps:=[.vc (pI .i64 x58)]) (zs:=[x58]) rfl tyS22 rfl ⟨⟨trivial,rfl⟩,trivial⟩ rfl) zU1 ?_
   obtain⟨x146,h147,hF⟩:=a9 hF
   refine o8 1 rfl tyS22 rfl rfl q44 rfl rfl h147 (fun b148 c149 H150 e151=>?_)
   cases e151
   obtain⟨v153,h154,hF⟩:=a9 hF
   refine go ?_ ?_
   exact aL (fun a w hh=>⟨x146,x139,(x52++[x135]),v153,b148,c149,(n43+[x58].length),b141,c142,(n49+[x52.length].length),(g53++[(b86,x84.length,x84.length)]),(N54+1),hF,(f7 h147 q44),(f7 h140 q50),(aEv q55),(zW q56 (bI h136 (bI h125 q114))),(aPR q57 q55 h140),cM 3 [0,1,2] rfl rfl (by decide) (by exact⟨rfl,rfl,rfl,rfl,rfl,rfl,trivial⟩) hh⟩)
  obtain⟨x110',hL,hRl116⟩:=a9 hF
  refine iT (fun k a w=>∃(x103:List Rat),∃(x109:Int),eR K a0 a1 x58 k x103 x109=some x110'∧x103.length=x84.length∧hs _ ([hO cQ b86 x84.length 44 x84.length x103,⟨some b20,1,151,3,1,([pI .i64 (a1.length:Int)]++[pO b47 n49 c48]++[pO b41 n43 c42])⟩,hO cI b41 c42 3 n43 x40,hO (cH g53) b47 c48 24 n49 x46]++iD cQ 44 g53 x52) [(0,.vc (pS (xC cQ) a0)),(1,.vc (pS cQ a1)),(5,.vc (pI .i64 (a1.length:Int))),(6,.vc (pP (some b20) 0)),(7,.vc (pI .i64 x58)),(8,.vc (pO b86 x84.length x84.length)),(15,.vc (pI .i64 (a1.length:Int))),(16,.vc (pI .i64 x58)),(27,.vc (pI .i64 (a1.length:Int))),(28,.vc (pI .i64 x109))] a w) K (fun a w ⟨_,_,hF,_,_⟩=>by cases hF) (fun k a w ⟨x103,x109,hF,q107,hh⟩=>iS ?_ hh) (fun a w hh=>⟨x93,0,hL,(bI h94 rfl),cM 4 [0,1,2,3] rfl rfl (by decide) (by exact⟨rfl,rfl,rfl,rfl,rfl,rfl,rfl,rfl,rfl,rfl,trivial⟩) hh⟩)
  rw [eR.eq_2] at hF
  refine go ?_ ?_
  refine aJ hF rfl (fun h155 hF=>?_) (fun h155 hF=>?_)
  ·refine go ?_ ?_
   refine aV ?_
   obtain⟨v156,h157,v158,h159,v160,h161,hF⟩:=bn3 hF
   obtain⟨v162,h163,hF⟩:=bD hF pW
   obtain⟨v164,h165,x166,h167,v169,h170,hF⟩:=bn3 hF
   refine go ?_ ?_
   exact aL (fun a w hh=>⟨x166,v169,hF,(bI h167 q107),cM 4 [0,1,2,3] rfl rfl (by decide) (by exact⟨rfl,rfl,rfl,rfl,rfl,rfl,rfl,rfl,rfl,rfl,trivial⟩) hh⟩)
  refine dJ ?_
  obtain rfl:=qN hF
  exact oN Jj117 ⟨x103,hRl116,q107,rfl,rfl⟩ 4 [0,1,2,3] rfl rfl ⟨rfl,rfl,rfl,rfl,rfl,rfl,rfl,rfl,trivial⟩
 refine dJ ?_
 obtain⟨rfl,rfl,rfl⟩:=sm3 hF
 exact oN Jj78 ⟨x40,x46,x52,b41,c42,n43,b47,c48,n49,g53,N54,hRl77,q44,q50,q55,q56,q57,rfl,rfl⟩ 3 [0,1,2] rfl rfl zU1
def kJ (K:Nat) (x69:List Rat) (x75:List Rat):Option aO:=
 some (⟨x75,x69,0⟩:aO)
def bL (K:Nat) (a0:Int) (a1:List Nat) (a2:List Int) (a3:List (List Rat)):Nat→(List Rat)→(List Rat)→Int→Option ((List Rat)×(List Rat))
 |0,_,_,_=>none
 |k+1,x56,x62,x68=>bif(decide (x68<(a2.length:Int))) then((bM a2 x68).bind fun v84=>(bM a1 x68).bind fun v88=>(aP (2*a0)).bind fun v90=>(aP (v90+1)).bind fun v92=>(bM (a3.getD v88 []) v92).bind fun v94=>bif(decide (v84<a0)) then((bM x56 v84).bind fun v97=>(nU x56 v84 v94).bind fun x99=>(aP (x68+1)).bind fun v102=>bL K a0 a1 a2 a3 k x99 x62 v102) else((aP (2*a0)).bind fun v104=>bif(decide (v84<v104)) then((aP (v84-a0)).bind fun v109=>(bM x62 v109).bind fun v111=>(nU x62 v109 v94).bind fun x113=>(aP (x68+1)).bind fun v116=>bL K a0 a1 a2 a3 k x56 x113 v116) else((aP (x68+1)).bind fun v118=>bL K a0 a1 a2 a3 k x56 x62 v118))) else(some (x56,x62))
def eM (K:Nat) (a0:Int) (a1:List Nat) (a2:List Int) (a3:List (List Rat)):Option aO:=
 (wG a0 0).bind fun x23=>(wG a0 0).bind fun x27=>(bL K a0 a1 a2 a3 K x27 x23 0).bind fun(x69,x75)=>kJ K x69 x75
theorem pR {K:Nat} {a0:Int} {a1:List Nat} {a2:List Int} {a3:List (List Rat)} {r:aO} (hF:eM K a0 a1 a2 a3=some r) {p0:Nat} {b4:Option Nat} {c5 n6:Nat} {b9:Option Nat} {c10 n11:Nat} {g14:List wM} {N15:Nat} (q7:a1.length=n6) (q12:a2.length=n11) (q16:a3.length=N15) (q17:lR g14 a3) (q18:∀k∈a1,k<N15):CtO Tryz.prog 111 ([⟨some p0,1,151,3,1,([pI .i64 a0]++[pO b4 n6 c5]++[pO b9 n11 c10])⟩,hO (cH g14) b4 c5 24 n6 a1,hO cI b9 c10 3 n11 a2]++iD cQ 44 g14 a3) [.vc (pP (some p0) 0)] (fun Ho q=>Ho=([⟨some p0,1,151,3,1,([pI .i64 a0]++[pO b4 n6 c5]++[pO b9 n11 c10])⟩,hO (cH g14) b4 c5 24 n6 a1,hO cI b9 c10 3 n11 a2]++iD cQ 44 g14 a3)∧q=.va (aO.enc r)):=by
 unfold eM at hF
 refine aI Tryz.func111 rfl (by kernel_rfl) Tryz.ntmps111 rfl (fun w0 M0=>?_)
 refine aM (aX (aN rfl tyZ68q (fun b20=>?_)))
 obtain⟨x23,h24,hF⟩:=a9 hF
 have hF:=tC h24 hF
 refine go ?_ ?_
 refine sI (HsM [(0,fun G21=>([⟨some b20,1,68,3,1,([pS cQ ([]:List Rat)]++[pS cQ ([]:List Rat)]++[pI .i64 0])⟩,⟨some p0,1,151,3,1,([pI .i64 a0]++[pO b4 n6 c5]++[pO b9 n11 c10])⟩,hO (cH g14) b4 c5 24 n6 a1,hO cI b9 c10 3 n11 a2]++iD cQ 44 g14 a3)),(1,fun G21=>([hO cQ ((G21 4).1) x23.length 44 x23.length x23,⟨some b20,1,68,3,1,([pS cQ ([]:List Rat)]++[pS cQ ([]:List Rat)]++[pI .i64 0])⟩,⟨some p0,1,151,3,1,([pI .i64 a0]++[pO b4 n6 c5]++[pO b9 n11 c10])⟩,hO (cH g14) b4 c5 24 n6 a1,hO cI b9 c10 3 n11 a2]++iD cQ 44 g14 a3)),(2,fun G21=>([hO cQ ((G21 9).1) x23.length 44 x23.length x23,⟨some b20,1,68,3,1,([pS cQ ([]:List Rat)]++[pS cQ ([]:List Rat)]++[pI .i64 0])⟩,⟨some p0,1,151,3,1,([pI .i64 a0]++[pO b4 n6 c5]++[pO b9 n11 c10])⟩,hO (cH g14) b4 c5 24 n6 a1,hO cI b9 c10 3 n11 a2]++iD cQ 44 g14 a3)),(3,fun G21=>([hO cQ ((G21 9).1) x23.length 44 x23.length x23,hO cQ ((G21 4).1) x23.length 44 x23.length x23,⟨some b20,1,68,3,1,([pS cQ ([]:List Rat)]++[pS cQ ([]:List Rat)]++[pI .i64 0])⟩,⟨some p0,1,151,3,1,([pI .i64 a0]++[pO b4 n6 c5]++[pO b9 n11 c10])⟩,hO (cH g14) b4 c5 24 n6 a1,hO cI b9 c10 3 n11 a2]++iD cQ 44 g14 a3)),(7,fun G21=>([hO cQ (dB (G21 10).2) x23.length 44 x23.length x23,hO cQ ((G21 10).1) x23.length 44 x23.length x23,⟨some b20,1,68,3,1,([pS cQ ([]:List Rat)]++[pS cQ ([]:List Rat)]++[pI .i64 0])⟩,⟨some p0,1,151,3,1,([pI .i64 a0]++[pO b4 n6 c5]++[pO b9 n11 c10])⟩,hO (cH g14) b4 c5 24 n6 a1,hO cI b9 c10 3 n11 a2]++iD cQ 44 g14 a3))]) [4,9,10] [0,1,3,7,15,0,32,96,224,480,1023,0,4095] 12 1 [.v (.vc (pP (some p0) 0)),.v (.vc (pP (some p0) 0)),.v (.vc (pP (some p0) 0)),.v (.vc (pI .i64 a0)),.g (fun b _=>.vc (pO b x23.length x23.length)),.v (.vc (pP (some p0) 0)),.v (.vc (pP (some p0) 0)),.v (.vc (pP (some p0) 0)),.v (.vc (pI .i64 a0)),.g (fun b _=>.vc (pO b x23.length x23.length)),.g (fun b c=>.va ([pO b x23.length x23.length]++[pO (dB c) x23.length x23.length]++[pI .i64 0])),.a 68 ([pS cQ ([]:List Rat)]++[pS cQ ([]:List Rat)]++[pI .i64 0])] bK ⟨⟨rfl,.run (L:=[0,2]) ⟨fun G21 A=>bW (.inl rfl),fun G21 A=>bW (.inl rfl),trivial⟩ (fun G21=>zU1)⟩,⟨rfl,.run (L:=[0,2]) ⟨fun G21 A=>xX rfl,fun G21 A=>xX rfl,trivial⟩ (fun G21=>zU1)⟩,⟨rfl,.run (L:=[0,2]) ⟨fun G21 A=>oK (off:=0) (k:=0) rfl tyF151_0,fun G21 A=>oK (off:=0) (k:=0) rfl tyF151_0,trivial⟩ (fun G21=>zU1)⟩,⟨rfl,.run (L:=[0,2]) ⟨fun G21 A=>gF 1 1 rfl rfl rfl rfl (.one tyO3),fun G21 A=>gF 2 1 rfl rfl rfl rfl (.one tyO3),trivial⟩ (fun G21=>zU1)⟩,⟨rfl,.hvy [0,2] ⟨fun G21 A=>hY (C:=cQ) rfl tyS24 rfl tyZ44q h24,fun G21 A=>rJ (R:=iD cQ 44 g14 a3) [1,0,2,3,4,5] (hY (C:=cQ) rfl tyS24 rfl tyZ44q h24) (fun b_ c_=>⟨[hO cQ (b_) x23.length 44 x23.length x23,hO cQ ((G21 9).1) x23.length 44 x23.length x23,⟨some b20,1,68,3,1,([pS cQ ([]:List Rat)]++[pS cQ ([]:List Rat)]++[pI .i64 0])⟩,⟨some p0,1,151,3,1,([pI .i64 a0]++[pO b4 n6 c5]++[pO b9 n11 c10])⟩,hO (cH g14) b4 c5 24 n6 a1,hO cI b9 c10 3 n11 a2],_,rfl,rfl,rfl⟩),trivial⟩ (fun G21=>zU1)⟩,⟨rfl,.run (L:=[0,1]) ⟨fun G21 A=>bW (.inl rfl),fun G21 A=>bW (.inl rfl),trivial⟩ (fun G21=>zU1)⟩,⟨rfl,.run (L:=[0,1]) ⟨fun G21 A=>xX rfl,fun G21 A=>xX rfl,trivial⟩ (fun G21=>zU1)⟩,⟨rfl,.run (L:=[0,1]) ⟨fun G21 A=>oK (off:=0) (k:=0) rfl tyF151_0,fun G21 A=>oK (off:=0) (k:=0) rfl tyF151_0,trivial⟩ (fun G21=>zU1)⟩,⟨rfl,.run (L:=[0,1]) ⟨fun G21 A=>gF 1 1 rfl rfl rfl rfl (.one tyO3),fun G21 A=>gF 2 1 rfl rfl rfl rfl (.one tyO3),trivial⟩ (fun G21=>zU1)⟩,⟨rfl,.hvy [0,1] ⟨fun G21 A=>hY (C:=cQ) rfl tyS24 rfl tyZ44q h24,fun G21 A=>hY (C:=cQ) rfl tyS24 rfl tyZ44q h24,trivial⟩ (fun G21=>zU1)⟩,⟨rfl,.hvy [3] ⟨fun G21 A=>aQM (Post:=fun b_ x_=>([hO cQ x_ x23.length 44 x23.length x23,hO cQ b_ x23.length 44 x23.length x23,⟨some b20,1,68,3,1,([pS cQ ([]:List Rat)]++[pS cQ ([]:List Rat)]++[pI .i64 0])⟩,⟨some p0,1,151,3,1,([pI .i64 a0]++[pO b4 n6 c5]++[pO b9 n11 c10])⟩,hO (cH g14) b4 c5 24 n6 a1,hO cI b9 c10 3 n11 a2]++iD cQ 44 g14 a3)++A) (out:=fun b_ x_=>.va ([pO b_ x23.length x23.length]++[pO x_ x23.length x23.length]++[pI .i64 0])) ((G21 4).1) ((G21 9).1) (fC (is:=[0,1]) (xs:=[.tmp 11,.tmp 16]) (ps:=[.vc (pO ((G21 4).1) x23.length x23.length),.vc (pO ((G21 9).1) x23.length x23.length)]) rfl tyB68q rfl rfl ⟨trivial,trivial,trivial⟩ rfl),trivial⟩ (fun G21=>zU2)⟩,⟨rfl,.alc tyZ68q⟩,trivial⟩ (fun bs22 G21=>?_)
 refine go ?_ ?_
 refine aV (cJ (fun H E=>∃(x69:List Rat),∃(x75:List Rat),kJ K x69 x75=some r∧x69.length=x23.length∧x75.length=x23.length∧H=([⟨some (bs22 11),1,68,3,1,([pO ((G21 10).1) x23.length x23.length]++[pO (dB (G21 10).2) x23.length x23.length]++[pI .i64 0])⟩,hO cQ (dB (G21 10).2) x23.length 44 x23.length x69,hO cQ ((G21 10).1) x23.length 44 x23.length x75,⟨some b20,1,68,3,1,([pS cQ ([]:List Rat)]++[pS cQ ([]:List Rat)]++[pI .i64 0])⟩,⟨some p0,1,151,3,1,([pI .i64 a0]++[pO b4 n6 c5]++[pO b9 n11 c10])⟩,hO (cH g14) b4 c5 24 n6 a1,hO cI b9 c10 3 n11 a2]++iD cQ 44 g14 a3)∧E=[(2,.vc (pP (some b20) 0)),(3,.vc (pP (some (bs22 11)) 0))]) ?_ (fun Jj82=>?_))
 ·rintro _ _ ⟨x69,x75,hF,q73,q79,rfl,rfl⟩
  unfold kJ at hF
  refine aS (aM (aX (aBz 2 0 0 rfl q79 rfl rfl rfl rfl rfl ?_)))
  refine aBz 1 0 1 rfl q73 rfl rfl rfl rfl rfl ?_
  refine go ?_ ?_
  refine sP (sS ?_)
  obtain rfl:=qN hF
  exact zZ (.inl rfl) Tryz.results111 (aGr 1 3 rfl rfl rfl rfl (.agg tyA68) .nil) rfl 5 [2,3,4] rfl rfl (by decide) ⟨rfl,rfl⟩
 obtain⟨⟨x69',x75'⟩,hL,hRl81⟩:=a9 hF
 refine iT (fun k a w=>∃(x56:List Rat),∃(x62:List Rat),∃(x68:Int),bL K a0 a1 a2 a3 k x56 x62 x68=some (x69',x75')∧x56.length=x23.length∧x62.length=x23.length∧hs _ ([⟨some (bs22 11),1,68,3,1,([pO ((G21 10).1) x23.length x23.length]++[pO (dB (G21 10).2) x23.length x23.length]++[pI .i64 0])⟩,hO cQ (dB (G21 10).2) x23.length 44 x23.length x56,hO cQ ((G21 10).1) x23.length 44 x23.length x62,⟨some b20,1,68,3,1,([pS cQ ([]:List Rat)]++[pS cQ ([]:List Rat)]++[pI .i64 0])⟩,⟨some p0,1,151,3,1,([pI .i64 a0]++[pO b4 n6 c5]++[pO b9 n11 c10])⟩,hO (cH g14) b4 c5 24 n6 a1,hO cI b9 c10 3 n11 a2]++iD cQ 44 g14 a3) [(0,.vc (pP (some p0) 0)),(2,.vc (pP (some b20) 0)),(3,.vc (pP (some (bs22 11)) 0)),(21,.vc (pO b9 n11 c10)),(22,.vc (pI .i64 (a2.length:Int))),(23,.vc (pI .i64 x68))] a w) K (fun a w ⟨_,_,_,hF,_,_,_⟩=>by cases hF) (fun k a w ⟨x56,x62,x68,hF,q60,q66,hh⟩=>iS ?_ hh) (fun a w hh=>⟨x23,x23,0,hL,rfl,rfl,cM 7 [0,1,2,3,4,5,6] rfl rfl (by decide) (by exact⟨rfl,rfl,rfl,rfl,rfl,rfl,trivial⟩) hh⟩)
 rw [bL.eq_2] at hF
 refine go ?_ ?_
 refine aJ hF rfl (fun h83 hF=>?_) (fun h83 hF=>?_)
 ·refine go ?_ ?_
  refine aV ?_
  obtain⟨v84,h85,v88,h89,v90,h91,v92,h93,hF⟩:=bn4 hF
  obtain⟨v94,h95,hF⟩:=a9 hF
  refine go ?_ ?_
  refine kG [0,1,3,7,0,31,63,0,128,384,896,1920,3968,8191,16383,0,65535] 16 1 [.v (.vc (pP (some p0) 0)),.v (.vc (pP (some p0) 0)),.v (.vc (pP (some p0) 1)),.v (.vc (pO b4 n6 c5)),.v (.vc (pI .i64 x68)),.v (.vc (pE b4 x68 (cH g14).n 0)),.v (.vc (pO (jL g14 v88).1 (jL g14 v88).2.1 (jL g14 v88).2.2)),.v (.vc (pP (some p0) 0)),.v (.vc (pP (some p0) 0)),.v (.vc (pP (some p0) 0)),.v (.vc (pI .i64 a0)),.v (.vc (pI .i64 v90)),.v (.vc (pI .i64 v92)),.v (.vc (pE (jL g14 v88).1 v92 cQ.n 0)),.v (.va (eQ v94)),.a 44 (eQ 0)] bK ⟨d0 (bW (.inl rfl)) zU1,d0 (xX rfl) zU1,d0 (oK (off:=0) (k:=1) rfl tyF151_1) zU1,d0 (gF 4 1 rfl rfl rfl rfl (.one tyO62)) zU1,d0 (bW (.inl rfl)) zU1,d0 (l9 (C:=(cH g14)) 5 rfl tyS62 rfl q7 (aU h89).1 (aU h89).2.1) zU2,d0 (p5 (C:=(cH g14)) (k:=1) 5 rfl rfl h89 rfl (.one tyO24) rfl) zU1,d0 (bW (.inl rfl)) zU1,d0 (xX rfl) zU1,d0 (oK (off:=0) (k:=0) rfl tyF151_0) zU1,d0 (gF 4 1 rfl rfl rfl rfl (.one tyO3)) zU1,d0 (aJF rfl h91) ⟨kL _ _,rfl,trivial⟩,d0 (w6 rfl h93) ⟨rfl,kL _ _,trivial⟩,d0 (l9 (7+v88) rfl tyS24 (kY 7 rfl q17 q16 (q18 _ (bC h89))) (lW q17 q16 (q18 _ (bC h89))) (aU h95).1 (aU h95).2.1) zU2,d0 (p5 (k:=4) (7+v88) rfl (kY 7 rfl q17 q16 (q18 _ (bC h89))) h95 rfl (.agg tyA44) rfl) zU1,⟨rfl,.alc tyZ44q⟩,trivial⟩ (fun bs87 G86=>?_)
  refine go ?_ ?_
  refine aV (go ?_ ?_)
  refine aJ hF rfl (fun h96 hF=>?_) (fun h96 hF=>?_)
  ·obtain⟨v97,h98,x99,h100,v102,h103,hF⟩:=bn3 hF
   refine go ?_ ?_
   exact aL (fun a w hh=>⟨x99,x62,v102,hF,(bI h100 q60),q66,cM 8 [1,2,3,4,5,6,7] rfl rfl (by decide) (by exact⟨rfl,rfl,rfl,rfl,rfl,rfl,trivial⟩) hh⟩)
  have hF:=tC h91 hF
  refine go ?_ ?_
  refine aJ hF rfl (fun h106 hF=>?_) (fun h106 hF=>?_)
  ·obtain⟨v109,h110,hF⟩:=a9 hF
   obtain⟨v111,h112,hF⟩:=a9 hF
   refine dr [0,1,0,0,8,24,56,124,0,511,1023] 10 1 ?_ (fun bs108 G107=>?_)
   obtain⟨x113,h114,v116,h117,hF⟩:=vN hF
   refine go ?_ ?_
   exact aL (fun a w hh=>⟨x56,x113,v116,hF,q60,(bI h114 q66),cM 8 [1,2,3,4,5,6,7] rfl rfl (by decide) (by exact⟨rfl,rfl,rfl,rfl,rfl,rfl,trivial⟩) hh⟩)
  obtain⟨v118,h119,hF⟩:=a9 hF
  refine go ?_ ?_
  exact aL (fun a w hh=>⟨x56,x62,v118,hF,q60,q66,cM 8 [1,2,3,4,5,6,7] rfl rfl (by decide) (by exact⟨rfl,rfl,rfl,rfl,rfl,rfl,trivial⟩) hh⟩)
 refine dJ ?_
 obtain⟨rfl,rfl⟩:=sm2 hF
 exact oN Jj82 ⟨x56,x62,hRl81,q60,q66,rfl,rfl⟩ 7 [0,1,2,3,4,5,6] rfl rfl zU2
def iC (K:Nat):Option Bool:=
 some false
def dY (K:Nat) (a0:Int) (a1:Rat) (a2:Int) (a3:Rat) (a5:List Nat) (a7:List (List Rat)) (x23:Int) (recl24:Int→Option (LR Bool Unit)) (x28:Int):Option (LR Bool Unit):=
 (bM a5 a0).bind fun v32=>(bM (a7.getD v32 []) x28).bind fun v34=>(aGv v34 a1).bind fun v36=>(bM a5 a2).bind fun v38=>(bM (a7.getD v38 []) x28).bind fun v40=>(aGv v40 a3).bind fun v42=>(aGC v36 v42).bind fun v44=>bif(v44 != 0) then(some (.ret (decide (v44<0)))) else((aP (x23+1)).bind fun v47=>recl24 v47)
def aT (K:Nat) (a0:Int) (a1:Rat) (a2:Int) (a3:Rat) (a4:Int) (a5:List Nat) (a7:List (List Rat)):Nat→Int→Option (LR Bool Unit)
 |0,_=>none
 |k+1,x23=>bif(decide (x23<a4)) then(bif(decide (x23<0)) then((aP (2*a4)).bind fun v50=>(aP (v50+1)).bind fun v52=>dY K a0 a1 a2 a3 a5 a7 x23 (aT K a0 a1 a2 a3 a4 a5 a7 k) v52) else(dY K a0 a1 a2 a3 a5 a7 x23 (aT K a0 a1 a2 a3 a4 a5 a7 k) x23)) else(some (.go ()))
def dZ (K:Nat) (a0:Int) (a1:Rat) (a2:Int) (a3:Rat) (a4:Int) (a5:List Nat) (a6:List Int) (a7:List (List Rat)):Option Bool:=
 (aT K a0 a1 a2 a3 a4 a5 a7 K (-1)).bind fun o=>match o with| .ret r=>some r| .go _=>iC K
theorem qI {K:Nat} {a0:Int} {a1:Rat} {a2:Int} {a3:Rat} {a4:Int} {a5:List Nat} {a6:List Int} {a7:List (List Rat)} {r:Bool} (hF:dZ K a0 a1 a2 a3 a4 a5 a6 a7=some r) {p0:Nat} {b4:Option Nat} {c5 n6:Nat} {b9:Option Nat} {c10 n11:Nat} {g14:List wM} {N15:Nat} (q7:a5.length=n6) (q12:a6.length=n11) (q16:a7.length=N15) (q17:lR g14 a7) (q18:∀k∈a5,k<N15):CtO Tryz.prog 113 ([⟨some p0,1,151,3,1,([pI .i64 a4]++[pO b4 n6 c5]++[pO b9 n11 c10])⟩,hO (cH g14) b4 c5 24 n6 a5,hO cI b9 c10 3 n11 a6]++iD cQ 44 g14 a7) [.vc (pP (some p0) 0),.vc (pI .i64 a0),.va (eQ a1),.vc (pI .i64 a2),.va (eQ a3)] (fun Ho q=>Ho=([⟨some p0,1,151,3,1,([pI .i64 a4]++[pO b4 n6 c5]++[pO b9 n11 c10])⟩,hO (cH g14) b4 c5 24 n6 a5,hO cI b9 c10 3 n11 a6]++iD cQ 44 g14 a7)∧q=.vc (pB r)):=by
 unfold dZ at hF
 refine aI Tryz.func113 rfl (by kernel_rfl) Tryz.ntmps113 rfl (fun w0 M0=>?_)
 refine aM (aX (cT rfl rfl trivial (fun b20=>?_)))
 refine cT rfl rfl trivial (fun b21=>?_)
 refine go ?_ ?_
 refine aV (cJ (fun H E=>iC K=some r∧H=([⟨some p0,1,151,3,1,([pI .i64 a4]++[pO b4 n6 c5]++[pO b9 n11 c10])⟩,hO (cH g14) b4 c5 24 n6 a5,hO cI b9 c10 3 n11 a6]++iD cQ 44 g14 a7)∧E=[]) ?_ (fun Jj25=>?_))
 ·rintro _ _ ⟨hF,rfl,rfl⟩
  unfold iC at hF
  refine go ?_ ?_
  refine sP (sS ?_)
  obtain rfl:=qN hF
  exact zZ (.inl rfl) Tryz.results113 (.tmp rfl .nil) rfl 3 [0,1,2] rfl rfl (by decide) ⟨rfl,rfl⟩
 obtain⟨ol24,hL,hRl24⟩:=a9 hF
 refine iT (fun k a w=>∃(x23:Int),aT K a0 a1 a2 a3 a4 a5 a7 k x23=some ol24∧hs _ ([⟨some b21,1,44,4,1,(eQ a3)⟩,⟨some b20,1,44,4,1,(eQ a1)⟩,⟨some p0,1,151,3,1,([pI .i64 a4]++[pO b4 n6 c5]++[pO b9 n11 c10])⟩,hO (cH g14) b4 c5 24 n6 a5,hO cI b9 c10 3 n11 a6]++iD cQ 44 g14 a7) [(0,.vc (pP (some p0) 0)),(1,.vc (pI .i64 a0)),(3,.vc (pI .i64 a2)),(7,.vc (pP (some b20) 0)),(9,.vc (pP (some b21) 0)),(11,.vc (pI .i64 x23))] a w) K (fun a w ⟨_,hF,_⟩=>by cases hF) (fun k a w ⟨x23,hF,hh⟩=>iS ?_ hh) (fun a w hh=>⟨(-1),hL,cM 5 [0,1,2,3,4] rfl rfl (by decide) (by exact⟨rfl,rfl,rfl,rfl,rfl,rfl,trivial⟩) hh⟩)
 rw [aT.eq_2] at hF
 refine go ?_ ?_
 refine aJ hF rfl (fun h26 hF=>?_) (fun h26 hF=>?_)
 ·refine go ?_ ?_
  refine aV (aM (aX (mF ?_)))
  refine wX ?_
  refine bQ (aS (aM (uM (fun H E=>∃(x28:Int),dY K a0 a1 a2 a3 a5 a7 x23 (aT K a0 a1 a2 a3 a4 a5 a7 k) x28=some ol24∧H=([⟨some b21,1,44,4,1,(eQ a3)⟩,⟨some b20,1,44,4,1,(eQ a1)⟩,⟨some p0,1,151,3,1,([pI .i64 a4]++[pO b4 n6 c5]++[pO b9 n11 c10])⟩,hO (cH g14) b4 c5 24 n6 a5,hO cI b9 c10 3 n11 a6]++iD cQ 44 g14 a7)∧E=[(0,.vc (pP (some p0) 0)),(1,.vc (pI .i64 a0)),(3,.vc (pI .i64 a2)),(7,.vc (pP (some b20) 0)),(9,.vc (pP (some b21) 0)),(11,.vc (pI .i64 x23)),(12,.vc (pI .i64 x28))]) ?_ (fun Jj29=>?_))))
  ·rintro _ _ ⟨x28,hF,rfl,rfl⟩
   unfold dY at hF
   refine aM ?_
   obtain⟨v32,h33,hF⟩:=a9 hF
   obtain⟨v34,h35,hF⟩:=a9 hF
   obtain⟨v36,h37,hF⟩:=bD hF aBI
   obtain⟨v38,h39,hF⟩:=a9 hF
   obtain⟨v40,h41,hF⟩:=a9 hF
   obtain⟨v42,h43,hF⟩:=bD hF aBI
   obtain⟨v44,h45,hF⟩:=bD hF sV
   refine kG (0::1::3::7::0::31::63::0::255::511::0::2047::0::4096::12288::28672::0::126976::258048::0::1044480::2093056::0::8388607::16777215::33554431::[]) 26 0 (.v (.vc (pP (some p0) 0))::.v (.vc (pP (some p0) 0))::.v (.vc (pP (some p0) 1))::.v (.vc (pO b4 n6 c5))::.v (.vc (pI .i64 a0))::.v (.vc (pE b4 a0 (cH g14).n 0))::.v (.vc (pO (jL g14 v32).1 (jL g14 v32).2.1 (jL g14 v32).2.2))::.v (.vc (pI .i64 x28))::.v (.vc (pE (jL g14 v32).1 x28 cQ.n 0))::.v (.va (eQ v34))::.v (.va (eQ a1))::.v (.va (eQ v36))::.v (.vc (pP (some p0) 0))::.v (.vc (pP (some p0) 0))::.v (.vc (pP (some p0) 1))::.v (.vc (pO b4 n6 c5))::.v (.vc (pI .i64 a2))::.v (.vc (pE b4 a2 (cH g14).n 0))::.v (.vc (pO (jL g14 v38).1 (jL g14 v38).2.1 (jL g14 v38).2.2))::.v (.vc (pI .i64 x28))::.v (.vc (pE (jL g14 v38).1 x28 cQ.n 0))::.v (.va (eQ v40))::.v (.va (eQ a3))::.v (.va (eQ v42))::.v (.vc (pI .i64 v44))::.v (.vc (pI .i64 v44))::[]) bK ⟨d0 (bW (.inl rfl)) zU1,d0 (xX rfl) zU1,d0 (oK (off:=0) (k:=1) rfl tyF151_1) zU1,d0 (gF 2 1 rfl rfl rfl rfl (.one tyO62)) zU1,d0 (bW (.inl rfl)) zU1,d0 (l9 (C:=(cH g14)) 3 rfl tyS62 rfl q7 (aU h33).1 (aU h33).2.1) zU2,d0 (p5 (C:=(cH g14)) (k:=1) 3 rfl rfl h33 rfl (.one tyO24) rfl) zU1,d0 (bW (.inl rfl)) zU1,d0 (l9 (5+v32) rfl tyS24 (kY 5 rfl q17 q16 (q18 _ (bC h33))) (lW q17 q16 (q18 _ (bC h33))) (aU h35).1 (aU h35).2.1) zU2,d0 (p5 (k:=4) (5+v32) rfl (kY 5 rfl q17 q16 (q18 _ (bC h33))) h35 rfl (.agg tyA44) rfl) zU1,d0 (gF 1 4 rfl rfl rfl rfl (.agg tyA44)) zU1,d0 (bS rfl h37 rfl) zU2,d0 (bW (.inl rfl)) zU1,d0 (xX rfl) zU1,d0 (oK (off:=0) (k:=1) rfl tyF151_1) zU1,d0 (gF 2 1 rfl rfl rfl rfl (.one tyO62)) zU1,d0 (bW (.inl rfl)) zU1,d0 (l9 (C:=(cH g14)) 3 rfl tyS62 rfl q7 (aU h39).1 (aU h39).2.1) zU2,d0 (p5 (C:=(cH g14)) (k:=1) 3 rfl rfl h39 rfl (.one tyO24) rfl) zU1,d0 (bW (.inl rfl)) zU1,d0 (l9 (5+v38) rfl tyS24 (kY 5 rfl q17 q16 (q18 _ (bC h39))) (lW q17 q16 (q18 _ (bC h39))) (aU h41).1 (aU h41).2.1) zU2,d0 (p5 (k:=4) (5+v38) rfl (kY 5 rfl q17 q16 (q18 _ (bC h39))) h41 rfl (.agg tyA44) rfl) zU1,d0 (gF 0 4 rfl rfl rfl rfl (.agg tyA44)) zU1,d0 (bS rfl h43 rfl) zU2,d0 (bS rfl h45 rfl) zU2,d0 (bW (.inr rfl)) zU1,trivial⟩ (fun bs31 G30=>?_)
   refine go ?_ ?_
   refine aJ hF rfl (fun h46 hF=>?_) (fun h46 hF=>?_)
   ·refine go ?_ ?_
    refine sP (sS ?_)
    obtain rfl:=qN hF
    obtain rfl:=qN hRl24
    exact zZ (.inl rfl) Tryz.results113 (.tmp rfl .nil) rfl 5 [2,3,4] rfl rfl (by decide) ⟨rfl,rfl⟩
   obtain⟨v47,h48,hF⟩:=a9 hF
   refine go ?_ ?_
   exact aL (fun a w hh=>⟨v47,hF,cM 5 [0,1,2,3,4] rfl rfl (by decide) (by exact⟨rfl,rfl,rfl,rfl,rfl,rfl,trivial⟩) hh⟩)
  refine go ?_ ?_
  refine aJ hF rfl (fun h49 hF=>?_) (fun h49 hF=>?_)
  ·refine aX (mF ?_)
   refine aR (xX rfl) zU1 ?_
   refine aR (oK (off:=0) (k:=0) rfl tyF151_0) zU1 ?_
   refine aR (gF 2 1 rfl rfl rfl rfl (.one tyO3)) zU1 ?_
   obtain⟨v50,h51,hF⟩:=a9 hF
   refine aR (aJF rfl h51) ⟨kL _ _,rfl,trivial⟩ ?_
   obtain⟨v52,h53,hF⟩:=a9 hF
   refine aR (w6 rfl h53) ⟨rfl,kL _ _,trivial⟩ ?_
   refine wX ?_
   refine bQ ?_
   exact oN Jj29 ⟨v52,hF,rfl,rfl⟩ 5 [0,1,2,3,4] rfl rfl ⟨rfl,rfl,rfl,rfl,rfl,rfl,rfl,trivial⟩
  refine iO ?_
  exact oN Jj29 ⟨x23,hF,rfl,rfl⟩ 5 [0,1,2,3,4] rfl rfl ⟨rfl,rfl,rfl,rfl,rfl,rfl,rfl,trivial⟩
 refine dJ ?_
 obtain rfl:=qN hF
 exact oN Jj25 ⟨hRl24,rfl,rfl⟩ 5 [2,3,4] rfl rfl trivial
def gR (K:Nat) (a0:Int) (a1:Int) (a4:List Int) (x57:List Nat) (x71:List (List Rat)):Option (Int×(List Nat)×(List Int)×(List (List Rat))):=
 (bM a4 a0).bind fun v77=>(bM a4 a0).bind fun v79=>(nU a4 a0 a1).bind fun x81=>some (v77,x57,x81,x71)
def gP (K:Nat) (x70:Int) (recl75:(List (List Rat))→Int→Option (List (List Rat))) (x108:List (List Rat)):Option (List (List Rat)):=
 (aP (x70+1)).bind fun v114=>recl75 x108 v114
def cS (K:Nat) (a5:List (List Rat)) (x66:List (List Rat)) (v85:Nat) (v87:Rat):Nat→(List (List Rat))→Int→Option (List (List Rat))
 |0,_,_=>none
 |k+1,x103,x107=>bif(decide (x107<((x66.getD v85 []).length:Int))) then((bM (x103.getD v85 []) x107).bind fun v119=>(bM (x103.getD a5.length []) x107).bind fun v121=>(z5 v87 v121).bind fun v123=>(aEO v119 v123).bind fun v125=>(bM (x103.getD v85 []) x107).bind fun v127=>(nU (x103.getD v85 []) x107 v125).bind fun x129=>(aP (x107+1)).bind fun v132=>cS K a5 x66 v85 v87 k (x103.set v85 x129) v132) else(some x103)
def bB (K:Nat) (a0:Int) (a1:Int) (a5:List (List Rat)) (x57:List Nat):Nat→(List (List Rat))→Int→Option (List (List Rat))
 |0,_,_=>none
 |k+1,x66,x70=>bif(decide (x70<(x57.length:Int))) then((bM x57 x70).bind fun v85=>(bM (x66.getD v85 []) a1).bind fun v87=>bif(x70==a0) then((aP (x70+1)).bind fun v91=>bB K a0 a1 a5 x57 k x66 v91) else((wP v87).bind fun v93=>bif(v93==0) then((aP (x70+1)).bind fun v96=>bB K a0 a1 a5 x57 k x66 v96) else((cS K a5 x66 v85 v87 K x66 0).bind fun x108=>gP K x70 (bB K a0 a1 a5 x57 k) x108))) else(some x66)
def gS (K:Nat) (a0:Int) (a1:Int) (a3:List Nat) (a4:List Int) (a5:List (List Rat)) (x47:List Rat):Option (Int×(List Nat)×(List Int)×(List (List Rat))):=
 (bM a3 a0).bind fun v55=>(nU a3 a0 a5.length).bind fun x57=>(bB K a0 a1 a5 x57 K (a5++[x47]) 0).bind fun x71=>gR K a0 a1 a4 x57 x71
def cV (K:Nat) (a5:List (List Rat)) (x22:List Rat) (v27:Nat) (v30:Rat):Nat→(List Rat)→Int→Option (List Rat)
 |0,_,_=>none
 |k+1,x40,x46=>bif(decide (x46<((cpL x22 (a5.getD v27 [])).length:Int))) then((bM x40 x46).bind fun v137=>(aGv v137 v30).bind fun v139=>(bM x40 x46).bind fun v141=>(nU x40 x46 v139).bind fun x143=>(aP (x46+1)).bind fun v146=>cV K a5 x22 v27 v30 k x143 v146) else(some x40)
def gL (K:Nat) (a0:Int) (a1:Int) (a2:Int) (a3:List Nat) (a4:List Int) (a5:List (List Rat)):Option (Int×(List Nat)×(List Int)×(List (List Rat))):=
 (bM a3 a0).bind fun v20=>(wG ((a5.getD v20 []).length:Int) 0).bind fun x22=>(bM a3 a0).bind fun v27=>(bM (cpL x22 (a5.getD v27 [])) a1).bind fun v30=>(cV K a5 x22 v27 v30 K (cpL x22 (a5.getD v27 [])) 0).bind fun x47=>gS K a0 a1 a3 a4 a5 x47
theorem vO {K:Nat} {a0:Int} {a1:Int} {a2:Int} {a3:List Nat} {a4:List Int} {a5:List (List Rat)} {r:Int×(List Nat)×(List Int)×(List (List Rat))} (hF:gL K a0 a1 a2 a3 a4 a5=some r) {p0:Nat} {b4:Option Nat} {c5 n6:Nat} {b9:Option Nat} {c10 n11:Nat} {g14:List wM} {N15:Nat} (q7:a3.length=n6) (q12:a4.length=n11) (q16:a5.length=N15) (q17:lR g14 a5) (q18:∀k∈a3,k<N15):CtO Tryz.prog 114 ([⟨some p0,1,151,3,1,([pI .i64 a2]++[pO b4 n6 c5]++[pO b9 n11 c10])⟩,hO (cH g14) b4 c5 24 n6 a3,hO cI b9 c10 3 n11 a4]++iD cQ 44 g14 a5) [.vc (pP (some p0) 0),.vc (pI .i64 a0),.vc (pI .i64 a1)] (fun Ho q=>∃b1148 c1149 n1150 g1155 N1156,r.2.1.length=n1150∧r.2.2.1.length=n11∧r.2.2.2.length=N1156∧lR g1155 r.2.2.2∧(∀k∈r.2.1,k<N1156)∧Ho=([⟨some p0,1,151,3,1,([pI .i64 a2]++[pO b1148 n1150 c1149]++[pO b9 n11 c10])⟩,hO (cH g1155) b1148 c1149 24 n1150 r.2.1,hO cI b9 c10 3 n11 r.2.2.1]++iD cQ 44 g1155 r.2.2.2)∧q=.vc (pI .i64 r.1)):=by
 unfold gL at hF
 refine aI Tryz.func114 rfl (by kernel_rfl) Tryz.ntmps114 rfl (fun w0 M0=>?_)
 obtain⟨v20,h21,hF⟩:=a9 hF
 refine go ?_ ?_
 refine aR (aFF (C:=cQ) (xs:=(a5.getD v20 [])) (T:=44) rfl tyS24 (lW q17 q16 (q18 _ (bC h21)))) zU1 ?_
 obtain⟨x22,h23,hF⟩:=a9 hF
 refine uY (C:=cQ) rfl tyS24 rfl tyZ44q rfl h23 (fun b24=>?_)
 have hF:=tC h21 hF
 refine go ?_ ?_
 refine aR (aRr 0 (4+v20) rfl tyS24 rfl rfl (aB2 4 rfl q17 q16 (q18 _ (bC h21))) (lW q17 q16 (q18 _ (bC h21))) rfl) zU2 ?_
 obtain⟨v30,h31,hF⟩:=a9 hF
 refine go ?_ ?_
 refine aR (l9 (C:=cQ) 0 rfl tyS24 rfl (aCz rfl) (aU h31).1 (aU h31).2.1) zU2 ?_
 refine aR (p5 (k:=4) 0 rfl rfl h31 rfl (.agg tyA44) rfl) zU1 ?_
 refine aN rfl tyZ44q (fun b32=>?_)
 refine go ?_ ?_
 refine aR (aFF (C:=cQ) (xs:=(cpL x22 (a5.getD v20 []))) (T:=44) rfl tyS24 (aCz rfl)) zU1 ?_
 refine go ?_ ?_
 refine aV (cJ (fun H E=>∃(x47:List Rat),gS K a0 a1 a3 a4 a5 x47=some r∧x47.length=x22.length∧H=([hO cQ b24 x22.length 44 x22.length x47,⟨some p0,1,151,3,1,([pI .i64 a2]++[pO b4 n6 c5]++[pO b9 n11 c10])⟩,hO (cH g14) b4 c5 24 n6 a3,hO cI b9 c10 3 n11 a4]++iD cQ 44 g14 a5)∧E=[(0,.vc (pP (some p0) 0)),(1,.vc (pI .i64 a0)),(2,.vc (pI .i64 a1)),(7,.vc (pO b24 x22.length x22.length))]) ?_ (fun Jj54=>?_))
 ·rintro _ _ ⟨x47,hF,q51,rfl,rfl⟩
  unfold gS at hF
  refine aS (aM (aX (mF ?_)))
  refine aR (xX rfl) zU1 ?_
  refine aR (oK (off:=0) (k:=1) rfl tyF151_1) zU1 ?_
  refine aR (gF 1 1 rfl rfl rfl rfl (.one tyO62)) zU1 ?_
  refine mF ?_
  refine mF ?_
  have hF:=tC h21 hF
  refine aR (l9 (C:=(cH g14)) 2 rfl tyS62 rfl q7 (aU h21).1 (aU h21).2.1) zU2 ?_
  obtain⟨x57,h58,hF⟩:=a9 hF
  refine aPf (show([hO cQ b24 x22.length 44 x22.length x47,⟨some p0,1,151,3,1,([pI .i64 a2]++[pO b4 n6 c5]++[pO b9 n11 c10])⟩,hO (cH (g14++[(b24,x22.length,x22.length)])) b4 c5 24 n6 a3,hO cI b9 c10 3 n11 a4]++iD cQ 44 g14 a5)=([hO cQ b24 x22.length 44 x22.length x47,⟨some p0,1,151,3,1,([pI .i64 a2]++[pO b4 n6 c5]++[pO b9 n11 c10])⟩,hO (cH g14) b4 c5 24 n6 a3,hO cI b9 c10 3 n11 a4]++iD cQ 44 g14 a5) from by rw [aID (N:=a5.length) (b24,x22.length,x22.length) q17.1 (aGp q16 q18)]) ?_
  refine oS (xT (C:=cH (g14++[(b24,x22.length,x22.length)])) (z':=a5.length) 2 rfl rfl h21 h58 tyO24.s (hq:=aHp (b24,x22.length,x22.length) q17.1)) zU2 ?_
  refine aEh (g:=(b24,x22.length,x22.length)) 0 4 rfl rfl rfl q17 ?_
  refine aO7 7 rfl (aLH (N:=a5.length) (b24,x22.length,x22.length) q17.1) ?_
  refine go ?_ ?_
  refine aV (cJ (fun H E=>∃(x71:List (List Rat)),gR K a0 a1 a4 x57 x71=some r∧x71.length=(N15+1)∧lR (g14++[(b24,x22.length,x22.length)]) x71∧H=([⟨some p0,1,151,3,1,([pI .i64 a2]++[pO b4 n6 c5]++[pO b9 n11 c10])⟩,hO (cH (g14++[(b24,x22.length,x22.length)])) b4 c5 24 n6 x57,hO cI b9 c10 3 n11 a4]++iD cQ 44 (g14++[(b24,x22.length,x22.length)]) x71)∧E=[(0,.vc (pP (some p0) 0)),(1,.vc (pI .i64 a0)),(2,.vc (pI .i64 a1))]) ?_ (fun Jj76=>?_))
  ·rintro _ _ ⟨x71,hF,q72,q73,rfl,rfl⟩
   unfold gR at hF
   obtain⟨v77,h78,hF⟩:=a9 hF
   have hF:=tC h78 hF
   obtain⟨x81,h82,hF⟩:=a9 hF
   refine go ?_ ?_
   refine sP (sS ?_)
   obtain rfl:=qN hF
   exact zZ (.inl rfl) Tryz.results114 (.tmp rfl .nil) rfl 3 [0,1,2] rfl rfl (by decide) ⟨b4,c5,n6,(g14++[(b24,x22.length,x22.length)]),(N15+1),(bI h58 q7),(bI h82 q12),q72,q73,(sG q18 h58 q16),rfl,rfl⟩
  obtain⟨x71',hL,hRl75⟩:=a9 hF
  refine iT (fun k a w=>∃(x66:List (List Rat)),∃(x70:Int),bB K a0 a1 a5 x57 k x66 x70=some x71'∧x66.length=(N15+1)∧lR (g14++[(b24,x22.length,x22.length)]) x66∧hs _ ([⟨some p0,1,151,3,1,([pI .i64 a2]++[pO b4 n6 c5]++[pO b9 n11 c10])⟩,hO (cH (g14++[(b24,x22.length,x22.length)])) b4 c5 24 n6 x57,hO cI b9 c10 3 n11 a4]++iD cQ 44 (g14++[(b24,x22.length,x22.length)]) x66) [(0,.vc (pP (some p0) 0)),(1,.vc (pI .i64 a0)),(2,.vc (pI .i64 a1)),(7,.vc (pO (jL (g14++[(b24,x22.length,x22.length)]) a5.length).1 (jL (g14++[(b24,x22.length,x22.length)]) a5.length).2.1 (jL (g14++[(b24,x22.length,x22.length)]) a5.length).2.2)),(62,.vc (pO b4 n6 c5)),(63,.vc (pI .i64 (x57.length:Int))),(64,.vc (pI .i64 x70))] a w) K (fun a w ⟨_,_,hF,_,_,_⟩=>by cases hF) (fun k a w ⟨x66,x70,hF,q67,q68,hh⟩=>iS ?_ hh) (fun a w hh=>⟨(a5++[x47]),0,hL,(aEv q16),(zW q17 q51),cM 3 [0,1,2] rfl rfl (by decide) (by exact⟨rfl,rfl,rfl,rfl,rfl,rfl,rfl,trivial⟩) hh⟩)
  rw [bB.eq_2] at hF
  refine go ?_ ?_
  refine aJ hF rfl (fun h84 hF=>?_) (fun h84 hF=>?_)
  ·refine go ?_ ?_
   refine aV ?_
   obtain⟨v85,h86,v87,h88,hF⟩:=vN hF
   refine go ?_ ?_
   refine aR (l9 (3+v85) rfl tyS24 (aB2 3 rfl q68 q67 ((sG q18 h58 q16) _ (bC h86))) (lW q68 q67 ((sG q18 h58 q16) _ (bC h86))) (aU h88).1 (aU h88).2.1) zU2 ?_
   refine aR (p5 (k:=4) (3+v85) rfl (aB2 3 rfl q68 q67 ((sG q18 h58 q16) _ (bC h86))) h88 rfl (.agg tyA44) rfl) zU1 ?_
   refine aN rfl tyZ44q (fun b89=>?_)
   refine go ?_ ?_
   refine dQ hF (fun h90 hF=>?_) (fun h90 hF=>?_)
   ·refine go ?_ ?_
    refine mD rfl ?_
    refine dJ ?_
    obtain⟨v91,h92,hF⟩:=a9 hF
    refine go ?_ ?_
    exact aL (fun a w hh=>⟨x66,v91,hF,q67,q68,cM 4 [1,2,3] rfl rfl (by decide) (by exact⟨rfl,rfl,rfl,rfl,rfl,rfl,rfl,trivial⟩) hh⟩)
   obtain⟨v93,h94,hF⟩:=bD hF jO
   refine go ?_ ?_
   refine aJ hF rfl (fun h95 hF=>?_) (fun h95 hF=>?_)
   ·refine dJ ?_
    obtain⟨v96,h97,hF⟩:=a9 hF
    refine go ?_ ?_
    exact aL (fun a w hh=>⟨x66,v96,hF,q67,q68,cM 4 [1,2,3] rfl rfl (by decide) (by exact⟨rfl,rfl,rfl,rfl,rfl,rfl,rfl,trivial⟩) hh⟩)
   refine go ?_ ?_
   refine aR (aFF (C:=cQ) (xs:=(x66.getD v85 [])) (T:=44) rfl tyS24 (lW q68 q67 ((sG q18 h58 q16) _ (bC h86)))) zU1 ?_
   refine go ?_ ?_
   refine aV (cJ (fun H E=>∃(x108:List (List Rat)),gP K x70 (bB K a0 a1 a5 x57 k) x108=some x71'∧x108.length=(N15+1)∧lR (g14++[(b24,x22.length,x22.length)]) x108∧H=([⟨some p0,1,151,3,1,([pI .i64 a2]++[pO b4 n6 c5]++[pO b9 n11 c10])⟩,hO (cH (g14++[(b24,x22.length,x22.length)])) b4 c5 24 n6 x57,hO cI b9 c10 3 n11 a4]++iD cQ 44 (g14++[(b24,x22.length,x22.length)]) x108)∧E=[(0,.vc (pP (some p0) 0)),(1,.vc (pI .i64 a0)),(2,.vc (pI .i64 a1)),(7,.vc (pO (jL (g14++[(b24,x22.length,x22.length)]) a5.length).1 (jL (g14++[(b24,x22.length,x22.length)]) a5.length).2.1 (jL (g14++[(b24,x22.length,x22.length)]) a5.length).2.2)),(62,.vc (pO b4 n6 c5)),(63,.vc (pI .i64 (x57.length:Int))),(64,.vc (pI .i64 x70)),(77,.va (eQ v87)),(78,.vc (pI .i64 v93)),(79,.vc (pB (v93==0)))]) ?_ (fun Jj113=>?_))
   ·rintro _ _ ⟨x108,hF,q109,q110,rfl,rfl⟩
    unfold gP at hF
    obtain⟨v114,h115,hF⟩:=a9 hF
    refine go ?_ ?_
    exact aL (fun a w hh=>⟨x108,v114,hF,q109,q110,cM 3 [0,1,2] rfl rfl (by decide) (by exact⟨rfl,rfl,rfl,rfl,rfl,rfl,rfl,trivial⟩) hh⟩)
   obtain⟨x108',hL,hRl112⟩:=a9 hF
   refine iT (fun k a w=>∃(x103:List (List Rat)),∃(x107:Int),cS K a5 x66 v85 v87 k x103 x107=some x108'∧x103.length=(N15+1)∧lR (g14++[(b24,x22.length,x22.length)]) x103∧hs _ ([⟨some b89,1,44,4,1,(eQ v87)⟩,⟨some p0,1,151,3,1,([pI .i64 a2]++[pO b4 n6 c5]++[pO b9 n11 c10])⟩,hO (cH (g14++[(b24,x22.length,x22.length)])) b4 c5 24 n6 x57,hO cI b9 c10 3 n11 a4]++iD cQ 44 (g14++[(b24,x22.length,x22.length)]) x103) [(0,.vc (pP (some p0) 0)),(1,.vc (pI .i64 a0)),(2,.vc (pI .i64 a1)),(7,.vc (pO (jL (g14++[(b24,x22.length,x22.length)]) a5.length).1 (jL (g14++[(b24,x22.length,x22.length)]) a5.length).2.1 (jL (g14++[(b24,x22.length,x22.length)]) a5.length).2.2)),(11,.vc (pO (jL (g14++[(b24,x22.length,x22.length)]) v85).1 (jL (g14++[(b24,x22.length,x22.length)]) v85).2.1 (jL (g14++[(b24,x22.length,x22.length)]) v85).2.2)),(12,.vc (pP (some b89) 0)),(62,.vc (pO b4 n6 c5)),(63,.vc (pI .i64 (x57.length:Int))),(64,.vc (pI .i64 x70)),(77,.va (eQ v87)),(78,.vc (pI .i64 v93)),(79,.vc (pB (v93==0))),(82,.vc (pI .i64 ((x66.getD v85 []).length:Int))),(83,.vc (pI .i64 x107))] a w) K (fun a w ⟨_,_,hF,_,_,_⟩=>by cases hF) (fun k a w ⟨x103,x107,hF,q104,q105,hh⟩=>iS ?_ hh) (fun a w hh=>⟨x66,0,hL,q67,q68,cM 4 [0,1,2,3] rfl rfl (by decide) (by exact⟨rfl,rfl,rfl,rfl,rfl,rfl,rfl,rfl,rfl,rfl,rfl,rfl,rfl,rfl,trivial⟩) hh⟩)
   rw [cS.eq_2] at hF
   refine go ?_ ?_
   refine aJ hF rfl (fun h116 hF=>?_) (fun h116 hF=>?_)
   ·refine go ?_ ?_
    refine aV ?_
    obtain⟨v119,h120,v121,h122,hF⟩:=vN hF
    obtain⟨v123,h124,hF⟩:=bD hF rF
    obtain⟨v125,h126,hF⟩:=bD hF aDX
    have hF:=tC h120 hF
    refine go ?_ ?_
    refine kG [0,0,0,0,12,28,0,0,0,384,896,1984,4092,8191,16383] 14 1 [.v (.vc (pO (jL (g14++[(b24,x22.length,x22.length)]) v85).1 (jL (g14++[(b24,x22.length,x22.length)]) v85).2.1 (jL (g14++[(b24,x22.length,x22.length)]) v85).2.2)),.v (.vc (pI .i64 x107)),.v (.vc (pO (jL (g14++[(b24,x22.length,x22.length)]) v85).1 (jL (g14++[(b24,x22.length,x22.length)]) v85).2.1 (jL (g14++[(b24,x22.length,x22.length)]) v85).2.2)),.v (.vc (pI .i64 x107)),.v (.vc (pE (jL (g14++[(b24,x22.length,x22.length)]) v85).1 x107 cQ.n 0)),.v (.va (eQ v119)),.v (.va (eQ v87)),.v (.vc (pO (jL (g14++[(b24,x22.length,x22.length)]) a5.length).1 (jL (g14++[(b24,x22.length,x22.length)]) a5.length).2.1 (jL (g14++[(b24,x22.length,x22.length)]) a5.length).2.2)),.v (.vc (pI .i64 x107)),.v (.vc (pE (jL (g14++[(b24,x22.length,x22.length)]) a5.length).1 x107 cQ.n 0)),.v (.va (eQ v121)),.v (.va (eQ v123)),.v (.va (eQ v125)),.v (.vc (pE (jL (g14++[(b24,x22.length,x22.length)]) v85).1 x107 cQ.n 0))] bK ⟨d0 (bW (.inl rfl)) zU1,d0 (bW (.inl rfl)) zU1,d0 (bW (.inl rfl)) zU1,d0 (bW (.inl rfl)) zU1,d0 (l9 (4+v85) rfl tyS24 (kY 4 rfl q105 q104 ((sG q18 h58 q16) _ (bC h86))) (lW q105 q104 ((sG q18 h58 q16) _ (bC h86))) (aU h120).1 (aU h120).2.1) zU2,d0 (p5 (k:=4) (4+v85) rfl (kY 4 rfl q105 q104 ((sG q18 h58 q16) _ (bC h86))) h120 rfl (.agg tyA44) rfl) zU1,d0 (gF 0 4 rfl rfl rfl rfl (.agg tyA44)) zU1,d0 (bW (.inl rfl)) zU1,d0 (bW (.inl rfl)) zU1,d0 (l9 (4+a5.length) rfl tyS24 (kY 4 rfl q105 q104 (aFW q16)) (lW q105 q104 (aFW q16)) (aU h122).1 (aU h122).2.1) zU2,d0 (p5 (k:=4) (4+a5.length) rfl (kY 4 rfl q105 q104 (aFW q16)) h122 rfl (.agg tyA44) rfl) zU1,d0 (bS rfl h124 rfl) zU2,d0 (bS rfl h126 rfl) zU2,d0 (l9 (4+v85) rfl tyS24 (kY 4 rfl q105 q104 ((sG q18 h58 q16) _ (bC h86))) (lW q105 q104 ((sG q18 h58 q16) _ (bC h86))) (aU h120).1 (aU h120).2.1) zU2,trivial⟩ (fun bs118 G117=>?_)
    obtain⟨x129,h130,hF⟩:=a9 hF
    refine oS (xT (H':=([⟨some b89,1,44,4,1,(eQ v87)⟩,⟨some p0,1,151,3,1,([pI .i64 a2]++[pO b4 n6 c5]++[pO b9 n11 c10])⟩,hO (cH (g14++[(b24,x22.length,x22.length)])) b4 c5 24 n6 x57,hO cI b9 c10 3 n11 a4]++iD cQ 44 (g14++[(b24,x22.length,x22.length)]) (x103.set v85 x129))) (4+v85) rfl (aB2 4 rfl q105 q104 ((sG q18 h58 q16) _ (bC h86))) h120 h130 tyA44.s (hH:=stN 4 rfl q105 q104 ((sG q18 h58 q16) _ (bC h86)))) zU2 ?_
    obtain⟨v132,h133,hF⟩:=a9 hF
    refine go ?_ ?_
    exact aL (fun a w hh=>⟨(x103.set v85 x129),v132,hF,(t9 q104),(xG q105 q104 ((sG q18 h58 q16) _ (bC h86)) (bI h130 rfl)),cM 4 [0,1,2,3] rfl rfl (by decide) (by exact⟨rfl,rfl,rfl,rfl,rfl,rfl,rfl,rfl,rfl,rfl,rfl,rfl,rfl,rfl,trivial⟩) hh⟩)
   refine dJ ?_
   obtain rfl:=qN hF
   exact oN Jj113 ⟨x103,hRl112,q104,q105,rfl,rfl⟩ 4 [1,2,3] rfl rfl ⟨rfl,rfl,rfl,rfl,rfl,rfl,rfl,rfl,rfl,rfl,trivial⟩
  refine dJ ?_
  obtain rfl:=qN hF
  exact oN Jj76 ⟨x66,hRl75,q67,q68,rfl,rfl⟩ 3 [0,1,2] rfl rfl ⟨rfl,rfl,rfl,trivial⟩
 obtain⟨x47',hL,hRl53⟩:=a9 hF
 refine iT (fun k a w=>∃(x40:List Rat),∃(x46:Int),cV K a5 x22 v20 v30 k x40 x46=some x47'∧x40.length=x22.length∧hs _ ([⟨some b32,1,44,4,1,(eQ v30)⟩,hO cQ b24 x22.length 44 x22.length x40,⟨some p0,1,151,3,1,([pI .i64 a2]++[pO b4 n6 c5]++[pO b9 n11 c10])⟩,hO (cH g14) b4 c5 24 n6 a3,hO cI b9 c10 3 n11 a4]++iD cQ 44 g14 a5) [(0,.vc (pP (some p0) 0)),(1,.vc (pI .i64 a0)),(2,.vc (pI .i64 a1)),(7,.vc (pO b24 x22.length x22.length)),(8,.vc (pP (some b32) 0)),(38,.vc (pI .i64 ((cpL x22 (a5.getD v20 [])).length:Int))),(39,.vc (pI .i64 x46))] a w) K (fun a w ⟨_,_,hF,_,_⟩=>by cases hF) (fun k a w ⟨x40,x46,hF,q44,hh⟩=>iS ?_ hh) (fun a w hh=>⟨(cpL x22 (a5.getD v20 [])),0,hL,(aCz rfl),cM 5 [0,1,2,3,4] rfl rfl (by decide) (by exact⟨rfl,rfl,rfl,rfl,rfl,rfl,rfl,trivial⟩) hh⟩)
 rw [cV.eq_2] at hF
 refine go ?_ ?_
 refine aJ hF rfl (fun h134 hF=>?_) (fun h134 hF=>?_)
 ·refine go ?_ ?_
  refine aV ?_
  obtain⟨v137,h138,hF⟩:=a9 hF
  obtain⟨v139,h140,hF⟩:=bD hF aBI
  have hF:=tC h138 hF
  refine go ?_ ?_
  refine dr [0,0,0,0,12,28,0,124,255,511] 9 1 ?_ (fun bs136 G135=>?_)
  obtain⟨x143,h144,v146,h147,hF⟩:=vN hF
  refine go ?_ ?_
  exact aL (fun a w hh=>⟨x143,v146,hF,(bI h144 q44),cM 5 [0,1,2,3,4] rfl rfl (by decide) (by exact⟨rfl,rfl,rfl,rfl,rfl,rfl,rfl,trivial⟩) hh⟩)
 refine dJ ?_
 obtain rfl:=qN hF
 exact oN Jj54 ⟨x40,hRl53,q44,rfl,rfl⟩ 5 [1,2,3,4] rfl rfl ⟨rfl,rfl,rfl,rfl,trivial⟩
def qY (K:Nat):Option (aO×Int):=
 none
def m5 (K:Nat) (x86:Int) (v90:Int×(List Nat)×(List Int)×(List (List Rat))) (x116:Int) (recl87:(List Nat)→(List Int)→(List (List Rat))→Int→Int→Int→Option (LR (aO×Int) Unit)) (x122:Int):Option (LR (aO×Int) Unit):=
 bif(decide (x122<0)) then(some (.ret ((⟨([]:List Rat),([]:List Rat),0⟩:aO),15))) else((aP (x86+1)).bind fun v126=>recl87 v90.2.1 v90.2.2.1 v90.2.2.2 x122 x116 v126)
def dI (K:Nat) (v6:Int×(List Nat)×(List Int)×(List (List Rat))) (v90:Int×(List Nat)×(List Int)×(List (List Rat))) (x116:Int):Nat→Int→Int→Option Int
 |0,_,_=>none
 |k+1,x120,x121=>bif(decide (x121<(v90.2.1.length:Int))) then((bM v90.2.1 x121).bind fun v129=>(bM (v90.2.2.2.getD v129 []) x116).bind fun v133=>(wP v133).bind fun v135=>bif(decide (0<v135)) then(bif(decide (x120<0)) then((aP (x121+1)).bind fun v139=>dI K v6 v90 x116 k x121 v139) else((bM (v90.2.2.2.getD v129 []) x116).bind fun v141=>(bM v90.2.1 x120).bind fun v143=>(bM (v90.2.2.2.getD v143 []) x116).bind fun v145=>(dZ K x121 v141 x120 v145 v6.1 v90.2.1 v90.2.2.1 v90.2.2.2).bind fun v147=>bif v147 then((aP (x121+1)).bind fun v150=>dI K v6 v90 x116 k x121 v150) else((aP (x121+1)).bind fun v152=>dI K v6 v90 x116 k x120 v152))) else((aP (x121+1)).bind fun v154=>dI K v6 v90 x116 k x120 v154)) else(some x120)
def iE (K:Nat) (v6:Int×(List Nat)×(List Int)×(List (List Rat))) (x86:Int) (v90:Int×(List Nat)×(List Int)×(List (List Rat))) (recl87:(List Nat)→(List Int)→(List (List Rat))→Int→Int→Int→Option (LR (aO×Int) Unit)) (x116:Int):Option (LR (aO×Int) Unit):=
 (dI K v6 v90 x116 K (-1) 0).bind fun x122=>m5 K x86 v90 x116 recl87 x122
def dE (K:Nat) (a2:Int) (v6:Int×(List Nat)×(List Int)×(List (List Rat))):Nat→(List Nat)→(List Int)→(List (List Rat))→Int→Int→Int→Option (LR (aO×Int) Unit)
 |0,_,_,_,_,_,_=>none
 |k+1,x66,x72,x78,x84,x85,x86=>bif(x86==a2) then(some (.ret ((⟨([]:List Rat),([]:List Rat),0⟩:aO),16))) else((gL K x84 x85 v6.1 x66 x72 x78).bind fun v90=>(aP (2*v6.1)).bind fun v105=>bif(v90.1==v105) then((eM K v6.1 v90.2.1 v90.2.2.1 v90.2.2.2).bind fun v108=>(aP (x86+1)).bind fun v111=>some (.ret ((⟨v108.z,v108.w,v111⟩:aO),0))) else((aP (v90.1+v6.1)).bind fun v113=>bif(decide (v6.1≤v90.1)) then((aP (v90.1-v6.1)).bind fun v157=>iE K v6 x86 v90 (dE K a2 v6 k) v157) else(iE K v6 x86 v90 (dE K a2 v6 k) v113)))
def nS (K:Nat) (a2:Int) (v6:Int×(List Nat)×(List Int)×(List (List Rat))) (x40:Int):Option (aO×Int):=
 (aP (2*v6.1)).bind fun v43=>(dE K a2 v6 K v6.2.1 v6.2.2.1 v6.2.2.2 x40 v43 0).bind fun o=>match o with| .ret r=>some r| .go _=>qY K
def fP (K:Nat) (v6:Int×(List Nat)×(List Int)×(List (List Rat))) (v33:Rat):Nat→Int→Int→Option Int
 |0,_,_=>none
 |k+1,x38,x39=>bif(decide (x39<v6.1)) then((dZ K x39 v33 x38 v33 v6.1 v6.2.1 v6.2.2.1 v6.2.2.2).bind fun v160=>bif v160 then((aP (x39+1)).bind fun v163=>fP K v6 v33 k x39 v163) else((aP (x39+1)).bind fun v165=>fP K v6 v33 k x38 v165)) else(some x38)
def mI (K:Nat) (a0:List (List Rat)) (a1:List Rat) (a2:Int):Option (aO×Int):=
 (oJ K a0 a1).bind fun v2=>bif(!v2) then(some ((⟨([]:List Rat),([]:List Rat),0⟩:aO),1)) else(bif(decide (a2<0)) then(some ((⟨([]:List Rat),([]:List Rat),0⟩:aO),1)) else((mB K a0 a1).bind fun v6=>(mC K a1).bind fun v28=>bif(!v28) then((eM K v6.1 v6.2.1 v6.2.2.1 v6.2.2.2).bind fun v31=>some (v31,0)) else((qof 1 1).bind fun v33=>(fP K v6 v33 K 0 0).bind fun x40=>nS K a2 v6 x40)))
theorem aBs {K:Nat} {a0:List (List Rat)} {a1:List Rat} {a2:Int} {r:aO×Int} (hF:mI K a0 a1 a2=some r):Ct Tryz.prog 41 [.vc (pS (xC cQ) a0),.vc (pS cQ a1),.vc (pI .i64 a2)] (.t2 (.va (aO.enc r.1)) (.vc (pI .i64 r.2))):=by
 unfold mI at hF
 refine aI Tryz.func41 rfl (by kernel_rfl) Tryz.ntmps41 rfl (fun w0 M0=>?_)
 refine aM (aX (aN rfl tyZ68q (fun b1=>?_)))
 obtain⟨v2,h3,hF⟩:=bD hF aBi
 refine go ?_ ?_
 refine dQ hF (fun h4 hF=>?_) (fun h4 hF=>?_)
 ·refine go ?_ ?_
  refine mD rfl ?_
  refine aM (aX (aR (fC (is:=[]) (xs:=[]) (ps:=[]) rfl tyB68q rfl rfl trivial rfl) trivial ?_))
  exact cA
 refine go ?_ ?_
 refine aJ hF rfl (fun h5 hF=>?_) (fun h5 hF=>?_)
 ·refine aM (aX (aR (fC (is:=[]) (xs:=[]) (ps:=[]) rfl tyB68q rfl rfl trivial rfl) trivial ?_))
  exact cA
 obtain⟨v6,h7,hF⟩:=a9 hF
 refine go ?_ ?_
 refine aDA [] [0] rfl (zG h7) zU2 rfl rfl (by decide) ?_
 rintro _ _ ⟨b8,b12,c13,n14,b17,c18,n19,g22,N23,q15,q20,q24,q25,q26,rfl,rfl⟩
 refine sA (o9 [⟨some b8,1,151,3,1,([pI .i64 v6.1]++[pO b12 n14 c13]++[pO b17 n19 c18])⟩,hO (cH g22) b12 c13 24 n14 v6.2.1,hO cI b17 c18 3 n19 v6.2.2.1] (iD cQ 44 g22 v6.2.2.2) [⟨some b1,1,68,3,1,([pS cQ ([]:List Rat)]++[pS cQ ([]:List Rat)]++[pI .i64 0])⟩]) ?_
 obtain⟨v28,h29,hF⟩:=bD hF aAh
 refine go ?_ ?_
 refine aJ hF rfl (fun h30 hF=>?_) (fun h30 hF=>?_)
 ·obtain⟨v31,h32,hF⟩:=a9 hF
  refine go ?_ ?_
  refine aDz 4 [0,1,2] [3] rfl (pR h32 q15 q20 q24 q25 q26) zU1 rfl rfl rfl (by decide) ?_
  rintro _ _ ⟨rfl,rfl⟩
  refine sA (o9 [⟨some b8,1,151,3,1,([pI .i64 v6.1]++[pO b12 n14 c13]++[pO b17 n19 c18])⟩,hO (cH g22) b12 c13 24 n14 v6.2.1,hO cI b17 c18 3 n19 v6.2.2.1] (iD cQ 44 g22 v6.2.2.2) [⟨some b1,1,68,3,1,([pS cQ ([]:List Rat)]++[pS cQ ([]:List Rat)]++[pI .i64 0])⟩]) ?_
  exact cA
 obtain⟨v33,h34,hF⟩:=bD hF zB
 refine go ?_ ?_
 refine aN rfl tyZ44q (fun b35=>?_)
 refine go ?_ ?_
 refine aV (cJ (fun H E=>∃(x40:Int),nS K a2 v6 x40=some r∧H=([⟨some b8,1,151,3,1,([pI .i64 v6.1]++[pO b12 n14 c13]++[pO b17 n19 c18])⟩,hO (cH g22) b12 c13 24 n14 v6.2.1,hO cI b17 c18 3 n19 v6.2.2.1,⟨some b1,1,68,3,1,([pS cQ ([]:List Rat)]++[pS cQ ([]:List Rat)]++[pI .i64 0])⟩]++iD cQ 44 g22 v6.2.2.2)∧E=[(2,.vc (pI .i64 a2)),(6,.vc (pP (some b1) 0)),(8,.vc (pP (some b8) 0)),(10,.vc (pI .i64 x40))]) ?_ (fun Jj42=>?_))
 ·rintro _ _ ⟨x40,hF,rfl,rfl⟩
  unfold nS at hF
  obtain⟨v43,h44,hF⟩:=a9 hF
  refine go ?_ ?_
  refine aV (cJ (fun H E=>qY K=some r∧H=[]∧E=[]) ?_ (fun Jj88=>?_))
  ·rintro _ _ ⟨hF,rfl,rfl⟩
   unfold qY at hF
   cases hF
  obtain⟨ol87,hL,hRl87⟩:=a9 hF
  refine iT (fun k a w=>∃(x66:List Nat),∃(x72:List Int),∃(x78:List (List Rat)),∃(x84:Int),∃(x85:Int),∃(x86:Int),∃(b67:Option Nat),∃(c68:Nat),∃(n69:Nat),∃(g79:List wM),∃(N80:Nat),dE K a2 v6 k x66 x72 x78 x84 x85 x86=some ol87∧x66.length=n69∧x72.length=n19∧x78.length=N80∧lR g79 x78∧(∀k∈x66,k<N80)∧hs _ ([⟨some b8,1,151,3,1,([pI .i64 v6.1]++[pO b67 n69 c68]++[pO b17 n19 c18])⟩,hO (cH g79) b67 c68 24 n69 x66,hO cI b17 c18 3 n19 x72,⟨some b1,1,68,3,1,([pS cQ ([]:List Rat)]++[pS cQ ([]:List Rat)]++[pI .i64 0])⟩]++iD cQ 44 g79 x78) [(2,.vc (pI .i64 a2)),(6,.vc (pP (some b1) 0)),(8,.vc (pP (some b8) 0)),(10,.vc (pI .i64 x84)),(12,.vc (pI .i64 x85)),(13,.vc (pI .i64 x86))] a w) K (fun a w ⟨_,_,_,_,_,_,_,_,_,_,_,hF,_,_,_,_,_,_⟩=>by cases hF) (fun k a w ⟨x66,x72,x78,x84,x85,x86,b67,c68,n69,g79,N80,hF,q70,q76,q81,q82,q83,hh⟩=>iS ?_ hh) (fun a w hh=>⟨v6.2.1,v6.2.2.1,v6.2.2.2,x40,v43,0,b12,c13,n14,g22,N23,hL,q15,q20,q24,q25,q26,cM 4 [0,1,2,3] rfl rfl (by decide) (by exact⟨rfl,rfl,rfl,rfl,rfl,rfl,trivial⟩) hh⟩)
  rw [dE.eq_2] at hF
  refine aM (aV (go ?_ ?_))
  refine aJ hF rfl (fun h89 hF=>?_) (fun h89 hF=>?_)
  ·refine aM (aX (aR (fC (is:=[]) (xs:=[]) (ps:=[]) rfl tyB68q rfl rfl trivial rfl) trivial ?_))
   exact cA
  obtain⟨v90,h91,hF⟩:=a9 hF
  refine go ?_ ?_
  refine aDz 4 [0,1,2] [3] rfl (vO h91 q70 q76 q81 q82 q83) ⟨rfl,rfl,rfl,trivial⟩ rfl rfl rfl (by decide) ?_
  rintro _ _ ⟨b92,c93,n94,g99,N100,q95,q97,q101,q102,q103,rfl,rfl⟩
  refine sA (o9 [⟨some b8,1,151,3,1,([pI .i64 v6.1]++[pO b92 n94 c93]++[pO b17 n19 c18])⟩,hO (cH g99) b92 c93 24 n94 v90.2.1,hO cI b17 c18 3 n19 v90.2.2.1] (iD cQ 44 g99 v90.2.2.2) [⟨some b1,1,68,3,1,([pS cQ ([]:List Rat)]++[pS cQ ([]:List Rat)]++[pI .i64 0])⟩]) ?_
  have hF:=tC h44 hF
  refine go ?_ ?_
  refine aJ hF rfl (fun h107 hF=>?_) (fun h107 hF=>?_)
  ·obtain⟨v108,h109,hF⟩:=a9 hF
   refine go ?_ ?_
   refine aDz 4 [0,1,2] [3] rfl (pR h109 q95 q97 q101 q102 q103) zU1 rfl rfl rfl (by decide) ?_
   rintro _ _ ⟨rfl,rfl⟩
   refine sA (o9 [⟨some b8,1,151,3,1,([pI .i64 v6.1]++[pO b92 n94 c93]++[pO b17 n19 c18])⟩,hO (cH g99) b92 c93 24 n94 v90.2.1,hO cI b17 c18 3 n19 v90.2.2.1] (iD cQ 44 g99 v90.2.2.2) [⟨some b1,1,68,3,1,([pS cQ ([]:List Rat)]++[pS cQ ([]:List Rat)]++[pI .i64 0])⟩]) ?_
   refine aN rfl tyZ68q (fun b110=>?_)
   obtain⟨v111,h112,hF⟩:=a9 hF
   exact cA
  refine iO (aS (aM (aX (mF ?_))))
  refine mF ?_
  refine aR (xX rfl) zU1 ?_
  refine aR (oK (off:=0) (k:=0) rfl tyF151_0) zU1 ?_
  refine aR (gF 0 1 rfl rfl rfl rfl (.one tyO3)) zU1 ?_
  obtain⟨v113,h114,hF⟩:=a9 hF
  refine aR (w6 rfl h114) zU2 ?_
  refine wX ?_
  refine bQ (aS (aM (uM (fun H E=>∃(x116:Int),iE K v6 x86 v90 (dE K a2 v6 k) x116=some ol87∧H=([⟨some b8,1,151,3,1,([pI .i64 v6.1]++[pO b92 n94 c93]++[pO b17 n19 c18])⟩,hO (cH g99) b92 c93 24 n94 v90.2.1,hO cI b17 c18 3 n19 v90.2.2.1,⟨some b1,1,68,3,1,([pS cQ ([]:List Rat)]++[pS cQ ([]:List Rat)]++[pI .i64 0])⟩]++iD cQ 44 g99 v90.2.2.2)∧E=[(2,.vc (pI .i64 a2)),(6,.vc (pP (some b1) 0)),(8,.vc (pP (some b8) 0)),(12,.vc (pI .i64 x116)),(13,.vc (pI .i64 x86))]) ?_ (fun Jj117=>?_))))
  ·rintro _ _ ⟨x116,hF,rfl,rfl⟩
   unfold iE at hF
   refine go ?_ ?_
   refine aV (cJ (fun H E=>∃(x122:Int),m5 K x86 v90 x116 (dE K a2 v6 k) x122=some ol87∧H=([⟨some b8,1,151,3,1,([pI .i64 v6.1]++[pO b92 n94 c93]++[pO b17 n19 c18])⟩,hO (cH g99) b92 c93 24 n94 v90.2.1,hO cI b17 c18 3 n19 v90.2.2.1,⟨some b1,1,68,3,1,([pS cQ ([]:List Rat)]++[pS cQ ([]:List Rat)]++[pI .i64 0])⟩]++iD cQ 44 g99 v90.2.2.2)∧E=[(2,.vc (pI .i64 a2)),(6,.vc (pP (some b1) 0)),(8,.vc (pP (some b8) 0)),(10,.vc (pI .i64 x122)),(12,.vc (pI .i64 x116)),(13,.vc (pI .i64 x86))]) ?_ (fun Jj124=>?_))
   ·rintro _ _ ⟨x122,hF,rfl,rfl⟩
    unfold m5 at hF
    refine go ?_ ?_
    refine aJ hF rfl (fun h125 hF=>?_) (fun h125 hF=>?_)
    ·refine aM (aX (aR (fC (is:=[]) (xs:=[]) (ps:=[]) rfl tyB68q rfl rfl trivial rfl) trivial ?_))
     exact cA
    obtain⟨v126,h127,hF⟩:=a9 hF
    refine go ?_ ?_
    exact aL (fun a w hh=>⟨v90.2.1,v90.2.2.1,v90.2.2.2,x122,x116,v126,b92,c93,n94,g99,N100,hF,q95,q97,q101,q102,q103,cM 4 [0,1,2,3] rfl rfl (by decide) (by exact⟨rfl,rfl,rfl,rfl,rfl,rfl,trivial⟩) hh⟩)
   obtain⟨x122',hL,hRl123⟩:=a9 hF
   refine iT (fun k a w=>∃(x120:Int),∃(x121:Int),dI K v6 v90 x116 k x120 x121=some x122'∧hs _ ([⟨some b8,1,151,3,1,([pI .i64 v6.1]++[pO b92 n94 c93]++[pO b17 n19 c18])⟩,hO (cH g99) b92 c93 24 n94 v90.2.1,hO cI b17 c18 3 n19 v90.2.2.1,⟨some b1,1,68,3,1,([pS cQ ([]:List Rat)]++[pS cQ ([]:List Rat)]++[pI .i64 0])⟩]++iD cQ 44 g99 v90.2.2.2) [(2,.vc (pI .i64 a2)),(6,.vc (pP (some b1) 0)),(8,.vc (pP (some b8) 0)),(10,.vc (pI .i64 x120)),(12,.vc (pI .i64 x116)),(13,.vc (pI .i64 x86)),(100,.vc (pO b92 n94 c93)),(101,.vc (pI .i64 (v90.2.1.length:Int))),(102,.vc (pI .i64 x121))] a w) K (fun a w ⟨_,_,hF,_⟩=>by cases hF) (fun k a w ⟨x120,x121,hF,hh⟩=>iS ?_ hh) (fun a w hh=>⟨(-1),0,hL,cM 4 [0,1,2,3] rfl rfl (by decide) (by exact⟨rfl,rfl,rfl,rfl,rfl,rfl,rfl,rfl,rfl,trivial⟩) hh⟩)
   rw [dI.eq_2] at hF
   refine go ?_ ?_
   refine aJ hF rfl (fun h128 hF=>?_) (fun h128 hF=>?_)
   ·refine go ?_ ?_
    refine aV ?_
    obtain⟨v129,h130,v133,h134,hF⟩:=vN hF
    obtain⟨v135,h136,hF⟩:=bD hF jO
    refine go ?_ ?_
    rcases Bool.eq_false_or_eq_true (decide (0<v135)) with h137|h137
    ·have hF:=vZ h137 hF
     rcases Bool.eq_false_or_eq_true (decide (x120<0)) with h138|h138
     ·have hF:=vZ h138 hF
      refine kG (0::0::3::7::15::31::63::127::255::511::1023::1023::1023::1023::13311::29695::1023::1023::132095::394239::918527::1023::4064255::8258559::1023::33424383::66978815::134217727::268435455::536870911::[]) 27 3 (.v (.vc (pO (jL g99 v129).1 (jL g99 v129).2.1 (jL g99 v129).2.2))::.v (.vc (pI .i64 x116))::.v (.vc (pE (jL g99 v129).1 x116 cQ.n 0))::.v (.va (eQ v133))::.v (.vc (pI .i64 v135))::.v (.vc (pB (decide (0<v135))))::.v (.vc (pB true))::.v (.vc (pI .i64 x120))::.v (.vc (pB (decide (x120<0))))::.v (.vc (pB true))::.v .un::.v .un::.v .un::.v .un::.v .un::.v .un::.v .un::.v .un::.v .un::.v .un::.v .un::.v .un::.v .un::.v .un::.v .un::.v .un::.v .un::[]) bK ⟨d0 (bW (.inl rfl)) zU1,d0 (bW (.inl rfl)) zU1,d0 (l9 (4+v129) rfl tyS24 (kY 4 rfl q102 q101 (q103 _ (bC h130))) (lW q102 q101 (q103 _ (bC h130))) (aU h134).1 (aU h134).2.1) zU2,d0 (p5 (k:=4) (4+v129) rfl (kY 4 rfl q102 q101 (q103 _ (bC h130))) h134 rfl (.agg tyA44) rfl) zU1,d0 (bS rfl h136 rfl) zU1,d0 (aKG rfl) ⟨rfl,kL _ _,trivial⟩,d0 (kW (bW (.inl rfl)) h137) zU1,g0 (bW (.inl rfl)) zU1,g0 (aKU rfl) ⟨rfl,kL _ _,trivial⟩,g0 (kW (bW (.inl rfl)) h138) zU1,⟨rfl,.skipN⟩,⟨rfl,.skipN⟩,⟨rfl,.skipN⟩,⟨rfl,.skipN⟩,⟨rfl,.skipN⟩,⟨rfl,.skipN⟩,⟨rfl,.skipN⟩,⟨rfl,.skipN⟩,⟨rfl,.skipN⟩,⟨rfl,.skipN⟩,⟨rfl,.skipN⟩,⟨rfl,.skipN⟩,⟨rfl,.skipN⟩,⟨rfl,.skipN⟩,⟨rfl,.skipN⟩,⟨rfl,.skipN⟩,⟨rfl,.skipN⟩,trivial⟩ (fun bs132 G131=>?_)
      refine go ?_ ?_
      refine mD rfl ?_
      obtain⟨v139,h140,hF⟩:=a9 hF
      refine go ?_ ?_
      exact aL (fun a w hh=>⟨x121,v139,hF,cM 4 [0,1,2,3] rfl rfl (by decide) (by exact⟨rfl,rfl,rfl,rfl,rfl,rfl,rfl,rfl,rfl,trivial⟩) hh⟩)
     have hF:=vX h138 hF
     have hF:=tC h134 hF
     obtain⟨v143,h144,hF⟩:=a9 hF
     obtain⟨v145,h146,hF⟩:=a9 hF
     refine kG (0::0::3::7::15::31::63::127::255::511::1023::1023::1023::1023::13311::29695::1023::1023::132095::394239::918527::1023::4064255::8258559::1023::33424383::66978815::134217727::268435455::536870911::[]) 27 3 (.v (.vc (pO (jL g99 v129).1 (jL g99 v129).2.1 (jL g99 v129).2.2))::.v (.vc (pI .i64 x116))::.v (.vc (pE (jL g99 v129).1 x116 cQ.n 0))::.v (.va (eQ v133))::.v (.vc (pI .i64 v135))::.v (.vc (pB (decide (0<v135))))::.v (.vc (pB true))::.v (.vc (pI .i64 x120))::.v (.vc (pB (decide (x120<0))))::.v (.vc (pB false))::.v (.vc (pP (some b8) 0))::.v (.vc (pI .i64 x121))::.v (.vc (pO (jL g99 v129).1 (jL g99 v129).2.1 (jL g99 v129).2.2))::.v (.vc (pI .i64 x116))::.v (.vc (pE (jL g99 v129).1 x116 cQ.n 0))::.v (.va (eQ v133))::.v (.vc (pI .i64 x120))::.v (.vc (pP (some b8) 0))::.v (.vc (pP (some b8) 0))::.v (.vc (pP (some b8) 1))::.v (.vc (pO b92 n94 c93))::.v (.vc (pI .i64 x120))::.v (.vc (pE b92 x120 (cH g99).n 0))::.v (.vc (pO (jL g99 v143).1 (jL g99 v143).2.1 (jL g99 v143).2.2))::.v (.vc (pI .i64 x116))::.v (.vc (pE (jL g99 v143).1 x116 cQ.n 0))::.v (.va (eQ v145))::[]) bK ⟨d0 (bW (.inl rfl)) zU1,d0 (bW (.inl rfl)) zU1,d0 (l9 (4+v129) rfl tyS24 (kY 4 rfl q102 q101 (q103 _ (bC h130))) (lW q102 q101 (q103 _ (bC h130))) (aU h134).1 (aU h134).2.1) zU2,d0 (p5 (k:=4) (4+v129) rfl (kY 4 rfl q102 q101 (q103 _ (bC h130))) h134 rfl (.agg tyA44) rfl) zU1,d0 (bS rfl h136 rfl) zU1,d0 (aKG rfl) ⟨rfl,kL _ _,trivial⟩,d0 (kW (bW (.inl rfl)) h137) zU1,g0 (bW (.inl rfl)) zU1,g0 (aKU rfl) ⟨rfl,kL _ _,trivial⟩,g0 (kW (bW (.inl rfl)) h138) zU1,g0 (bW (.inl rfl)) zU1,g0 (bW (.inl rfl)) zU1,g0 (bW (.inl rfl)) zU1,g0 (bW (.inl rfl)) zU1,g0 (l9 (4+v129) rfl tyS24 (kY 4 rfl q102 q101 (q103 _ (bC h130))) (lW q102 q101 (q103 _ (bC h130))) (aU h134).1 (aU h134).2.1) zU2,g0 (p5 (k:=4) (4+v129) rfl (kY 4 rfl q102 q101 (q103 _ (bC h130))) h134 rfl (.agg tyA44) rfl) zU1,g0 (bW (.inl rfl)) zU1,g0 (bW (.inl rfl)) zU1,g0 (xX rfl) zU1,g0 (oK (off:=0) (k:=1) rfl tyF151_1) zU1,g0 (gF 0 1 rfl rfl rfl rfl (.one tyO62)) zU1,g0 (bW (.inl rfl)) zU1,g0 (l9 (C:=(cH g99)) 1 rfl tyS62 rfl q95 (aU h144).1 (aU h144).2.1) zU2,g0 (p5 (C:=(cH g99)) (k:=1) 1 rfl rfl h144 rfl (.one tyO24) rfl) zU1,g0 (bW (.inl rfl)) zU1,g0 (l9 (4+v143) rfl tyS24 (kY 4 rfl q102 q101 (q103 _ (bC h144))) (lW q102 q101 (q103 _ (bC h144))) (aU h146).1 (aU h146).2.1) zU2,g0 (p5 (k:=4) (4+v143) rfl (kY 4 rfl q102 q101 (q103 _ (bC h144))) h146 rfl (.agg tyA44) rfl) zU1,trivial⟩ (fun bs132 G131=>?_)
     obtain⟨v147,h148,hF⟩:=a9 hF
     refine aHS (aKZ 4 [0,1,2] [3] [0,1,2,3] rfl (qI h148 q95 q97 q101 q102 q103) rfl rfl rfl rfl (by decide) (by decide) rfl) ⟨rfl,rfl,rfl,rfl,rfl,trivial⟩ ?_
     refine go ?_ ?_
     refine aJ hF rfl (fun h149 hF=>?_) (fun h149 hF=>?_)
     ·obtain⟨v150,h151,hF⟩:=a9 hF
      refine go ?_ ?_
      exact aL (fun a w hh=>⟨x121,v150,hF,cM 4 [0,1,2,3] rfl rfl (by decide) (by exact⟨rfl,rfl,rfl,rfl,rfl,rfl,rfl,rfl,rfl,trivial⟩) hh⟩)
     obtain⟨v152,h153,hF⟩:=a9 hF
     refine go ?_ ?_
     exact aL (fun a w hh=>⟨x120,v152,hF,cM 4 [0,1,2,3] rfl rfl (by decide) (by exact⟨rfl,rfl,rfl,rfl,rfl,rfl,rfl,rfl,rfl,trivial⟩) hh⟩)
    have hF:=vX h137 hF
    refine kG (0::0::3::7::15::31::63::127::255::511::1023::1023::1023::1023::13311::29695::1023::1023::132095::394239::918527::1023::4064255::8258559::1023::33424383::66978815::134217727::268435455::536870911::[]) 27 3 (.v (.vc (pO (jL g99 v129).1 (jL g99 v129).2.1 (jL g99 v129).2.2))::.v (.vc (pI .i64 x116))::.v (.vc (pE (jL g99 v129).1 x116 cQ.n 0))::.v (.va (eQ v133))::.v (.vc (pI .i64 v135))::.v (.vc (pB (decide (0<v135))))::.v (.vc (pB false))::.v .un::.v .un::.v .un::.v .un::.v .un::.v .un::.v .un::.v .un::.v .un::.v .un::.v .un::.v .un::.v .un::.v .un::.v .un::.v .un::.v .un::.v .un::.v .un::.v .un::[]) bK ⟨d0 (bW (.inl rfl)) zU1,d0 (bW (.inl rfl)) zU1,d0 (l9 (4+v129) rfl tyS24 (kY 4 rfl q102 q101 (q103 _ (bC h130))) (lW q102 q101 (q103 _ (bC h130))) (aU h134).1 (aU h134).2.1) zU2,d0 (p5 (k:=4) (4+v129) rfl (kY 4 rfl q102 q101 (q103 _ (bC h130))) h134 rfl (.agg tyA44) rfl) zU1,d0 (bS rfl h136 rfl) zU1,d0 (aKG rfl) ⟨rfl,kL _ _,trivial⟩,d0 (kW (bW (.inl rfl)) h137) zU1,⟨rfl,.skipN⟩,⟨rfl,.skipN⟩,⟨rfl,.skipN⟩,⟨rfl,.skipU⟩,⟨rfl,.skipU⟩,⟨rfl,.skipU⟩,⟨rfl,.skipU⟩,⟨rfl,.skipU⟩,⟨rfl,.skipU⟩,⟨rfl,.skipU⟩,⟨rfl,.skipU⟩,⟨rfl,.skipU⟩,⟨rfl,.skipU⟩,⟨rfl,.skipU⟩,⟨rfl,.skipU⟩,⟨rfl,.skipU⟩,⟨rfl,.skipU⟩,⟨rfl,.skipU⟩,⟨rfl,.skipU⟩,⟨rfl,.skipU⟩,trivial⟩ (fun bs132 G131=>?_)
    refine go ?_ ?_
    refine uP rfl ?_
    obtain⟨v154,h155,hF⟩:=a9 hF
    refine go ?_ ?_
    exact aL (fun a w hh=>⟨x120,v154,hF,cM 4 [0,1,2,3] rfl rfl (by decide) (by exact⟨rfl,rfl,rfl,rfl,rfl,rfl,rfl,rfl,rfl,trivial⟩) hh⟩)
   refine dJ ?_
   obtain rfl:=qN hF
   exact oN Jj124 ⟨x120,hRl123,rfl,rfl⟩ 4 [0,1,2,3] rfl rfl ⟨rfl,rfl,rfl,rfl,rfl,rfl,trivial⟩
  refine go ?_ ?_
  refine aJ hF rfl (fun h156 hF=>?_) (fun h156 hF=>?_)
  ·refine aX (mF ?_)
   refine mF ?_
   refine aR (xX rfl) zU1 ?_
   refine aR (oK (off:=0) (k:=0) rfl tyF151_0) zU1 ?_
   refine aR (gF 0 1 rfl rfl rfl rfl (.one tyO3)) zU1 ?_
   obtain⟨v157,h158,hF⟩:=a9 hF
   refine aR (aCk rfl h158) zU2 ?_
   refine wX ?_
   refine bQ ?_
   exact oN Jj117 ⟨v157,hF,rfl,rfl⟩ 4 [0,1,2,3] rfl rfl ⟨rfl,rfl,rfl,rfl,rfl,trivial⟩
  refine iO ?_
  exact oN Jj117 ⟨v113,hF,rfl,rfl⟩ 4 [0,1,2,3] rfl rfl ⟨rfl,rfl,rfl,rfl,rfl,trivial⟩
 obtain⟨x40',hL,hRl41⟩:=a9 hF
 refine iT (fun k a w=>∃(x38:Int),∃(x39:Int),fP K v6 v33 k x38 x39=some x40'∧hs _ ([⟨some b35,1,44,4,1,(eQ v33)⟩,⟨some b8,1,151,3,1,([pI .i64 v6.1]++[pO b12 n14 c13]++[pO b17 n19 c18])⟩,hO (cH g22) b12 c13 24 n14 v6.2.1,hO cI b17 c18 3 n19 v6.2.2.1,⟨some b1,1,68,3,1,([pS cQ ([]:List Rat)]++[pS cQ ([]:List Rat)]++[pI .i64 0])⟩]++iD cQ 44 g22 v6.2.2.2) [(2,.vc (pI .i64 a2)),(6,.vc (pP (some b1) 0)),(8,.vc (pP (some b8) 0)),(9,.vc (pP (some b35) 0)),(10,.vc (pI .i64 x38)),(39,.vc (pI .i64 v6.1)),(40,.vc (pI .i64 x39))] a w) K (fun a w ⟨_,_,hF,_⟩=>by cases hF) (fun k a w ⟨x38,x39,hF,hh⟩=>iS ?_ hh) (fun a w hh=>⟨0,0,hL,cM 5 [0,1,2,3,4] rfl rfl (by decide) (by exact⟨rfl,rfl,rfl,rfl,rfl,rfl,rfl,trivial⟩) hh⟩)
 rw [fP.eq_2] at hF
 refine go ?_ ?_
 refine aJ hF rfl (fun h159 hF=>?_) (fun h159 hF=>?_)
 ·refine go ?_ ?_
  refine aV ?_
  obtain⟨v160,h161,hF⟩:=a9 hF
  refine go ?_ ?_
  refine aDz 5 [1,2,3] [0,4] rfl (qI h161 q15 q20 q24 q25 q26) ⟨rfl,rfl,rfl,rfl,rfl,trivial⟩ rfl rfl rfl (by decide) ?_
  rintro _ _ ⟨rfl,rfl⟩
  refine sA (o9 [⟨some b8,1,151,3,1,([pI .i64 v6.1]++[pO b12 n14 c13]++[pO b17 n19 c18])⟩,hO (cH g22) b12 c13 24 n14 v6.2.1,hO cI b17 c18 3 n19 v6.2.2.1] (iD cQ 44 g22 v6.2.2.2) [⟨some b35,1,44,4,1,(eQ v33)⟩,⟨some b1,1,68,3,1,([pS cQ ([]:List Rat)]++[pS cQ ([]:List Rat)]++[pI .i64 0])⟩]) ?_
  refine bQ (aS (aJ hF rfl (fun h162 hF=>?_) (fun h162 hF=>?_)))
  ·obtain⟨v163,h164,hF⟩:=a9 hF
   refine go ?_ ?_
   exact aL (fun a w hh=>⟨x39,v163,hF,cM 5 [3,0,1,2,4] rfl rfl (by decide) (by exact⟨rfl,rfl,rfl,rfl,rfl,rfl,rfl,trivial⟩) hh⟩)
  obtain⟨v165,h166,hF⟩:=a9 hF
  refine go ?_ ?_
  exact aL (fun a w hh=>⟨x38,v165,hF,cM 5 [3,0,1,2,4] rfl rfl (by decide) (by exact⟨rfl,rfl,rfl,rfl,rfl,rfl,rfl,trivial⟩) hh⟩)
 refine dJ ?_
 obtain rfl:=qN hF
 exact oN Jj42 ⟨x38,hRl41,rfl,rfl⟩ 5 [1,2,3,4] rfl rfl ⟨rfl,rfl,rfl,rfl,trivial⟩
def lU (K:Nat):Option Int:=
 some (-1)
def fH (K:Nat) (a0:List Rat) (a1:(Rat→Option Bool)):Nat→Int→Option (LR Int Unit)
 |0,_=>none
 |k+1,x2=>bif(decide (x2<(a0.length:Int))) then((bM a0 x2).bind fun v6=>(a1 v6).bind fun v8=>bif v8 then(some (.ret x2)) else((aP (x2+1)).bind fun v11=>fH K a0 a1 k v11)) else(some (.go ()))
def nY (K:Nat) (a0:List Rat) (a1:(Rat→Option Bool)):Option Int:=
 (fH K a0 a1 K 0).bind fun o=>match o with| .ret r=>some r| .go _=>lU K
theorem zI {K:Nat} {a0:List Rat} {a1:(Rat→Option Bool)} {r:Int} (hF:nY K a0 a1=some r):Ct Tryz.prog 222 [.vc (pS cQ a0),.vc (pFn Tryz.prog (fun x:Rat=>[.va (eQ x)]) (fun r:Bool=>.vc (pB r)) a1)] (.vc (pI .i64 r)):=by
 unfold nY at hF
 refine aI Tryz.func222 rfl (by kernel_rfl) Tryz.ntmps222 rfl (fun w0 M0=>?_)
 refine go ?_ ?_
 refine aV (cJ (fun H E=>lU K=some r∧H=[]∧E=[]) ?_ (fun Jj4=>?_))
 ·rintro _ _ ⟨hF,rfl,rfl⟩
  unfold lU at hF
  exact cA
 obtain⟨ol3,hL,hRl3⟩:=a9 hF
 refine iT (fun k a w=>∃(x2:Int),fH K a0 a1 k x2=some ol3∧hs _ [] [(0,.vc (pS cQ a0)),(1,.vc (pFn Tryz.prog (fun x:Rat=>[.va (eQ x)]) (fun r:Bool=>.vc (pB r)) a1)),(7,.vc (pI .i64 (a0.length:Int))),(8,.vc (pI .i64 x2))] a w) K (fun a w ⟨_,hF,_⟩=>by cases hF) (fun k a w ⟨x2,hF,hh⟩=>iS ?_ hh) (fun a w hh=>⟨0,hL,iH [] hh⟩)
 rw [fH.eq_2] at hF
 refine go ?_ ?_
 refine aJ hF rfl (fun h5 hF=>?_) (fun h5 hF=>?_)
 ·refine go ?_ ?_
  refine aV ?_
  obtain⟨v6,h7,v8,h9,hF⟩:=vN hF
  refine go ?_ ?_
  refine aR (aCg (pre:=fun x:Rat=>[.va (eQ x)]) (post:=fun r:Bool=>.vc (pB r)) (x:=v6) (r:=v8) rfl h9 rfl) zU2 ?_
  refine bQ (aS (aJ hF rfl (fun h10 hF=>?_) (fun h10 hF=>?_)))
  ·exact cA
  obtain⟨v11,h12,hF⟩:=a9 hF
  refine go ?_ ?_
  exact aL (fun a w hh=>⟨v11,hF,iH [] hh⟩)
 refine dJ ?_
 obtain rfl:=qN hF
 exact qB Jj4 ⟨hRl3,rfl,rfl⟩ []
def lX (K:Nat) (a0:List Rat) (a1:(Rat→Option Bool)):Option Bool:=
 (nY K a0 a1).bind fun v1=>some (decide (0≤v1))
theorem xJ {K:Nat} {a0:List Rat} {a1:(Rat→Option Bool)} {r:Bool} (hF:lX K a0 a1=some r):Ct Tryz.prog 161 [.vc (pS cQ a0),.vc (pFn Tryz.prog (fun x:Rat=>[.va (eQ x)]) (fun r:Bool=>.vc (pB r)) a1)] (.vc (pB r)):=by
 unfold lX at hF
 refine aI Tryz.func161 rfl (by kernel_rfl) Tryz.ntmps161 rfl (fun w0 M0=>?_)
 obtain⟨v1,h2,hF⟩:=bD hF zI
 exact cA
def qL (a0:Rat):Option Bool:=
 (aBw a0).bind fun v2=>some (!v2)
theorem aDj {a0:Rat} {r:Bool} (hF:qL a0=some r):Ct Tryz.prog 162 [.va (eQ a0)] (.vc (pB r)):=by
 unfold qL at hF
 refine aI Tryz.func162 rfl (by kernel_rfl) Tryz.ntmps162 rfl (fun w0 M0=>?_)
 refine aM (aX (cT rfl rfl trivial (fun b1=>?_)))
 obtain⟨v2,h3,hF⟩:=bD hF pD
 exact cA
def rH (K:Nat) (a0:List Rat):Option Bool:=
 (lX K a0 (qL)).bind fun v1=>some (!v1)
theorem yN {K:Nat} {a0:List Rat} {r:Bool} (hF:rH K a0=some r):Ct Tryz.prog 75 [.vc (pS cQ a0)] (.vc (pB r)):=by
 unfold rH at hF
 refine aI Tryz.func75 rfl (by kernel_rfl) Tryz.ntmps75 rfl (fun w0 M0=>?_)
 obtain⟨v1,h2,hF⟩:=bD hF xJ
 refine go ?_ ?_
 refine aR (bS rfl h2 rfl) ⟨rfl,(aNY (P:=Tryz.prog) (φ:=(qL)) (pre:=fun x:Rat=>[.va (eQ x)]) (post:=fun r:Bool=>.vc (pB r)) (fun x r h=>aDj h)),trivial⟩ ?_
 exact cA
def lV (K:Nat):Option Int:=
 some (-1)
def d9 (K:Nat) (a0:List aA) (a1:(aA→Option Bool)):Nat→Int→Option (LR Int Unit)
 |0,_=>none
 |k+1,x2=>bif(decide (x2<(a0.length:Int))) then((bM a0 x2).bind fun v6=>(a1 v6).bind fun v8=>bif v8 then(some (.ret x2)) else((aP (x2+1)).bind fun v11=>d9 K a0 a1 k v11)) else(some (.go ()))
def k6 (K:Nat) (a0:List aA) (a1:(aA→Option Bool)):Option Int:=
 (d9 K a0 a1 K 0).bind fun o=>match o with| .ret r=>some r| .go _=>lV K
theorem zK {K:Nat} {a0:List aA} {a1:(aA→Option Bool)} {r:Int} (hF:k6 K a0 a1=some r):Ct Tryz.prog 178 [.vc (pS aA.cod a0),.vc (pFn Tryz.prog (fun x:aA=>[.va (aA.enc x)]) (fun r:Bool=>.vc (pB r)) a1)] (.vc (pI .i64 r)):=by
 unfold k6 at hF
 refine aI Tryz.func178 rfl (by kernel_rfl) Tryz.ntmps178 rfl (fun w0 M0=>?_)
 refine go ?_ ?_
 refine aV (cJ (fun H E=>lV K=some r∧H=[]∧E=[]) ?_ (fun Jj4=>?_))
 ·rintro _ _ ⟨hF,rfl,rfl⟩
  unfold lV at hF
  exact cA
 obtain⟨ol3,hL,hRl3⟩:=a9 hF
 refine iT (fun k a w=>∃(x2:Int),d9 K a0 a1 k x2=some ol3∧hs _ [] [(0,.vc (pS aA.cod a0)),(1,.vc (pFn Tryz.prog (fun x:aA=>[.va (aA.enc x)]) (fun r:Bool=>.vc (pB r)) a1)),(7,.vc (pI .i64 (a0.length:Int))),(8,.vc (pI .i64 x2))] a w) K (fun a w ⟨_,hF,_⟩=>by cases hF) (fun k a w ⟨x2,hF,hh⟩=>iS ?_ hh) (fun a w hh=>⟨0,hL,iH [] hh⟩)
 rw [d9.eq_2] at hF
 refine go ?_ ?_
 refine aJ hF rfl (fun h5 hF=>?_) (fun h5 hF=>?_)
 ·refine go ?_ ?_
  refine aV ?_
  obtain⟨v6,h7,v8,h9,hF⟩:=vN hF
  refine go ?_ ?_
  refine aR (aCg (pre:=fun x:aA=>[.va (aA.enc x)]) (post:=fun r:Bool=>.vc (pB r)) (x:=v6) (r:=v8) rfl h9 rfl) zU2 ?_
  refine bQ (aS (aJ hF rfl (fun h10 hF=>?_) (fun h10 hF=>?_)))
  ·exact cA
  obtain⟨v11,h12,hF⟩:=a9 hF
  refine go ?_ ?_
  exact aL (fun a w hh=>⟨v11,hF,iH [] hh⟩)
 refine dJ ?_
 obtain rfl:=qN hF
 exact qB Jj4 ⟨hRl3,rfl,rfl⟩ []
def fG (K:Nat) (a0:List aA) (a1:(aA→Option Bool)):Option Bool:=
 (k6 K a0 a1).bind fun v1=>some (decide (0≤v1))
theorem sR {K:Nat} {a0:List aA} {a1:(aA→Option Bool)} {r:Bool} (hF:fG K a0 a1=some r):Ct Tryz.prog 90 [.vc (pS aA.cod a0),.vc (pFn Tryz.prog (fun x:aA=>[.va (aA.enc x)]) (fun r:Bool=>.vc (pB r)) a1)] (.vc (pB r)):=by
 unfold fG at hF
 refine aI Tryz.func90 rfl (by kernel_rfl) Tryz.ntmps90 rfl (fun w0 M0=>?_)
 obtain⟨v1,h2,hF⟩:=bD hF zK
 exact cA
def uZ (K:Nat) (x7:Rat):Option Rat:=
 some x7
def lE (K:Nat) (a0:List aE) (a1:List Rat):Nat→Rat→Int→Option Rat
 |0,_,_=>none
 |k+1,x5,x6=>bif(decide (x6<(a0.length:Int))) then((bM a0 x6).bind fun v11=>bif(decide (0≤v11.dof)) then(bif(decide (v11.dof<(a1.length:Int))) then((bM a1 v11.dof).bind fun v18=>(z5 v11.k v18).bind fun v20=>(aCA x5 v20).bind fun v22=>(aP (x6+1)).bind fun v24=>lE K a0 a1 k v22 v24) else((aP (x6+1)).bind fun v26=>lE K a0 a1 k x5 v26)) else((aP (x6+1)).bind fun v28=>lE K a0 a1 k x5 v28)) else(some x5)
def gK (K:Nat) (a0:List aE) (a1:List Rat):Option Rat:=
 (lE K a0 a1 K 0 0).bind fun x7=>uZ K x7
theorem kD {K:Nat} {a0:List aE} {a1:List Rat} {r:Rat} (hF:gK K a0 a1=some r):Ct Tryz.prog 33 [.vc (pS aE.cod a0),.vc (pS cQ a1)] (.va (eQ r)):=by
 unfold gK at hF
 refine aI Tryz.func33 rfl (by kernel_rfl) Tryz.ntmps33 rfl (fun w0 M0=>?_)
 refine aM (aX (aN rfl tyZ44q (fun b1=>?_)))
 refine go ?_ ?_
 refine aN rfl tyZ44q (fun b2=>?_)
 refine go ?_ ?_
 refine aV (cJ (fun H E=>∃(x7:Rat),uZ K x7=some r∧H=[⟨some b2,1,44,4,1,(eQ x7)⟩,⟨some b1,1,44,4,1,(eQ 0)⟩]∧E=[(4,.vc (pP (some b1) 0)),(5,.vc (pP (some b2) 0))]) ?_ (fun Jj9=>?_))
 ·rintro _ _ ⟨x7,hF,rfl,rfl⟩
  unfold uZ at hF
  exact cA
 obtain⟨x7',hL,hRl8⟩:=a9 hF
 refine iT (fun k a w=>∃(x5:Rat),∃(x6:Int),lE K a0 a1 k x5 x6=some x7'∧hs _ [⟨some b2,1,44,4,1,(eQ x5)⟩,⟨some b1,1,44,4,1,(eQ 0)⟩] [(1,.vc (pS cQ a1)),(4,.vc (pP (some b1) 0)),(5,.vc (pP (some b2) 0)),(8,.vc (pS aE.cod a0)),(9,.vc (pI .i64 (a0.length:Int))),(10,.vc (pI .i64 x6))] a w) K (fun a w ⟨_,_,hF,_⟩=>by cases hF) (fun k a w ⟨x5,x6,hF,hh⟩=>iS ?_ hh) (fun a w hh=>⟨0,0,hL,iH [0,1] hh⟩)
 rw [lE.eq_2] at hF
 refine go ?_ ?_
 refine aJ hF rfl (fun h10 hF=>?_) (fun h10 hF=>?_)
 ·refine go ?_ ?_
  refine aV ?_
  obtain⟨v11,h12,hF⟩:=a9 hF
  refine go ?_ ?_
  refine aN rfl tyZ92q (fun b13=>?_)
  refine go ?_ ?_
  refine dQ hF (fun h14 hF=>?_) (fun h14 hF=>?_)
  ·refine go ?_ ?_
   refine aJ hF rfl (fun h15 hF=>?_) (fun h15 hF=>?_)
   ·obtain⟨v18,h19,hF⟩:=a9 hF
    obtain⟨v20,h21,hF⟩:=bD hF rF
    obtain⟨v22,h23,hF⟩:=bD hF wF
    refine dr [0,0,2,0,0,16,56,120,254,511,1023] 10 1 ?_ (fun bs17 G16=>?_)
    obtain⟨v24,h25,hF⟩:=a9 hF
    refine go ?_ ?_
    exact aL (fun a w hh=>⟨v22,v24,hF,iH [1,2] hh⟩)
   obtain⟨v26,h27,hF⟩:=a9 hF
   refine go ?_ ?_
   exact aL (fun a w hh=>⟨x5,v26,hF,iH [1,2] hh⟩)
  refine go ?_ ?_
  refine uP rfl ?_
  obtain⟨v28,h29,hF⟩:=a9 hF
  refine go ?_ ?_
  exact aL (fun a w hh=>⟨x5,v28,hF,iH [1,2] hh⟩)
 refine dJ ?_
 obtain rfl:=qN hF
 exact qB Jj9 ⟨x5,hRl8,rfl,rfl⟩ [0,1]
def tA (K:Nat):Option Bool:=
 some true
def kS (K:Nat) (a0:List aE) (a1:Int):Nat→Int→Option (LR Bool Unit)
 |0,_=>none
 |k+1,x2=>bif(decide (x2<(a0.length:Int))) then((bM a0 x2).bind fun v6=>bif(decide (v6.dof<0)) then(some (.ret false)) else(bif(decide (a1≤v6.dof)) then(some (.ret false)) else(bif(decide (0<x2)) then((aP (x2-1)).bind fun v14=>(bM a0 v14).bind fun v16=>bif(decide (v6.dof≤v16.dof)) then(some (.ret false)) else((aBw v6.k).bind fun v19=>bif(!v19) then(some (.ret false)) else((aP (x2+1)).bind fun v22=>kS K a0 a1 k v22))) else((aBw v6.k).bind fun v24=>bif(!v24) then(some (.ret false)) else((aP (x2+1)).bind fun v27=>kS K a0 a1 k v27))))) else(some (.go ()))
def rN (K:Nat) (a0:List aE) (a1:Int):Option Bool:=
 (kS K a0 a1 K 0).bind fun o=>match o with| .ret r=>some r| .go _=>tA K
theorem aA0 {K:Nat} {a0:List aE} {a1:Int} {r:Bool} (hF:rN K a0 a1=some r):Ct Tryz.prog 154 [.vc (pS aE.cod a0),.vc (pI .i64 a1)] (.vc (pB r)):=by
 unfold rN at hF
 refine aI Tryz.func154 rfl (by kernel_rfl) Tryz.ntmps154 rfl (fun w0 M0=>?_)
 refine go ?_ ?_
 refine aV (cJ (fun H E=>tA K=some r∧H=[]∧E=[]) ?_ (fun Jj4=>?_))
 ·rintro _ _ ⟨hF,rfl,rfl⟩
  unfold tA at hF
  exact cA
 obtain⟨ol3,hL,hRl3⟩:=a9 hF
 refine iT (fun k a w=>∃(x2:Int),kS K a0 a1 k x2=some ol3∧hs _ [] [(0,.vc (pS aE.cod a0)),(1,.vc (pI .i64 a1)),(7,.vc (pS aE.cod a0)),(8,.vc (pI .i64 (a0.length:Int))),(9,.vc (pI .i64 x2))] a w) K (fun a w ⟨_,hF,_⟩=>by cases hF) (fun k a w ⟨x2,hF,hh⟩=>iS ?_ hh) (fun a w hh=>⟨0,hL,iH [] hh⟩)
 rw [kS.eq_2] at hF
 refine go ?_ ?_
 refine aJ hF rfl (fun h5 hF=>?_) (fun h5 hF=>?_)
 ·refine go ?_ ?_
  refine aV ?_
  obtain⟨v6,h7,hF⟩:=a9 hF
  refine go ?_ ?_
  refine aN rfl tyZ92q (fun b8=>?_)
  refine go ?_ ?_
  rcases Bool.eq_false_or_eq_true (decide (v6.dof<0)) with h11|h11
  ·have hF:=vZ h11 hF
   refine drb (0::1::3::7::15::31::15::127::255::511::1023::2047::4095::8191::16383::8191::8191::73727::237567::499711::1023999::2097151::4194303::8388607::16777215::33554431::67108863::134217727::268435455::536870911::[]) 30 0 ?_ (fun bs10 G9=>?_)
   refine bQ (aS (mD rfl ?_))
   exact cA
  have hF:=vX h11 hF
  rcases Bool.eq_false_or_eq_true (decide (a1≤v6.dof)) with h12|h12
  ·have hF:=vZ h12 hF
   refine drb (0::1::3::7::15::31::15::127::255::511::1023::2047::4095::8191::16383::8191::8191::73727::237567::499711::1023999::2097151::4194303::8388607::16777215::33554431::67108863::134217727::268435455::536870911::[]) 30 0 ?_ (fun bs10 G9=>?_)
   refine bQ (aS (mD rfl ?_))
   exact cA
  have hF:=vX h12 hF
  rcases Bool.eq_false_or_eq_true (decide (0<x2)) with h13|h13
  ·have hF:=vZ h13 hF
   obtain⟨v14,h15,hF⟩:=a9 hF
   obtain⟨v16,h17,hF⟩:=a9 hF
   rcases Bool.eq_false_or_eq_true (decide (v6.dof≤v16.dof)) with h18|h18
   ·have hF:=vZ h18 hF
    refine drb (0::1::3::7::15::31::15::127::255::511::1023::2047::4095::8191::16383::8191::8191::73727::237567::499711::1023999::2097151::4194303::8388607::16777215::33554431::67108863::134217727::268435455::536870911::[]) 30 0 ?_ (fun bs10 G9=>?_)
    refine bQ (aS (mD rfl ?_))
    exact cA
   have hF:=vX h18 hF
   obtain⟨v19,h20,hF⟩:=bD hF pD
   refine drb (0::1::3::7::15::31::15::127::255::511::1023::2047::4095::8191::16383::8191::8191::73727::237567::499711::1023999::2097151::4194303::8388607::16777215::33554431::67108863::134217727::268435455::536870911::[]) 30 0 ?_ (fun bs10 G9=>?_)
   refine bQ (aS (aJ hF rfl (fun h21 hF=>?_) (fun h21 hF=>?_)))
   ·exact cA
   obtain⟨v22,h23,hF⟩:=a9 hF
   refine go ?_ ?_
   exact aL (fun a w hh=>⟨v22,hF,iH [] hh⟩)
  have hF:=vX h13 hF
  obtain⟨v24,h25,hF⟩:=bD hF pD
  refine drb (0::1::3::7::15::31::15::127::255::511::1023::2047::4095::8191::16383::8191::8191::73727::237567::499711::1023999::2097151::4194303::8388607::16777215::33554431::67108863::134217727::268435455::536870911::[]) 30 0 ?_ (fun bs10 G9=>?_)
  refine bQ (aS (aJ hF rfl (fun h26 hF=>?_) (fun h26 hF=>?_)))
  ·exact cA
  obtain⟨v27,h28,hF⟩:=a9 hF
  refine go ?_ ?_
  exact aL (fun a w hh=>⟨v27,hF,iH [] hh⟩)
 refine dJ ?_
 obtain rfl:=qN hF
 exact qB Jj4 ⟨hRl3,rfl,rfl⟩ []
def kR (K:Nat) (c0:Int) (c1:aD) (a0:aA):Option Bool:=
 (rN K a0.j c0).bind fun v2=>bif(!v2) then(some true) else((rN K a0.t c0).bind fun v5=>bif(!v5) then(some true) else((aBw a0.mu).bind fun v8=>bif(!v8) then(some true) else((wP a0.mu).bind fun v11=>bif(decide (v11<0)) then(some true) else((gK K a0.j c1.v).bind fun v14=>(wP v14).bind fun v16=>some (v16 != 0)))))
theorem aAx {K:Nat} {c0:Int} {c1:aD} {a0:aA} {r:Bool} (hF:kR K c0 c1 a0=some r):Ct Tryz.prog 153 [.va (aA.enc a0),.vc (pM (cI.e c0)),.vc (pM (aD.cod.e c1))] (.vc (pB r)):=by
 unfold kR at hF
 refine aI Tryz.func153 rfl (by kernel_rfl) Tryz.ntmps153 rfl (fun w0 M0=>?_)
 refine aM (aX (cT rfl rfl trivial (fun b1=>?_)))
 obtain⟨v2,h3,hF⟩:=bD hF aA0
 refine go ?_ ?_
 refine dQ hF (fun h4 hF=>?_) (fun h4 hF=>?_)
 ·exact cA
 obtain⟨v5,h6,hF⟩:=bD hF aA0
 refine go ?_ ?_
 refine dQ hF (fun h7 hF=>?_) (fun h7 hF=>?_)
 ·exact cA
 obtain⟨v8,h9,hF⟩:=bD hF pD
 refine go ?_ ?_
 refine dQ hF (fun h10 hF=>?_) (fun h10 hF=>?_)
 ·exact cA
 obtain⟨v11,h12,hF⟩:=bD hF jO
 refine go ?_ ?_
 refine dQ hF (fun h13 hF=>?_) (fun h13 hF=>?_)
 ·exact cA
 obtain⟨v14,h15,hF⟩:=bD hF kD
 obtain⟨v16,h17,hF⟩:=bD hF jO
 exact cA
def nW (K:Nat) (a0:aD):Option Bool:=
 (fG K a0.rows (kR K (a0.dofs.length:Int) a0)).bind fun v16=>some (!v16)
def gQ (K:Nat) (a0:aD):Nat→Int→Option (LR Bool Unit)
 |0,_=>none
 |k+1,x13=>bif(decide (x13<(a0.dofs.length:Int))) then((bM a0.dofs x13).bind fun v19=>(aBw v19.inv).bind fun v22=>bif(!v22) then(some (.ret false)) else((wP v19.inv).bind fun v25=>bif(decide (v25≤0)) then(some (.ret false)) else((aP (x13+1)).bind fun v28=>gQ K a0 k v28))) else(some (.go ()))
def mM (K:Nat) (a0:aD):Option Bool:=
 bif(decide (12<(a0.dofs.length:Int))) then(some false) else(bif((a0.load.length:Int) != (a0.dofs.length:Int)) then(some false) else(bif((a0.v.length:Int) != (a0.dofs.length:Int)) then(some false) else((rH K a0.load).bind fun v6=>bif(!v6) then(some false) else((rH K a0.v).bind fun v9=>bif(!v9) then(some false) else((gQ K a0 K 0).bind fun o=>match o with| .ret r=>some r| .go _=>nW K a0)))))
theorem w5 {K:Nat} {a0:aD} {r:Bool} (hF:mM K a0=some r):Ct Tryz.prog 69 [.va (aD.enc a0)] (.vc (pB r)):=by
 unfold mM at hF
 refine aI Tryz.func69 rfl (by kernel_rfl) Tryz.ntmps69 rfl (fun w0 M0=>?_)
 refine aM (aX (cT rfl rfl trivial (fun b1=>?_)))
 refine go ?_ ?_
 refine aN rfl tyZ3q (fun b2=>?_)
 refine go ?_ ?_
 refine dQ hF (fun h3 hF=>?_) (fun h3 hF=>?_)
 ·refine go ?_ ?_
  refine mD rfl ?_
  exact cA
 refine go ?_ ?_
 refine dQ hF (fun h4 hF=>?_) (fun h4 hF=>?_)
 ·refine go ?_ ?_
  refine mD rfl ?_
  exact cA
 refine go ?_ ?_
 refine dQ hF (fun h5 hF=>?_) (fun h5 hF=>?_)
 ·refine go ?_ ?_
  refine mD rfl ?_
  exact cA
 obtain⟨v6,h7,hF⟩:=bD hF yN
 refine go ?_ ?_
 refine dQ hF (fun h8 hF=>?_) (fun h8 hF=>?_)
 ·refine go ?_ ?_
  refine mD rfl ?_
  exact cA
 obtain⟨v9,h10,hF⟩:=bD hF yN
 refine go ?_ ?_
 refine aJ hF rfl (fun h11 hF=>?_) (fun h11 hF=>?_)
 ·exact cA
 refine go ?_ ?_
 refine aV (cJ (fun H E=>nW K a0=some r∧H=[⟨some b2,1,3,1,1,[pI .i64 (a0.dofs.length:Int)]⟩,⟨some b1,1,113,4,1,(aD.enc a0)⟩]∧E=[(1,.vc (pP (some b1) 0)),(3,.vc (pP (some b2) 0))]) ?_ (fun Jj15=>?_))
 ·rintro _ _ ⟨hF,rfl,rfl⟩
  unfold nW at hF
  refine aS (aM (aX (aR (oK (off:=0) (k:=3) rfl tyF113_3) zU1 ?_)))
  refine aR (gF 1 1 rfl rfl rfl rfl (.one tyO25)) zU1 ?_
  refine aKb 0 [(3,0)] rfl zU1 rfl ?_
  refine aKb 0 [(1,0),(55,3)] rfl zU2 rfl ?_
  refine aR (aPM (φ:=(kR K (a0.dofs.length:Int) a0)) (pre:=fun x:aA=>[.va (aA.enc x)]) (post:=fun r:Bool=>.vc (pB r)) (xs:=[.tmp 3,.tmp 1]) (cs:=[pM (cI.e (a0.dofs.length:Int)),pM (aD.cod.e a0)]) rfl rfl (fun x r h=>aAx h)) zU2 ?_
  obtain⟨v16,h17,hF⟩:=bD hF sR
  exact cA
 obtain⟨ol14,hL,hRl14⟩:=a9 hF
 refine iT (fun k a w=>∃(x13:Int),gQ K a0 k x13=some ol14∧hs _ [⟨some b2,1,3,1,1,[pI .i64 (a0.dofs.length:Int)]⟩,⟨some b1,1,113,4,1,(aD.enc a0)⟩] [(1,.vc (pP (some b1) 0)),(3,.vc (pP (some b2) 0)),(38,.vc (pS aG.cod a0.dofs)),(39,.vc (pI .i64 (a0.dofs.length:Int))),(40,.vc (pI .i64 x13))] a w) K (fun a w ⟨_,hF,_⟩=>by cases hF) (fun k a w ⟨x13,hF,hh⟩=>iS ?_ hh) (fun a w hh=>⟨0,hL,iH [0,1] hh⟩)
 rw [gQ.eq_2] at hF
 refine go ?_ ?_
 refine aJ hF rfl (fun h18 hF=>?_) (fun h18 hF=>?_)
 ·refine go ?_ ?_
  refine aV ?_
  obtain⟨v19,h20,hF⟩:=a9 hF
  refine go ?_ ?_
  refine aN rfl tyZ108q (fun b21=>?_)
  obtain⟨v22,h23,hF⟩:=bD hF pD
  refine go ?_ ?_
  refine dQ hF (fun h24 hF=>?_) (fun h24 hF=>?_)
  ·refine go ?_ ?_
   refine mD rfl ?_
   exact cA
  obtain⟨v25,h26,hF⟩:=bD hF jO
  refine go ?_ ?_
  refine aJ hF rfl (fun h27 hF=>?_) (fun h27 hF=>?_)
  ·exact cA
  obtain⟨v28,h29,hF⟩:=a9 hF
  refine go ?_ ?_
  exact aL (fun a w hh=>⟨v28,hF,iH [1,2] hh⟩)
 refine dJ ?_
 obtain rfl:=qN hF
 exact qB Jj15 ⟨hRl14,rfl,rfl⟩ [0,1]
def kI (K:Nat) (a0:aD) (a1:aA):Option Int:=
 (gK K a1.t a0.v).bind fun v3=>(wP v3).bind fun v5=>some v5
theorem tH {K:Nat} {a0:aD} {a1:aA} {r:Int} (hF:kI K a0 a1=some r):Ct Tryz.prog 155 [.va (aD.enc a0),.va (aA.enc a1)] (.vc (pI .i64 r)):=by
 unfold kI at hF
 refine aI Tryz.func155 rfl (by kernel_rfl) Tryz.ntmps155 rfl (fun w0 M0=>?_)
 refine aM (aX (cT rfl rfl trivial (fun b1=>?_)))
 refine cT rfl rfl trivial (fun b2=>?_)
 obtain⟨v3,h4,hF⟩:=bD hF kD
 obtain⟨v5,h6,hF⟩:=bD hF jO
 exact cA
def lB (K:Nat) (x18:List aC):Option (List aC):=
 some x18
def dA (K:Nat) (a0:aD):Nat→(List aC)→Int→Option (List aC)
 |0,_,_=>none
 |k+1,x11,x17=>bif(decide (x17<(a0.rows.length:Int))) then((bM a0.rows x17).bind fun v27=>(qD x11 [(⟨x17,0⟩:aC)]).bind fun x30=>bif(decide (0<(v27.t.length:Int))) then((kI K a0 v27).bind fun v38=>bif(v38==0) then((qD x30 [(⟨x17,1⟩:aC),(⟨x17,2⟩:aC),(⟨x17,3⟩:aC)]).bind fun x41=>(aP (x17+1)).bind fun v48=>dA K a0 k x41 v48) else((aP (x17+1)).bind fun v50=>dA K a0 k x30 v50)) else((aP (x17+1)).bind fun v52=>dA K a0 k x30 v52)) else(some x11)
def iW (K:Nat) (a0:aD):Option (List aC):=
 (dA K a0 K ([]:List aC) 0).bind fun x18=>lB K x18
theorem uU {K:Nat} {a0:aD} {r:List aC} (hF:iW K a0=some r):Ct Tryz.prog 70 [.va (aD.enc a0)] (.vc (pS aC.cod r)):=by
 unfold iW at hF
 refine aI Tryz.func70 rfl (by kernel_rfl) Tryz.ntmps70 rfl (fun w0 M0=>?_)
 refine aM (aX (cT rfl rfl trivial (fun b1=>?_)))
 refine aR (bW (.inr rfl)) ⟨eJ aC.cod,trivial⟩ ?_
 refine bQ (aS (aM (aX (wV aC.cod 118 rfl ?_))))
 refine go ?_ ?_
 refine aV (cJ (fun H E=>∃(x18:List aC),∃(b19:Option Nat),∃(c20:Nat),∃(n21:Nat),lB K x18=some r∧x18.length=n21∧H=[hO aC.cod b19 c20 118 n21 x18]∧E=[(3,.vc (pO b19 n21 c20))]) ?_ (fun Jj25=>?_))
 ·rintro _ _ ⟨x18,b19,c20,n21,hF,q22,rfl,rfl⟩
  unfold lB at hF
  refine go ?_ ?_
  refine sP (sS (yF 0 [2,3,39] rfl q22 ⟨rfl,rfl,rfl,trivial⟩ rfl ?_))
  obtain rfl:=qN hF
  exact s7 (.inl rfl) Tryz.results70 (.tmp rfl .nil) rfl rfl
 obtain⟨x18',hL,hRl24⟩:=a9 hF
 refine iT (fun k a w=>∃(x11:List aC),∃(x17:Int),∃(b12:Option Nat),∃(c13:Nat),∃(n14:Nat),dA K a0 k x11 x17=some x18'∧x11.length=n14∧hs _ [hO aC.cod b12 c13 118 n14 x11,⟨some b1,1,113,4,1,(aD.enc a0)⟩] [(1,.vc (pP (some b1) 0)),(3,.vc (pO b12 n14 c13)),(7,.vc (pS aA.cod a0.rows)),(8,.vc (pI .i64 (a0.rows.length:Int))),(9,.vc (pI .i64 x17))] a w) K (fun a w ⟨_,_,_,_,_,hF,_,_⟩=>by cases hF) (fun k a w ⟨x11,x17,b12,c13,n14,hF,q15,hh⟩=>iS ?_ hh) (fun a w hh=>⟨([]:List aC),0,none,0,0,hL,rfl,iH [0,1] hh⟩)
 rw [dA.eq_2] at hF
 refine go ?_ ?_
 refine aJ hF rfl (fun h26 hF=>?_) (fun h26 hF=>?_)
 ·refine go ?_ ?_
  refine aV ?_
  obtain⟨v27,h28,hF⟩:=a9 hF
  refine go ?_ ?_
  refine aN rfl tyZ51q (fun b29=>?_)
  refine go ?_ ?_
  refine aR (fC (is:=[0,1]) (xs:=[.tmp 15,.const (.int .i64 (0))]) (ps:=[.vc (pI .i64 x17),.vc (pI .i64 0)]) rfl tyB118q rfl rfl ⟨trivial,trivial,trivial⟩ rfl) ⟨rfl,kL _ _,trivial⟩ ?_
  refine aR (sM (C:=aC.cod) (xs:=[.tmp 16]) (ps:=[.va ([pI .i64 x17]++[pI .i64 0])]) (zs:=[(⟨x17,0⟩:aC)]) rfl tyS114 rfl ⟨⟨trivial,rfl⟩,trivial⟩ rfl) zU1 ?_
  obtain⟨x30,h31,hF⟩:=a9 hF
  refine o8 1 rfl tyS114 rfl rfl q15 rfl rfl h31 (fun b32 c33 H34 e35=>?_)
  cases e35
  refine go ?_ ?_
  refine dQ hF (fun h37 hF=>?_) (fun h37 hF=>?_)
  ·obtain⟨v38,h39,hF⟩:=bD hF tH
   refine go ?_ ?_
   refine aJ hF rfl (fun h40 hF=>?_) (fun h40 hF=>?_)
   ·refine go ?_ ?_
    refine aR (fC (is:=[0,1]) (xs:=[.tmp 30,.const (.int .i64 (1))]) (ps:=[.vc (pI .i64 x17),.vc (pI .i64 1)]) rfl tyB118q rfl rfl ⟨trivial,trivial,trivial⟩ rfl) ⟨rfl,kL _ _,trivial⟩ ?_
    refine mF ?_
    refine aR (fC (is:=[0,1]) (xs:=[.tmp 32,.const (.int .i64 (2))]) (ps:=[.vc (pI .i64 x17),.vc (pI .i64 2)]) rfl tyB118q rfl rfl ⟨trivial,trivial,trivial⟩ rfl) ⟨rfl,kL _ _,trivial⟩ ?_
    refine mF ?_
    refine aR (fC (is:=[0,1]) (xs:=[.tmp 34,.const (.int .i64 (3))]) (ps:=[.vc (pI .i64 x17),.vc (pI .i64 3)]) rfl tyB118q rfl rfl ⟨trivial,trivial,trivial⟩ rfl) ⟨rfl,kL _ _,trivial⟩ ?_
    refine aR (sM (C:=aC.cod) (xs:=[.tmp 31,.tmp 33,.tmp 35]) (ps:=[.va ([pI .i64 x17]++[pI .i64 1]),.va ([pI .i64 x17]++[pI .i64 2]),.va ([pI .i64 x17]++[pI .i64 3])]) (zs:=[(⟨x17,1⟩:aC),(⟨x17,2⟩:aC),(⟨x17,3⟩:aC)]) rfl tyS114 rfl ⟨⟨trivial,rfl⟩,⟨trivial,rfl⟩,⟨trivial,rfl⟩,trivial⟩ rfl) ⟨rfl,rfl,rfl,trivial⟩ ?_
    obtain⟨x41,h42,hF⟩:=a9 hF
    refine o8 1 rfl tyS114 rfl rfl (f7 h31 q15) rfl rfl h42 (fun b43 c44 H45 e46=>?_)
    cases e46
    obtain⟨v48,h49,hF⟩:=a9 hF
    refine go ?_ ?_
    exact aL (fun a w hh=>⟨x41,v48,b43,c44,((n14+[(⟨x17,0⟩:aC)].length)+[(⟨x17,1⟩:aC),(⟨x17,2⟩:aC),(⟨x17,3⟩:aC)].length),hF,(f7 h42 (f7 h31 q15)),iH [1,2] hh⟩)
   obtain⟨v50,h51,hF⟩:=a9 hF
   refine go ?_ ?_
   exact aL (fun a w hh=>⟨x30,v50,b32,c33,(n14+[(⟨x17,0⟩:aC)].length),hF,(f7 h31 q15),iH [1,2] hh⟩)
  refine go ?_ ?_
  refine uP rfl ?_
  obtain⟨v52,h53,hF⟩:=a9 hF
  refine go ?_ ?_
  exact aL (fun a w hh=>⟨x30,v52,b32,c33,(n14+[(⟨x17,0⟩:aC)].length),hF,(f7 h31 q15),iH [1,2] hh⟩)
 refine dJ ?_
 obtain rfl:=qN hF
 exact qB Jj25 ⟨x11,b12,c13,n14,hRl24,q15,rfl,rfl⟩ [0]
def jW (K:Nat) (a0:aD) (a1:aA) (a2:Rat):Option Rat:=
 (kI K a0 a1).bind fun v7=>(aP (-v7)).bind fun v9=>(qof v9 1).bind fun v11=>(z5 a1.mu a2).bind fun v13=>(z5 v11 v13).bind fun v15=>some v15
theorem vA {K:Nat} {a0:aD} {a1:aA} {a2:Rat} {r:Rat} (hF:jW K a0 a1 a2=some r):Ct Tryz.prog 72 [.va (aD.enc a0),.va (aA.enc a1),.va (eQ a2)] (.va (eQ r)):=by
 unfold jW at hF
 refine aI Tryz.func72 rfl (by kernel_rfl) Tryz.ntmps72 rfl (fun w0 M0=>?_)
 refine aM (aX (cT rfl rfl trivial (fun b1=>?_)))
 refine cT rfl rfl trivial (fun b2=>?_)
 refine cT rfl rfl trivial (fun b3=>?_)
 refine aN rfl tyZ44q (fun b4=>?_)
 obtain⟨v7,h8,hF⟩:=bD hF tH
 obtain⟨v9,h10,hF⟩:=a9 hF
 obtain⟨v11,h12,hF⟩:=bD hF zB
 obtain⟨v13,h14,hF⟩:=bD hF rF
 obtain⟨v15,h16,hF⟩:=bD hF rF
 refine go ?_ ?_
 refine dr [0,0,3,7,15,0,32,0,255,511,1023] 10 1 ?_ (fun bs6 G5=>?_)
 exact cA
def oC (a0:List Rat):Option (List Rat):=
 (qD ([]:List Rat) a0).bind fun x9=>some x9
theorem aAW {a0:List Rat} {r:List Rat} (hF:oC a0=some r):CtO Tryz.prog 160 [] [.vc (pS cQ a0)] (fun Ho q=>∃b18 c19 n17,r.length=n17∧Ho=[hO cQ b18 c19 44 n17 r]∧q=.vc (pO b18 n17 c19)):=by
 unfold oC at hF
 refine aI Tryz.func160 rfl (by kernel_rfl) Tryz.ntmps160 rfl (fun w0 M0=>?_)
 refine aM (aX (wV cQ 44 rfl ?_))
 refine bQ (aS (aM (aM (aX (mF ?_)))))
 refine aI2 rfl Tryz.underlying24 rfl (fun h3=>?_) ?_
 ·skip
  subst h3
  have hF:some ([]:List Rat)=some r:=by simpa [qD] using hF
  refine bQ (aS (mD rfl ?_))
  refine aM (aX (wV cQ 44 rfl ?_))
  refine bQ (aS (sP (sS ?_)))
  obtain rfl:=qN hF
  exact aAG (.inl rfl) Tryz.results160 (.tmp rfl .nil) rfl [0] rfl (by decide) ⟨none,0,0,rfl,rfl,rfl⟩
 refine bQ (aS (uP rfl ?_))
 refine go ?_ ?_
 refine aIh (aH1 (C:=cQ) (xs:=[]) (ps:=[]) (zs:=([]:List Rat)) rfl tyS24 rfl trivial rfl) trivial (fun b6 _=>?_)
 refine mF ?_
 obtain⟨x9,h10,hF⟩:=a9 hF
 refine o8 0 rfl tyS24 rfl rfl rfl rfl rfl h10 (fun b11 c12 H13 e14=>?_)
 cases e14
 refine go ?_ ?_
 refine sP (sS ?_)
 obtain rfl:=qN hF
 exact aAG (.inl rfl) Tryz.results160 (.tmp rfl .nil) rfl [0] rfl (by decide) ⟨b11,c12,(0+a0.length),(f7 h10 rfl),rfl,rfl⟩
def iJ (K:Nat) (x46:List Rat):Option (List Rat):=
 some x46
def dH (K:Nat) (a0:aD):Nat→(List Rat)→Int→Option (List Rat)
 |0,_,_=>none
 |k+1,x39,x45=>bif(decide (x45<(a0.dofs.length:Int))) then((bM a0.dofs x45).bind fun v55=>(bM x39 x45).bind fun v60=>(z5 v60 v55.inv).bind fun v62=>(bM x39 x45).bind fun v64=>(nU x39 x45 v62).bind fun x66=>(aP (x45+1)).bind fun v69=>dH K a0 k x66 v69) else(some x39)
def iK (K:Nat) (a0:aD) (x24:List Rat):Option (List Rat):=
 (dH K a0 K x24 0).bind fun x46=>iJ K x46
def iA (K:Nat) (x23:Int) (recl30:(List Rat)→Int→Option (List Rat)) (x111:List Rat):Option (List Rat):=
 (aP (x23+1)).bind fun v119=>recl30 x111 v119
def cN (K:Nat) (a2:List aF) (x23:Int) (v72:aA):Nat→(List Rat)→Int→Option (List Rat)
 |0,_,_=>none
 |k+1,x104,x110=>bif(decide (x110<(v72.t.length:Int))) then((bM v72.t x110).bind fun v122=>(bM x104 v122.dof).bind fun v127=>(bM a2 x23).bind fun v129=>(z5 v122.k v129.f).bind fun v131=>(aCA v127 v131).bind fun v133=>(bM x104 v122.dof).bind fun v135=>(nU x104 v122.dof v133).bind fun x137=>(aP (x110+1)).bind fun v140=>cN K a2 x23 v72 k x137 v140) else(some x104)
def iI (K:Nat) (a2:List aF) (x23:Int) (v72:aA) (recl30:(List Rat)→Int→Option (List Rat)) (x89:List Rat):Option (List Rat):=
 (cN K a2 x23 v72 K x89 0).bind fun x111=>iA K x23 recl30 x111
def cP (K:Nat) (a2:List aF) (x23:Int) (v72:aA):Nat→(List Rat)→Int→Option (List Rat)
 |0,_,_=>none
 |k+1,x82,x88=>bif(decide (x88<(v72.j.length:Int))) then((bM v72.j x88).bind fun v143=>(bM x82 v143.dof).bind fun v148=>(bM a2 x23).bind fun v150=>(z5 v143.k v150.n).bind fun v152=>(aCA v148 v152).bind fun v154=>(bM x82 v143.dof).bind fun v156=>(nU x82 v143.dof v154).bind fun x158=>(aP (x88+1)).bind fun v161=>cP K a2 x23 v72 k x158 v161) else(some x82)
def cB (K:Nat) (a0:aD) (a2:List aF):Nat→(List Rat)→Int→Option (List Rat)
 |0,_,_=>none
 |k+1,x17,x23=>bif(decide (x23<(a0.rows.length:Int))) then((bM a0.rows x23).bind fun v72=>(cP K a2 x23 v72 K x17 0).bind fun x89=>iI K a2 x23 v72 (cB K a0 a2 k) x89) else(some x17)
def bE (K:Nat) (a0:aD) (a1:List Rat) (a2:List aF):Option (List Rat):=
 (oC a1).bind fun v2=>(cB K a0 a2 K v2 0).bind fun x24=>iK K a0 x24
theorem cR {K:Nat} {a0:aD} {a1:List Rat} {a2:List aF} {r:List Rat} (hF:bE K a0 a1 a2=some r):Ct Tryz.prog 74 [.va (aD.enc a0),.vc (pS cQ a1),.vc (pS aF.cod a2)] (.vc (pS cQ r)):=by
 unfold bE at hF
 refine aI Tryz.func74 rfl (by kernel_rfl) Tryz.ntmps74 rfl (fun w0 M0=>?_)
 refine aM (aX (cT rfl rfl trivial (fun b1=>?_)))
 refine aR (bW (.inr rfl)) ⟨eJ cQ,trivial⟩ ?_
 obtain⟨v2,h3,hF⟩:=a9 hF
 refine go ?_ ?_
 refine aDA [] [0] rfl (aAW h3) zU1 rfl rfl (by decide) ?_
 rintro _ _ ⟨b5,c6,n7,q8,rfl,rfl⟩
 refine go ?_ ?_
 refine aV (cJ (fun H E=>∃(x24:List Rat),iK K a0 x24=some r∧x24.length=n7∧H=[hO cQ b5 c6 44 n7 x24,⟨some b1,1,113,4,1,(aD.enc a0)⟩]∧E=[(3,.vc (pP (some b1) 0)),(7,.vc (pO b5 n7 c6))]) ?_ (fun Jj31=>?_))
 ·rintro _ _ ⟨x24,hF,q28,rfl,rfl⟩
  unfold iK at hF
  refine go ?_ ?_
  refine aV (cJ (fun H E=>∃(x46:List Rat),iJ K x46=some r∧x46.length=n7∧H=[hO cQ b5 c6 44 n7 x46]∧E=[(7,.vc (pO b5 n7 c6))]) ?_ (fun Jj53=>?_))
  ·rintro _ _ ⟨x46,hF,q50,rfl,rfl⟩
   unfold iJ at hF
   refine go ?_ ?_
   refine sP (sS (yF 0 [6,7,98] rfl q50 ⟨rfl,rfl,rfl,trivial⟩ rfl ?_))
   obtain rfl:=qN hF
   exact s7 (.inl rfl) Tryz.results74 (.tmp rfl .nil) rfl rfl
  obtain⟨x46',hL,hRl52⟩:=a9 hF
  refine iT (fun k a w=>∃(x39:List Rat),∃(x45:Int),dH K a0 k x39 x45=some x46'∧x39.length=n7∧hs _ [hO cQ b5 c6 44 n7 x39] [(7,.vc (pO b5 n7 c6)),(80,.vc (pS aG.cod a0.dofs)),(81,.vc (pI .i64 (a0.dofs.length:Int))),(82,.vc (pI .i64 x45))] a w) K (fun a w ⟨_,_,hF,_,_⟩=>by cases hF) (fun k a w ⟨x39,x45,hF,q43,hh⟩=>iS ?_ hh) (fun a w hh=>⟨x24,0,hL,q28,iH [0] hh⟩)
  rw [dH.eq_2] at hF
  refine go ?_ ?_
  refine aJ hF rfl (fun h54 hF=>?_) (fun h54 hF=>?_)
  ·refine go ?_ ?_
   refine aV ?_
   obtain⟨v55,h56,hF⟩:=a9 hF
   refine go ?_ ?_
   refine aN rfl tyZ108q (fun b57=>?_)
   obtain⟨v60,h61,hF⟩:=a9 hF
   obtain⟨v62,h63,hF⟩:=bD hF rF
   have hF:=tC h61 hF
   refine go ?_ ?_
   refine dr [0,0,0,0,12,28,0,64,252,511,1023] 10 1 ?_ (fun bs59 G58=>?_)
   obtain⟨x66,h67,v69,h70,hF⟩:=vN hF
   refine go ?_ ?_
   exact aL (fun a w hh=>⟨x66,v69,hF,(bI h67 q43),iH [1] hh⟩)
  refine dJ ?_
  obtain rfl:=qN hF
  exact qB Jj53 ⟨x39,hRl52,q43,rfl,rfl⟩ [0]
 obtain⟨x24',hL,hRl30⟩:=a9 hF
 refine iT (fun k a w=>∃(x17:List Rat),∃(x23:Int),cB K a0 a2 k x17 x23=some x24'∧x17.length=n7∧hs _ [hO cQ b5 c6 44 n7 x17,⟨some b1,1,113,4,1,(aD.enc a0)⟩] [(2,.vc (pS aF.cod a2)),(3,.vc (pP (some b1) 0)),(7,.vc (pO b5 n7 c6)),(19,.vc (pS aA.cod a0.rows)),(20,.vc (pI .i64 (a0.rows.length:Int))),(21,.vc (pI .i64 x23))] a w) K (fun a w ⟨_,_,hF,_,_⟩=>by cases hF) (fun k a w ⟨x17,x23,hF,q21,hh⟩=>iS ?_ hh) (fun a w hh=>⟨v2,0,hL,q8,iH [0,1] hh⟩)
 rw [cB.eq_2] at hF
 refine go ?_ ?_
 refine aJ hF rfl (fun h71 hF=>?_) (fun h71 hF=>?_)
 ·refine go ?_ ?_
  refine aV ?_
  obtain⟨v72,h73,hF⟩:=a9 hF
  refine go ?_ ?_
  refine aN rfl tyZ51q (fun b74=>?_)
  refine go ?_ ?_
  refine aV (cJ (fun H E=>∃(x89:List Rat),iI K a2 x23 v72 (cB K a0 a2 k) x89=some x24'∧x89.length=n7∧H=[⟨some b74,1,51,18,1,(aA.enc v72)⟩,hO cQ b5 c6 44 n7 x89,⟨some b1,1,113,4,1,(aD.enc a0)⟩]∧E=[(2,.vc (pS aF.cod a2)),(3,.vc (pP (some b1) 0)),(7,.vc (pO b5 n7 c6)),(8,.vc (pI .i64 x23)),(9,.vc (pP (some b74) 0)),(19,.vc (pS aA.cod a0.rows)),(20,.vc (pI .i64 (a0.rows.length:Int))),(21,.vc (pI .i64 x23))]) ?_ (fun Jj96=>?_))
  ·rintro _ _ ⟨x89,hF,q93,rfl,rfl⟩
   unfold iI at hF
   refine go ?_ ?_
   refine aV (cJ (fun H E=>∃(x111:List Rat),iA K x23 (cB K a0 a2 k) x111=some x24'∧x111.length=n7∧H=[hO cQ b5 c6 44 n7 x111,⟨some b1,1,113,4,1,(aD.enc a0)⟩]∧E=[(2,.vc (pS aF.cod a2)),(3,.vc (pP (some b1) 0)),(7,.vc (pO b5 n7 c6)),(19,.vc (pS aA.cod a0.rows)),(20,.vc (pI .i64 (a0.rows.length:Int))),(21,.vc (pI .i64 x23))]) ?_ (fun Jj118=>?_))
   ·rintro _ _ ⟨x111,hF,q115,rfl,rfl⟩
    unfold iA at hF
    obtain⟨v119,h120,hF⟩:=a9 hF
    refine go ?_ ?_
    exact aL (fun a w hh=>⟨x111,v119,hF,q115,iH [0,1] hh⟩)
   obtain⟨x111',hL,hRl117⟩:=a9 hF
   refine iT (fun k a w=>∃(x104:List Rat),∃(x110:Int),cN K a2 x23 v72 k x104 x110=some x111'∧x104.length=n7∧hs _ [hO cQ b5 c6 44 n7 x104,⟨some b1,1,113,4,1,(aD.enc a0)⟩] [(2,.vc (pS aF.cod a2)),(3,.vc (pP (some b1) 0)),(7,.vc (pO b5 n7 c6)),(8,.vc (pI .i64 x23)),(19,.vc (pS aA.cod a0.rows)),(20,.vc (pI .i64 (a0.rows.length:Int))),(21,.vc (pI .i64 x23)),(53,.vc (pS aE.cod v72.t)),(54,.vc (pI .i64 (v72.t.length:Int))),(55,.vc (pI .i64 x110))] a w) K (fun a w ⟨_,_,hF,_,_⟩=>by cases hF) (fun k a w ⟨x104,x110,hF,q108,hh⟩=>iS ?_ hh) (fun a w hh=>⟨x89,0,hL,q93,iH [1,2] hh⟩)
   rw [cN.eq_2] at hF
   refine go ?_ ?_
   refine aJ hF rfl (fun h121 hF=>?_) (fun h121 hF=>?_)
   ·refine go ?_ ?_
    refine aV ?_
    obtain⟨v122,h123,hF⟩:=a9 hF
    refine go ?_ ?_
    refine aN rfl tyZ92q (fun b124=>?_)
    obtain⟨v127,h128,v129,h130,hF⟩:=vN hF
    obtain⟨v131,h132,hF⟩:=bD hF rF
    obtain⟨v133,h134,hF⟩:=bD hF wF
    have hF:=tC h128 hF
    refine go ?_ ?_
    refine dr [0,0,2,0,0,16,56,120,0,256,0,0,3072,7168,15360,32512,65528,131071,262143] 18 1 ?_ (fun bs126 G125=>?_)
    obtain⟨x137,h138,v140,h141,hF⟩:=vN hF
    refine go ?_ ?_
    exact aL (fun a w hh=>⟨x137,v140,hF,(bI h138 q108),iH [1,2] hh⟩)
   refine dJ ?_
   obtain rfl:=qN hF
   exact qB Jj118 ⟨x104,hRl117,q108,rfl,rfl⟩ [0,1]
  obtain⟨x89',hL,hRl95⟩:=a9 hF
  refine iT (fun k a w=>∃(x82:List Rat),∃(x88:Int),cP K a2 x23 v72 k x82 x88=some x89'∧x82.length=n7∧hs _ [⟨some b74,1,51,18,1,(aA.enc v72)⟩,hO cQ b5 c6 44 n7 x82,⟨some b1,1,113,4,1,(aD.enc a0)⟩] [(2,.vc (pS aF.cod a2)),(3,.vc (pP (some b1) 0)),(7,.vc (pO b5 n7 c6)),(8,.vc (pI .i64 x23)),(9,.vc (pP (some b74) 0)),(19,.vc (pS aA.cod a0.rows)),(20,.vc (pI .i64 (a0.rows.length:Int))),(21,.vc (pI .i64 x23)),(27,.vc (pS aE.cod v72.j)),(28,.vc (pI .i64 (v72.j.length:Int))),(29,.vc (pI .i64 x88))] a w) K (fun a w ⟨_,_,hF,_,_⟩=>by cases hF) (fun k a w ⟨x82,x88,hF,q86,hh⟩=>iS ?_ hh) (fun a w hh=>⟨x17,0,hL,q21,iH [0,1,2] hh⟩)
  rw [cP.eq_2] at hF
  refine go ?_ ?_
  refine aJ hF rfl (fun h142 hF=>?_) (fun h142 hF=>?_)
  ·refine go ?_ ?_
   refine aV ?_
   obtain⟨v143,h144,hF⟩:=a9 hF
   refine go ?_ ?_
   refine aN rfl tyZ92q (fun b145=>?_)
   obtain⟨v148,h149,v150,h151,hF⟩:=vN hF
   obtain⟨v152,h153,hF⟩:=bD hF rF
   obtain⟨v154,h155,hF⟩:=bD hF wF
   have hF:=tC h149 hF
   refine go ?_ ?_
   refine dr [0,0,2,0,0,16,56,120,0,256,0,0,3072,7168,15360,32512,65528,131071,262143] 18 1 ?_ (fun bs147 G146=>?_)
   obtain⟨x158,h159,v161,h162,hF⟩:=vN hF
   refine go ?_ ?_
   exact aL (fun a w hh=>⟨x158,v161,hF,(bI h159 q86),iH [1,2,3] hh⟩)
  refine dJ ?_
  obtain rfl:=qN hF
  exact qB Jj96 ⟨x82,hRl95,q86,rfl,rfl⟩ [0,1,2]
 refine dJ ?_
 obtain rfl:=qN hF
 exact qB Jj31 ⟨x17,hRl30,q21,rfl,rfl⟩ [0,1]
def gA (c0:List Rat) (a0:Int) (a1:Rat):Option (List Rat):=
 (bM c0 a0).bind fun v8=>(nU c0 a0 a1).bind fun x10=>some x10
theorem oT {c0:List Rat} {a0:Int} {a1:Rat} {r:List Rat} (hF:gA c0 a0 a1=some r) {p0:Nat} {b3:Option Nat} {c4 n2:Nat} (q5:c0.length=n2):CtO Tryz.prog 157 [⟨some p0,1,24,1,1,[pO b3 n2 c4]⟩,hO cQ b3 c4 44 n2 c0] [.vc (pI .i64 a0),.va (eQ a1),.vc (pP (some p0) 0)] (fun Ho q=>∃b15 c16 n14,r.length=n14∧Ho=[⟨some p0,1,24,1,1,[pO b15 n14 c16]⟩,hO cQ b15 c16 44 n14 r]∧q=.any):=by
 unfold gA at hF
 refine aI Tryz.func157 rfl (by kernel_rfl) Tryz.ntmps157 rfl (fun w0 M0=>?_)
 refine aM (aX (cT rfl rfl trivial (fun b7=>?_)))
 obtain⟨v8,h9,x10,h11,hF⟩:=vN hF
 obtain rfl:=qN hF
 refine go ?_ ?_
 exact aAG (.inr rfl) Tryz.results157 .nil rfl [1,2] rfl (by decide) ⟨b3,c4,n2,(bI h11 q5),rfl,rfl⟩
def nP (a0:List aF):Option (List aF):=
 (qD ([]:List aF) a0).bind fun x9=>some x9
theorem aAv {a0:List aF} {r:List aF} (hF:nP a0=some r):CtO Tryz.prog 158 [] [.vc (pS aF.cod a0)] (fun Ho q=>∃b18 c19 n17,r.length=n17∧Ho=[hO aF.cod b18 c19 58 n17 r]∧q=.vc (pO b18 n17 c19)):=by
 unfold nP at hF
 refine aI Tryz.func158 rfl (by kernel_rfl) Tryz.ntmps158 rfl (fun w0 M0=>?_)
 refine aM (aX (wV aF.cod 58 rfl ?_))
 refine bQ (aS (aM (aM (aX (mF ?_)))))
 refine aI2 rfl Tryz.underlying29 rfl (fun h3=>?_) ?_
 ·skip
  subst h3
  have hF:some ([]:List aF)=some r:=by simpa [qD] using hF
  refine bQ (aS (mD rfl ?_))
  refine aM (aX (wV aF.cod 58 rfl ?_))
  refine bQ (aS (sP (sS ?_)))
  obtain rfl:=qN hF
  exact aAG (.inl rfl) Tryz.results158 (.tmp rfl .nil) rfl [0] rfl (by decide) ⟨none,0,0,rfl,rfl,rfl⟩
 refine bQ (aS (uP rfl ?_))
 refine go ?_ ?_
 refine aIh (aH1 (C:=aF.cod) (xs:=[]) (ps:=[]) (zs:=([]:List aF)) rfl tyS29 rfl trivial rfl) trivial (fun b6 _=>?_)
 refine mF ?_
 obtain⟨x9,h10,hF⟩:=a9 hF
 refine o8 0 rfl tyS29 rfl rfl rfl rfl rfl h10 (fun b11 c12 H13 e14=>?_)
 cases e14
 refine go ?_ ?_
 refine sP (sS ?_)
 obtain rfl:=qN hF
 exact aAG (.inl rfl) Tryz.results158 (.tmp rfl .nil) rfl [0] rfl (by decide) ⟨b11,c12,(0+a0.length),(f7 h10 rfl),rfl,rfl⟩
def gB (c0:(List Nat×List (List Rat))) (c1:Int) (a0:Int) (a1:Rat):Option (List Nat×List (List Rat)):=
 (bM c0.1 a0).bind fun v17=>(bM c0.1 a0).bind fun v19=>(bM (c0.2.getD v19 []) c1).bind fun v21=>(aCA v21 a1).bind fun v23=>(bM (c0.2.getD v17 []) c1).bind fun v25=>(nU (c0.2.getD v17 []) c1 v23).bind fun x27=>some (c0.1,(c0.2.set v17 x27))
theorem oU {c0:(List Nat×List (List Rat))} {c1:Int} {a0:Int} {a1:Rat} {r:(List Nat×List (List Rat))} (hF:gB c0 c1 a0 a1=some r) {p0:Nat} {b5:Option Nat} {c6 n4:Nat} {g3:List wM} {N9:Nat} (q7:c0.1.length=n4) (q10:c0.2.length=N9) (q11:lR g3 c0.2) (q12:(∀k∈c0.1,k<N9)):CtO Tryz.prog 159 ([⟨some p0,1,62,1,1,[pO b5 n4 c6]⟩,hO (cH g3) b5 c6 24 n4 c0.1]++iD cQ 44 g3 c0.2) [.vc (pI .i64 a0),.va (eQ a1),.vc (pP (some p0) 0),.vc (pM (cI.e c1))] (fun Ho q=>∃b34 c35 n33 g32 N38,r.1.length=n33∧r.2.length=N38∧lR g32 r.2∧(∀k∈r.1,k<N38)∧Ho=([⟨some p0,1,62,1,1,[pO b34 n33 c35]⟩,hO (cH g32) b34 c35 24 n33 r.1]++iD cQ 44 g32 r.2)∧q=.any):=by
 unfold gB at hF
 refine aI Tryz.func159 rfl (by kernel_rfl) Tryz.ntmps159 rfl (fun w0 M0=>?_)
 refine aM (aX (cT rfl rfl trivial (fun b14=>?_)))
 refine bQ (aS ?_)
 obtain⟨v17,h18,hF⟩:=a9 hF
 have hF:=tC h18 hF
 obtain⟨v21,h22,hF⟩:=a9 hF
 obtain⟨v23,h24,hF⟩:=bD hF wF
 have hF:=tC h22 hF
 refine kG [0,0,3,7,0,0,0,96,224,0,992,2016,0,8160,16383,32767] 15 1 [.v (.vc (pO b5 n4 c6)),.v (.vc (pI .i64 a0)),.v (.vc (pE b5 a0 (cH g3).n 0)),.v (.vc (pO (jL g3 v17).1 (jL g3 v17).2.1 (jL g3 v17).2.2)),.v (.vc (pI .i64 c1)),.v (.vc (pO b5 n4 c6)),.v (.vc (pI .i64 a0)),.v (.vc (pE b5 a0 (cH g3).n 0)),.v (.vc (pO (jL g3 v17).1 (jL g3 v17).2.1 (jL g3 v17).2.2)),.v (.vc (pI .i64 c1)),.v (.vc (pE (jL g3 v17).1 c1 cQ.n 0)),.v (.va (eQ v21)),.v (.va (eQ a1)),.v (.va (eQ v23)),.v (.vc (pE (jL g3 v17).1 c1 cQ.n 0))] bK ⟨d0 (gF 1 1 rfl rfl rfl rfl (.one tyO62)) zU1,d0 (bW (.inl rfl)) zU1,d0 (l9 (C:=(cH g3)) 2 rfl tyS62 rfl q7 (aU h18).1 (aU h18).2.1) zU2,d0 (p5 (C:=(cH g3)) (k:=1) 2 rfl rfl h18 rfl (.one tyO24) rfl) zU1,d0 (aGw 1 rfl rfl (.one tyO3)) zU1,d0 (gF 1 1 rfl rfl rfl rfl (.one tyO62)) zU1,d0 (bW (.inl rfl)) zU1,d0 (l9 (C:=(cH g3)) 2 rfl tyS62 rfl q7 (aU h18).1 (aU h18).2.1) zU2,d0 (p5 (C:=(cH g3)) (k:=1) 2 rfl rfl h18 rfl (.one tyO24) rfl) zU1,d0 (aGw 1 rfl rfl (.one tyO3)) zU1,d0 (l9 (3+v17) rfl tyS24 (kY 3 rfl q11 q10 (q12 _ (bC h18))) (lW q11 q10 (q12 _ (bC h18))) (aU h22).1 (aU h22).2.1) zU2,d0 (p5 (k:=4) (3+v17) rfl (kY 3 rfl q11 q10 (q12 _ (bC h18))) h22 rfl (.agg tyA44) rfl) zU1,d0 (gF 0 4 rfl rfl rfl rfl (.agg tyA44)) zU1,d0 (bS rfl h24 rfl) zU2,d0 (l9 (3+v17) rfl tyS24 (kY 3 rfl q11 q10 (q12 _ (bC h18))) (lW q11 q10 (q12 _ (bC h18))) (aU h22).1 (aU h22).2.1) zU2,trivial⟩ (fun bs16 G15=>?_)
 obtain⟨x27,h28,hF⟩:=a9 hF
 refine oS (xT (H':=([⟨some b14,1,44,4,1,(eQ a1)⟩,⟨some p0,1,62,1,1,[pO b5 n4 c6]⟩,hO (cH g3) b5 c6 24 n4 c0.1]++iD cQ 44 g3 (c0.2.set v17 x27))) (3+v17) rfl (aB2 3 rfl q11 q10 (q12 _ (bC h18))) h22 h28 tyA44.s (hH:=stN 3 rfl q11 q10 (q12 _ (bC h18)))) zU2 ?_
 refine bQ ?_
 obtain rfl:=qN hF
 exact zZ (.inr rfl) Tryz.results159 .nil rfl 3 [1,2] rfl rfl (by decide) ⟨b5,c6,n4,g3,N9,q7,(t9 q10),(xG q11 q10 (q12 _ (bC h18)) (bI h28 rfl)),q12,rfl,rfl⟩
def jB (K:Nat) (x21:List Rat):Option (List Rat):=
 some x21
def bU (K:Nat) (a0:List Rat) (a1:List aC) (a2:aD):Nat→(List Rat)→Int→Option (List Rat)
 |0,_,_=>none
 |k+1,x14,x20=>bif(decide (x20<(a1.length:Int))) then((bM a1 x20).bind fun v30=>(bM a2.rows v30.row).bind fun v33=>bif(v30.kind==0) then((gK K v33.j a0).bind fun v37=>(gA x14 x20 v37).bind fun v39=>(aP (x20+1)).bind fun v47=>bU K a0 a1 a2 k v39 v47) else(bif(v30.kind==1) then((gK K v33.t a0).bind fun v50=>(gA x14 x20 v50).bind fun v52=>(aP (x20+1)).bind fun v60=>bU K a0 a1 a2 k v52 v60) else(bif(v30.kind==2) then((gK K v33.t a0).bind fun v63=>(aBY v63).bind fun v65=>(gA x14 x20 v65).bind fun v67=>(aP (x20+1)).bind fun v75=>bU K a0 a1 a2 k v67 v75) else((aP (x20+1)).bind fun v77=>bU K a0 a1 a2 k x14 v77)))) else(some x14)
def lI (K:Nat) (a0:List Rat) (a1:List aC) (a2:aD) (a3:List Rat):Option (List Rat):=
 (bU K a0 a1 a2 K a3 0).bind fun x21=>jB K x21
theorem wW {K:Nat} {a0:List Rat} {a1:List aC} {a2:aD} {a3:List Rat} {r:List Rat} (hF:lI K a0 a1 a2 a3=some r) {p0:Nat} {p1:Nat} {p2:Nat} {b2:Option Nat} {c3 n4:Nat} (q5:a3.length=n4):CtO Tryz.prog 156 [⟨some p0,1,24,1,1,[pO b2 n4 c3]⟩,⟨some p1,1,114,1,1,[pS aC.cod a1]⟩,⟨some p2,1,113,4,1,(aD.enc a2)⟩,hO cQ b2 c3 44 n4 a3] [.vc (pS cQ a0),.vc (pF 157 [pP (some p0) 0]),.vc (pP (some p1) 0),.vc (pP (some p2) 0)] (fun Ho q=>∃b1079 c1080 n1081,r.length=n1081∧Ho=[⟨some p0,1,24,1,1,[pO b1079 n1081 c1080]⟩,⟨some p1,1,114,1,1,[pS aC.cod a1]⟩,⟨some p2,1,113,4,1,(aD.enc a2)⟩,hO cQ b1079 c1080 44 n1081 r]∧q=.any):=by
 unfold lI at hF
 refine aI Tryz.func156 rfl (by kernel_rfl) Tryz.ntmps156 rfl (fun w0 M0=>?_)
 refine go ?_ ?_
 refine aV (cJ (fun H E=>∃(x21:List Rat),∃(b22:Option Nat),∃(c23:Nat),∃(n24:Nat),jB K x21=some r∧x21.length=n24∧H=[⟨some p0,1,24,1,1,[pO b22 n24 c23]⟩,⟨some p1,1,114,1,1,[pS aC.cod a1]⟩,⟨some p2,1,113,4,1,(aD.enc a2)⟩,hO cQ b22 c23 44 n24 x21]∧E=[]) ?_ (fun Jj28=>?_))
 ·rintro _ _ ⟨x21,b22,c23,n24,hF,q25,rfl,rfl⟩
  unfold jB at hF
  obtain rfl:=qN hF
  exact aAG (.inr rfl) Tryz.results156 .nil rfl [0,1,2,3] rfl (by decide) ⟨b22,c23,n24,q25,rfl,rfl⟩
 obtain⟨x21',hL,hRl27⟩:=a9 hF
 refine iT (fun k a w=>∃(x14:List Rat),∃(x20:Int),∃(b15:Option Nat),∃(c16:Nat),∃(n17:Nat),bU K a0 a1 a2 k x14 x20=some x21'∧x14.length=n17∧hs _ [⟨some p0,1,24,1,1,[pO b15 n17 c16]⟩,⟨some p1,1,114,1,1,[pS aC.cod a1]⟩,⟨some p2,1,113,4,1,(aD.enc a2)⟩,hO cQ b15 c16 44 n17 x14] [(0,.vc (pS cQ a0)),(1,.vc (pF 157 [pP (some p0) 0])),(3,.vc (pP (some p2) 0)),(9,.vc (pS aC.cod a1)),(10,.vc (pI .i64 (a1.length:Int))),(11,.vc (pI .i64 x20))] a w) K (fun a w ⟨_,_,_,_,_,hF,_,_⟩=>by cases hF) (fun k a w ⟨x14,x20,b15,c16,n17,hF,q18,hh⟩=>iS ?_ hh) (fun a w hh=>⟨a3,0,b2,c3,n4,hL,q5,iH [0,1,2,3] hh⟩)
 rw [bU.eq_2] at hF
 refine go ?_ ?_
 refine aJ hF rfl (fun h29 hF=>?_) (fun h29 hF=>?_)
 ·refine go ?_ ?_
  refine aV ?_
  obtain⟨v30,h31,hF⟩:=a9 hF
  refine go ?_ ?_
  refine aN rfl tyZ118q (fun b32=>?_)
  obtain⟨v33,h34,hF⟩:=a9 hF
  refine go ?_ ?_
  refine aN rfl tyZ51q (fun b35=>?_)
  refine go ?_ ?_
  refine aV (go ?_ ?_)
  refine aJ hF rfl (fun h36 hF=>?_) (fun h36 hF=>?_)
  ·obtain⟨v37,h38,hF⟩:=bD hF kD
   obtain⟨v39,h40,hF⟩:=a9 hF
   refine go ?_ ?_
   refine aAH (f:=157) (cs:=[pP (some p0) 0]) (pre:=[.vc (pI .i64 x20),.va (eQ v37)]) (xs:=[.tmp 27,.tmp 31]) [2,5] [0,1,3,4] rfl (oT h40 q18) ⟨rfl,rfl,rfl,trivial⟩ rfl rfl (by decide) ?_
   rintro _ _ ⟨b43,c44,n42,q45,rfl,rfl⟩
   obtain⟨v47,h48,hF⟩:=a9 hF
   refine go ?_ ?_
   exact aL (fun a w hh=>⟨v39,v47,b43,c44,n42,hF,q45,iH [0,4,5,1] hh⟩)
  refine go ?_ ?_
  refine aJ hF rfl (fun h49 hF=>?_) (fun h49 hF=>?_)
  ·obtain⟨v50,h51,hF⟩:=bD hF kD
   obtain⟨v52,h53,hF⟩:=a9 hF
   refine go ?_ ?_
   refine aAH (f:=157) (cs:=[pP (some p0) 0]) (pre:=[.vc (pI .i64 x20),.va (eQ v50)]) (xs:=[.tmp 36,.tmp 40]) [2,5] [0,1,3,4] rfl (oT h53 q18) ⟨rfl,rfl,rfl,trivial⟩ rfl rfl (by decide) ?_
   rintro _ _ ⟨b56,c57,n55,q58,rfl,rfl⟩
   obtain⟨v60,h61,hF⟩:=a9 hF
   refine go ?_ ?_
   exact aL (fun a w hh=>⟨v52,v60,b56,c57,n55,hF,q58,iH [0,4,5,1] hh⟩)
  refine go ?_ ?_
  refine aJ hF rfl (fun h62 hF=>?_) (fun h62 hF=>?_)
  ·obtain⟨v63,h64,hF⟩:=bD hF kD
   obtain⟨v65,h66,hF⟩:=bD hF pW
   obtain⟨v67,h68,hF⟩:=a9 hF
   refine go ?_ ?_
   refine aAH (f:=157) (cs:=[pP (some p0) 0]) (pre:=[.vc (pI .i64 x20),.va (eQ v65)]) (xs:=[.tmp 45,.tmp 50]) [2,5] [0,1,3,4] rfl (oT h68 q18) ⟨rfl,rfl,rfl,trivial⟩ rfl rfl (by decide) ?_
   rintro _ _ ⟨b71,c72,n70,q73,rfl,rfl⟩
   obtain⟨v75,h76,hF⟩:=a9 hF
   refine go ?_ ?_
   exact aL (fun a w hh=>⟨v67,v75,b71,c72,n70,hF,q73,iH [0,4,5,1] hh⟩)
  obtain⟨v77,h78,hF⟩:=a9 hF
  refine go ?_ ?_
  exact aL (fun a w hh=>⟨x14,v77,b15,c16,n17,hF,q18,iH [2,3,4,5] hh⟩)
 refine dJ ?_
 obtain rfl:=qN hF
 exact qB Jj28 ⟨x14,b15,c16,n17,hRl27,q18,rfl,rfl⟩ [0,1,2,3]
def iZ (K:Nat) (x40:List Nat) (x46:List (List Rat)):Option ((List Nat)×(List (List Rat))):=
 some (x40,x46)
def bV (K:Nat) (a0:List Rat) (a1:Int) (a2:List aC) (a3:aD):Nat→(List Nat)→(List (List Rat))→Int→Option ((List Nat)×(List (List Rat)))
 |0,_,_,_=>none
 |k+1,x27,x33,x39=>bif(decide (x39<(a2.length:Int))) then((bM a2 x39).bind fun v55=>(bM a3.rows v55.row).bind fun v58=>bif(v55.kind==0) then((gK K v58.j a0).bind fun v62=>(gB (x27,x33) a1 x39 v62).bind fun v64=>(aP (x39+1)).bind fun v79=>bV K a0 a1 a2 a3 k v64.1 v64.2 v79) else(bif(v55.kind==1) then((gK K v58.t a0).bind fun v82=>(gB (x27,x33) a1 x39 v82).bind fun v84=>(aP (x39+1)).bind fun v99=>bV K a0 a1 a2 a3 k v84.1 v84.2 v99) else(bif(v55.kind==2) then((gK K v58.t a0).bind fun v102=>(aBY v102).bind fun v104=>(gB (x27,x33) a1 x39 v104).bind fun v106=>(aP (x39+1)).bind fun v121=>bV K a0 a1 a2 a3 k v106.1 v106.2 v121) else((aP (x39+1)).bind fun v123=>bV K a0 a1 a2 a3 k x27 x33 v123)))) else(some (x27,x33))
def cE (K:Nat) (a0:List Rat) (a1:Int) (a2:List aC) (a3:aD) (a4:List Nat) (a5:List (List Rat)):Option ((List Nat)×(List (List Rat))):=
 (bV K a0 a1 a2 a3 K a4 a5 0).bind fun(x40,x46)=>iZ K x40 x46
theorem fJ {K:Nat} {a0:List Rat} {a1:Int} {a2:List aC} {a3:aD} {a4:List Nat} {a5:List (List Rat)} {r:(List Nat)×(List (List Rat))} (hF:cE K a0 a1 a2 a3 a4 a5=some r) {p0:Nat} {p1:Nat} {p2:Nat} {b3:Option Nat} {c4 n5:Nat} {g8:List wM} {N9:Nat} (q6:a4.length=n5) (q10:a5.length=N9) (q11:lR g8 a5) (q12:∀k∈a4,k<N9):CtO Tryz.prog 156 ([⟨some p0,1,62,1,1,[pO b3 n5 c4]⟩,⟨some p1,1,114,1,1,[pS aC.cod a2]⟩,⟨some p2,1,113,4,1,(aD.enc a3)⟩,hO (cH g8) b3 c4 24 n5 a4]++iD cQ 44 g8 a5) [.vc (pS cQ a0),.vc (pF 159 [pP (some p0) 0,pM (cI.e a1)]),.vc (pP (some p1) 0),.vc (pP (some p2) 0)] (fun Ho q=>∃b1125 c1126 n1127 g1130 N1131,r.1.length=n1127∧r.2.length=N1131∧lR g1130 r.2∧(∀k∈r.1,k<N1131)∧Ho=([⟨some p0,1,62,1,1,[pO b1125 n1127 c1126]⟩,⟨some p1,1,114,1,1,[pS aC.cod a2]⟩,⟨some p2,1,113,4,1,(aD.enc a3)⟩,hO (cH g1130) b1125 c1126 24 n1127 r.1]++iD cQ 44 g1130 r.2)∧q=.any):=by
 unfold cE at hF
 refine aI Tryz.func156 rfl (by kernel_rfl) Tryz.ntmps156 rfl (fun w0 M0=>?_)
 refine go ?_ ?_
 refine aV (cJ (fun H E=>∃(x40:List Nat),∃(x46:List (List Rat)),∃(b41:Option Nat),∃(c42:Nat),∃(n43:Nat),∃(g47:List wM),∃(N48:Nat),iZ K x40 x46=some r∧x40.length=n43∧x46.length=N48∧lR g47 x46∧(∀k∈x40,k<N48)∧H=([⟨some p0,1,62,1,1,[pO b41 n43 c42]⟩,⟨some p1,1,114,1,1,[pS aC.cod a2]⟩,⟨some p2,1,113,4,1,(aD.enc a3)⟩,hO (cH g47) b41 c42 24 n43 x40]++iD cQ 44 g47 x46)∧E=[]) ?_ (fun Jj53=>?_))
 ·rintro _ _ ⟨x40,x46,b41,c42,n43,g47,N48,hF,q44,q49,q50,q51,rfl,rfl⟩
  unfold iZ at hF
  obtain rfl:=qN hF
  exact zZ (.inr rfl) Tryz.results156 .nil rfl 4 [0,1,2,3] rfl rfl (by decide) ⟨b41,c42,n43,g47,N48,q44,q49,q50,q51,rfl,rfl⟩
 obtain⟨⟨x40',x46'⟩,hL,hRl52⟩:=a9 hF
 refine iT (fun k a w=>∃(x27:List Nat),∃(x33:List (List Rat)),∃(x39:Int),∃(b28:Option Nat),∃(c29:Nat),∃(n30:Nat),∃(g34:List wM),∃(N35:Nat),bV K a0 a1 a2 a3 k x27 x33 x39=some (x40',x46')∧x27.length=n30∧x33.length=N35∧lR g34 x33∧(∀k∈x27,k<N35)∧hs _ ([⟨some p0,1,62,1,1,[pO b28 n30 c29]⟩,⟨some p1,1,114,1,1,[pS aC.cod a2]⟩,⟨some p2,1,113,4,1,(aD.enc a3)⟩,hO (cH g34) b28 c29 24 n30 x27]++iD cQ 44 g34 x33) [(0,.vc (pS cQ a0)),(1,.vc (pF 159 [pP (some p0) 0,pM (cI.e a1)])),(3,.vc (pP (some p2) 0)),(9,.vc (pS aC.cod a2)),(10,.vc (pI .i64 (a2.length:Int))),(11,.vc (pI .i64 x39))] a w) K (fun a w ⟨_,_,_,_,_,_,_,_,hF,_,_,_,_,_⟩=>by cases hF) (fun k a w ⟨x27,x33,x39,b28,c29,n30,g34,N35,hF,q31,q36,q37,q38,hh⟩=>iS ?_ hh) (fun a w hh=>⟨a4,a5,0,b3,c4,n5,g8,N9,hL,q6,q10,q11,q12,cM 4 [0,1,2,3] rfl rfl (by decide) (by exact⟨rfl,rfl,rfl,rfl,rfl,rfl,trivial⟩) hh⟩)
 rw [bV.eq_2] at hF
 refine go ?_ ?_
 refine aJ hF rfl (fun h54 hF=>?_) (fun h54 hF=>?_)
 ·refine go ?_ ?_
  refine aV ?_
  obtain⟨v55,h56,hF⟩:=a9 hF
  refine go ?_ ?_
  refine aN rfl tyZ118q (fun b57=>?_)
  obtain⟨v58,h59,hF⟩:=a9 hF
  refine go ?_ ?_
  refine aN rfl tyZ51q (fun b60=>?_)
  refine go ?_ ?_
  refine aV (go ?_ ?_)
  refine aJ hF rfl (fun h61 hF=>?_) (fun h61 hF=>?_)
  ·obtain⟨v62,h63,hF⟩:=bD hF kD
   obtain⟨v64,h65,hF⟩:=a9 hF
   refine go ?_ ?_
   refine u8 (f:=159) (cs:=[pP (some p0) 0,pM (cI.e a1)]) (pre:=[.vc (pI .i64 x39),.va (eQ v62)]) (xs:=[.tmp 27,.tmp 31]) 6 [2,5] [0,1,3,4] rfl (oU h65 q31 q36 q37 q38) ⟨rfl,rfl,rfl,trivial⟩ rfl rfl rfl (by decide) ?_
   rintro _ _ ⟨b70,c71,n69,g68,N74,q72,q75,q76,q77,rfl,rfl⟩
   refine sA (o9 [⟨some p0,1,62,1,1,[pO b70 n69 c71]⟩,hO (cH g68) b70 c71 24 n69 v64.1] (iD cQ 44 g68 v64.2) [⟨some b60,1,51,18,1,(aA.enc v58)⟩,⟨some b57,1,118,2,1,(aC.enc v55)⟩,⟨some p1,1,114,1,1,[pS aC.cod a2]⟩,⟨some p2,1,113,4,1,(aD.enc a3)⟩]) ?_
   obtain⟨v79,h80,hF⟩:=a9 hF
   refine go ?_ ?_
   exact aL (fun a w hh=>⟨v64.1,v64.2,v79,b70,c71,n69,g68,N74,hF,q72,q75,q76,q77,cM 6 [0,4,5,1] rfl rfl (by decide) (by exact⟨rfl,rfl,rfl,rfl,rfl,rfl,trivial⟩) hh⟩)
  refine go ?_ ?_
  refine aJ hF rfl (fun h81 hF=>?_) (fun h81 hF=>?_)
  ·obtain⟨v82,h83,hF⟩:=bD hF kD
   obtain⟨v84,h85,hF⟩:=a9 hF
   refine go ?_ ?_
   refine u8 (f:=159) (cs:=[pP (some p0) 0,pM (cI.e a1)]) (pre:=[.vc (pI .i64 x39),.va (eQ v82)]) (xs:=[.tmp 36,.tmp 40]) 6 [2,5] [0,1,3,4] rfl (oU h85 q31 q36 q37 q38) ⟨rfl,rfl,rfl,trivial⟩ rfl rfl rfl (by decide) ?_
   rintro _ _ ⟨b90,c91,n89,g88,N94,q92,q95,q96,q97,rfl,rfl⟩
   refine sA (o9 [⟨some p0,1,62,1,1,[pO b90 n89 c91]⟩,hO (cH g88) b90 c91 24 n89 v84.1] (iD cQ 44 g88 v84.2) [⟨some b60,1,51,18,1,(aA.enc v58)⟩,⟨some b57,1,118,2,1,(aC.enc v55)⟩,⟨some p1,1,114,1,1,[pS aC.cod a2]⟩,⟨some p2,1,113,4,1,(aD.enc a3)⟩]) ?_
   obtain⟨v99,h100,hF⟩:=a9 hF
   refine go ?_ ?_
   exact aL (fun a w hh=>⟨v84.1,v84.2,v99,b90,c91,n89,g88,N94,hF,q92,q95,q96,q97,cM 6 [0,4,5,1] rfl rfl (by decide) (by exact⟨rfl,rfl,rfl,rfl,rfl,rfl,trivial⟩) hh⟩)
  refine go ?_ ?_
  refine aJ hF rfl (fun h101 hF=>?_) (fun h101 hF=>?_)
  ·obtain⟨v102,h103,hF⟩:=bD hF kD
   obtain⟨v104,h105,hF⟩:=bD hF pW
   obtain⟨v106,h107,hF⟩:=a9 hF
   refine go ?_ ?_
   refine u8 (f:=159) (cs:=[pP (some p0) 0,pM (cI.e a1)]) (pre:=[.vc (pI .i64 x39),.va (eQ v104)]) (xs:=[.tmp 45,.tmp 50]) 6 [2,5] [0,1,3,4] rfl (oU h107 q31 q36 q37 q38) ⟨rfl,rfl,rfl,trivial⟩ rfl rfl rfl (by decide) ?_
   rintro _ _ ⟨b112,c113,n111,g110,N116,q114,q117,q118,q119,rfl,rfl⟩
   refine sA (o9 [⟨some p0,1,62,1,1,[pO b112 n111 c113]⟩,hO (cH g110) b112 c113 24 n111 v106.1] (iD cQ 44 g110 v106.2) [⟨some b60,1,51,18,1,(aA.enc v58)⟩,⟨some b57,1,118,2,1,(aC.enc v55)⟩,⟨some p1,1,114,1,1,[pS aC.cod a2]⟩,⟨some p2,1,113,4,1,(aD.enc a3)⟩]) ?_
   obtain⟨v121,h122,hF⟩:=a9 hF
   refine go ?_ ?_
   exact aL (fun a w hh=>⟨v106.1,v106.2,v121,b112,c113,n111,g110,N116,hF,q114,q117,q118,q119,cM 6 [0,4,5,1] rfl rfl (by decide) (by exact⟨rfl,rfl,rfl,rfl,rfl,rfl,trivial⟩) hh⟩)
  obtain⟨v123,h124,hF⟩:=a9 hF
  refine go ?_ ?_
  exact aL (fun a w hh=>⟨x27,x33,v123,b28,c29,n30,g34,N35,hF,q31,q36,q37,q38,cM 6 [2,3,4,5] rfl rfl (by decide) (by exact⟨rfl,rfl,rfl,rfl,rfl,rfl,trivial⟩) hh⟩)
 refine dJ ?_
 obtain⟨rfl,rfl⟩:=sm2 hF
 exact oN Jj53 ⟨x27,x33,b28,c29,n30,g34,N35,hRl52,q31,q36,q37,q38,rfl,rfl⟩ 4 [0,1,2,3] rfl rfl trivial
end Go.Proofs.YtcjdedkdoagifaaGreat
