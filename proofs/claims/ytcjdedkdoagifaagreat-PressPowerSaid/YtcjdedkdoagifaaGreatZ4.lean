/- Texts of the proof, part 4: Q1. -/
import Derived.Test.YtcjdedkdoagifaaGreatZ3
set_option linter.unusedVariables false
set_option maxRecDepth 100000
namespace Go.Proofs.YtcjdedkdoagifaaGreat
structure aGj where
 inv:Rat
 load:Rat
 bound:Bool
 lo:Rat
 hi:Rat
noncomputable def aGj.enc (x:aGj):List CP:=(eQ x.inv)++(eQ x.load)++[pB x.bound]++(eQ x.lo)++(eQ x.hi)
noncomputable def aGj.cod:Cd aGj:=⟨17,aGj.enc,fun _=>rfl⟩
structure aG where
 inv:Rat
 load:Rat
 bound:Bool
 lo:Rat
 hi:Rat
noncomputable def aG.enc (x:aG):List CP:=(eQ x.inv)++(eQ x.load)++[pB x.bound]++(eQ x.lo)++(eQ x.hi)
noncomputable def aG.cod:Cd aG:=⟨17,aG.enc,fun _=>rfl⟩
structure aE where
 dof:Int
 k:Rat
noncomputable def aE.enc (x:aE):List CP:=[pI .i64 x.dof]++(eQ x.k)
noncomputable def aE.cod:Cd aE:=⟨5,aE.enc,fun _=>rfl⟩
structure aA where
 kind:Int
 a:Int
 b:Int
 edge:Int
 gap:Rat
 j:List aE
 t:List aE
 mu:Rat
 e:Rat
noncomputable def aA.enc (x:aA):List CP:=[pI .i64 x.kind]++[pI .i64 x.a]++[pI .i64 x.b]++[pI .i64 x.edge]++(eQ x.gap)++[pS aE.cod x.j]++[pS aE.cod x.t]++(eQ x.mu)++(eQ x.e)
noncomputable def aA.cod:Cd aA:=⟨18,aA.enc,fun _=>rfl⟩
structure aGS where
 dofs:List aG
 load:List Rat
 v:List Rat
 rows:List aA
noncomputable def aGS.enc (x:aGS):List CP:=[pS aG.cod x.dofs]++[pS cQ x.load]++[pS cQ x.v]++[pS aA.cod x.rows]
noncomputable def aGS.cod:Cd aGS:=⟨4,aGS.enc,fun _=>rfl⟩
structure aF2 where
 row:Int
 kind:Int
noncomputable def aF2.enc (x:aF2):List CP:=[pI .i64 x.row]++[pI .i64 x.kind]
noncomputable def aF2.cod:Cd aF2:=⟨2,aF2.enc,fun _=>rfl⟩
structure aHa where
 n:Int
 rows:List (List Rat)
 basic:List Int
noncomputable def aHa.enc (x:aHa):List CP:=[pI .i64 x.n]++[pS (wD cQ) x.rows]++[pS cI x.basic]
noncomputable def aHa.cod:Cd aHa:=⟨3,aHa.enc,fun _=>rfl⟩
structure aGJ where
 row:Int
 kind:Int
noncomputable def aGJ.enc (x:aGJ):List CP:=[pI .i64 x.row]++[pI .i64 x.kind]
noncomputable def aGJ.cod:Cd aGJ:=⟨2,aGJ.enc,fun _=>rfl⟩
structure aKW where
 dofs:List aG
 load:List Rat
 v:List Rat
 rows:List aA
noncomputable def aKW.enc (x:aKW):List CP:=[pS aG.cod x.dofs]++[pS cQ x.load]++[pS cQ x.v]++[pS aA.cod x.rows]
noncomputable def aKW.cod:Cd aKW:=⟨4,aKW.enc,fun _=>rfl⟩
structure aKd where
 kind:Int
 a:Int
 b:Int
 edge:Int
 gap:Rat
 j:List aE
 t:List aE
 mu:Rat
 e:Rat
noncomputable def aKd.enc (x:aKd):List CP:=[pI .i64 x.kind]++[pI .i64 x.a]++[pI .i64 x.b]++[pI .i64 x.edge]++(eQ x.gap)++[pS aE.cod x.j]++[pS aE.cod x.t]++(eQ x.mu)++(eQ x.e)
noncomputable def aKd.cod:Cd aKd:=⟨18,aKd.enc,fun _=>rfl⟩
structure aKE where
 n:Rat
 f:Rat
noncomputable def aKE.enc (x:aKE):List CP:=(eQ x.n)++(eQ x.f)
noncomputable def aKE.cod:Cd aKE:=⟨8,aKE.enc,fun _=>rfl⟩
structure aLC where
 z:List Rat
 w:List Rat
 pivots:Int
noncomputable def aLC.enc (x:aLC):List CP:=[pS cQ x.z]++[pS cQ x.w]++[pI .i64 x.pivots]
noncomputable def aLC.cod:Cd aLC:=⟨3,aLC.enc,fun _=>rfl⟩
structure aLv where
 dof:Int
 k:Rat
noncomputable def aLv.enc (x:aLv):List CP:=[pI .i64 x.dof]++(eQ x.k)
noncomputable def aLv.cod:Cd aLv:=⟨5,aLv.enc,fun _=>rfl⟩
structure aN where
 z:List Rat
 w:List Rat
 pivots:Int
noncomputable def aN.enc (x:aN):List CP:=[pS cQ x.z]++[pS cQ x.w]++[pI .i64 x.pivots]
noncomputable def aN.cod:Cd aN:=⟨3,aN.enc,fun _=>rfl⟩
structure aF where
 n:Rat
 f:Rat
noncomputable def aF.enc (x:aF):List CP:=(eQ x.n)++(eQ x.f)
noncomputable def aF.cod:Cd aF:=⟨8,aF.enc,fun _=>rfl⟩
structure nU where
 n:Int
 rows:List (List Rat)
 basic:List Int
noncomputable def nU.enc (x:nU):List CP:=[pI .i64 x.n]++[pS (wD cQ) x.rows]++[pS cI x.basic]
noncomputable def nU.cod:Cd nU:=⟨3,nU.enc,fun _=>rfl⟩
structure aL where
 dofs:List aG
 load:List Rat
 v:List Rat
 rows:List aA
noncomputable def aL.enc (x:aL):List CP:=[pS aG.cod x.dofs]++[pS cQ x.load]++[pS cQ x.v]++[pS aA.cod x.rows]
noncomputable def aL.cod:Cd aL:=⟨4,aL.enc,fun _=>rfl⟩
structure aQ where
 row:Int
 kind:Int
noncomputable def aQ.enc (x:aQ):List CP:=[pI .i64 x.row]++[pI .i64 x.kind]
noncomputable def aQ.cod:Cd aQ:=⟨2,aQ.enc,fun _=>rfl⟩
structure aD where
 dofs:List aG
 load:List Rat
 v:List Rat
 rows:List aA
noncomputable def aD.enc (x:aD):List CP:=[pS aG.cod x.dofs]++[pS cQ x.load]++[pS cQ x.v]++[pS aA.cod x.rows]
noncomputable def aD.cod:Cd aD:=⟨4,aD.enc,fun _=>rfl⟩
structure aC where
 row:Int
 kind:Int
noncomputable def aC.enc (x:aC):List CP:=[pI .i64 x.row]++[pI .i64 x.kind]
noncomputable def aC.cod:Cd aC:=⟨2,aC.enc,fun _=>rfl⟩
instance tyA108:TyA Tryz.prog 108 17:=mkA Tryz.underlying108 rfl (by kernel_rfl)
instance tyA113:TyA Tryz.prog 113 4:=mkA Tryz.underlying113 rfl (by kernel_rfl)
instance tyA118:TyA Tryz.prog 118 2:=mkA Tryz.underlying118 rfl (by kernel_rfl)
instance tyA27:TyA Tryz.prog 27 4:=mkA Tryz.underlying27 rfl (by kernel_rfl)
instance tyA51:TyA Tryz.prog 51 18:=mkA Tryz.underlying51 rfl (by kernel_rfl)
instance tyA58:TyA Tryz.prog 58 8:=mkA Tryz.underlying58 rfl (by kernel_rfl)
instance tyA68:TyA Tryz.prog 68 3:=mkA Tryz.underlying68 rfl (by kernel_rfl)
instance tyA92:TyA Tryz.prog 92 5:=mkA Tryz.underlying92 rfl (by kernel_rfl)
theorem tyB108q:TyB Tryz.prog 108 [(0,4),(4,4),(8,1),(9,4),(13,4)] ((eQ 0)++(eQ 0)++[pB false]++(eQ 0)++(eQ 0)):=mkB (z:=.agg #[.bool false,.slice none 0 0,.bool false,.slice none 0 0,.bool false,.slice none 0 0,.bool false,.slice none 0 0,.bool false,.bool false,.slice none 0 0,.bool false,.slice none 0 0,.bool false,.slice none 0 0,.bool false,.slice none 0 0]) (by kernel_rfl) Tryz.underlying108 (by kernel_rfl) (fun M=>aZ.app (aZ.app (aZ.app (aZ.app (eQ0 M) (eQ0 M)) (show aZ M [pB false] [.bool false] from zU1)) (eQ0 M)) (eQ0 M))
theorem tyB113q:TyB Tryz.prog 113 [(0,1),(1,1),(2,1),(3,1)] ([pS aG.cod ([]:List aG)]++[pS cQ ([]:List Rat)]++[pS cQ ([]:List Rat)]++[pS aA.cod ([]:List aA)]):=mkB (z:=.agg #[.slice none 0 0,.slice none 0 0,.slice none 0 0,.slice none 0 0]) (by kernel_rfl) Tryz.underlying113 (by kernel_rfl) (fun M=>aZ.app (aZ.app (aZ.app (show aZ M [pS aG.cod ([]:List aG)] [.slice none 0 0] from⟨eD aG.cod M,trivial⟩) (show aZ M [pS cQ ([]:List Rat)] [.slice none 0 0] from⟨eD cQ M,trivial⟩)) (show aZ M [pS cQ ([]:List Rat)] [.slice none 0 0] from⟨eD cQ M,trivial⟩)) (show aZ M [pS aA.cod ([]:List aA)] [.slice none 0 0] from⟨eD aA.cod M,trivial⟩))
theorem tyB118q:TyB Tryz.prog 118 [(0,1),(1,1)] ([pI .i64 0]++[pI .i64 0]):=mkB (z:=.agg #[.int .i64 0,.int .i64 0]) (by kernel_rfl) Tryz.underlying118 (by kernel_rfl) (fun M=>aZ.app (show aZ M [pI .i64 0] [.int .i64 0] from zU1) (show aZ M [pI .i64 0] [.int .i64 0] from zU1))
theorem tyB151_o1_o2q:TyB Tryz.prog 151 [(0,1),(1,1),(2,1)] ([pI .i64 0]++[pO none 0 0]++[pO none 0 0]):=mkB (z:=.agg #[.int .i64 0,.slice none 0 0,.slice none 0 0]) (by kernel_rfl) Tryz.underlying151 (by kernel_rfl) (fun M=>aZ.app (aZ.app (show aZ M [pI .i64 0] [.int .i64 0] from zU1) (show aZ M [pO none 0 0] [.slice none 0 0] from⟨.inl rfl,trivial⟩)) (show aZ M [pO none 0 0] [.slice none 0 0] from⟨.inl rfl,trivial⟩))
theorem tyB27q:TyB Tryz.prog 27 [(0,1),(1,1),(2,1),(3,1)] ([pS aG.cod ([]:List aG)]++[pS cQ ([]:List Rat)]++[pS cQ ([]:List Rat)]++[pS aA.cod ([]:List aA)]):=mkB (z:=.agg #[.slice none 0 0,.slice none 0 0,.slice none 0 0,.slice none 0 0]) (by kernel_rfl) Tryz.underlying27 (by kernel_rfl) (fun M=>aZ.app (aZ.app (aZ.app (show aZ M [pS aG.cod ([]:List aG)] [.slice none 0 0] from⟨eD aG.cod M,trivial⟩) (show aZ M [pS cQ ([]:List Rat)] [.slice none 0 0] from⟨eD cQ M,trivial⟩)) (show aZ M [pS cQ ([]:List Rat)] [.slice none 0 0] from⟨eD cQ M,trivial⟩)) (show aZ M [pS aA.cod ([]:List aA)] [.slice none 0 0] from⟨eD aA.cod M,trivial⟩))
theorem tyB44q:TyB Tryz.prog 44 [(0,2),(2,2)] (eQ 0):=mkB (z:=.agg #[.bool false,.slice none 0 0,.bool false,.slice none 0 0]) (by kernel_rfl) Tryz.underlying44 (by kernel_rfl) (fun M=>eQ0 M)
theorem tyB51q:TyB Tryz.prog 51 [(0,1),(1,1),(2,1),(3,1),(4,4),(8,1),(9,1),(10,4),(14,4)] ([pI .i64 0]++[pI .i64 0]++[pI .i64 0]++[pI .i64 0]++(eQ 0)++[pS aE.cod ([]:List aE)]++[pS aE.cod ([]:List aE)]++(eQ 0)++(eQ 0)):=mkB (z:=.agg #[.int .i64 0,.int .i64 0,.int .i64 0,.int .i64 0,.bool false,.slice none 0 0,.bool false,.slice none 0 0,.slice none 0 0,.slice none 0 0,.bool false,.slice none 0 0,.bool false,.slice none 0 0,.bool false,.slice none 0 0,.bool false,.slice none 0 0]) (by kernel_rfl) Tryz.underlying51 (by kernel_rfl) (fun M=>aZ.app (aZ.app (aZ.app (aZ.app (aZ.app (aZ.app (aZ.app (aZ.app (show aZ M [pI .i64 0] [.int .i64 0] from zU1) (show aZ M [pI .i64 0] [.int .i64 0] from zU1)) (show aZ M [pI .i64 0] [.int .i64 0] from zU1)) (show aZ M [pI .i64 0] [.int .i64 0] from zU1)) (eQ0 M)) (show aZ M [pS aE.cod ([]:List aE)] [.slice none 0 0] from⟨eD aE.cod M,trivial⟩)) (show aZ M [pS aE.cod ([]:List aE)] [.slice none 0 0] from⟨eD aE.cod M,trivial⟩)) (eQ0 M)) (eQ0 M))
theorem tyB68q:TyB Tryz.prog 68 [(0,1),(1,1),(2,1)] ([pS cQ ([]:List Rat)]++[pS cQ ([]:List Rat)]++[pI .i64 0]):=mkB (z:=.agg #[.slice none 0 0,.slice none 0 0,.int .i64 0]) (by kernel_rfl) Tryz.underlying68 (by kernel_rfl) (fun M=>aZ.app (aZ.app (show aZ M [pS cQ ([]:List Rat)] [.slice none 0 0] from⟨eD cQ M,trivial⟩) (show aZ M [pS cQ ([]:List Rat)] [.slice none 0 0] from⟨eD cQ M,trivial⟩)) (show aZ M [pI .i64 0] [.int .i64 0] from zU1))
theorem tyB92q:TyB Tryz.prog 92 [(0,1),(1,4)] ([pI .i64 0]++(eQ 0)):=mkB (z:=.agg #[.int .i64 0,.bool false,.slice none 0 0,.bool false,.slice none 0 0]) (by kernel_rfl) Tryz.underlying92 (by kernel_rfl) (fun M=>aZ.app (show aZ M [pI .i64 0] [.int .i64 0] from zU1) (eQ0 M))
instance tyF108_0:TyF Tryz.prog 108 0 0:=mkF (ft:=44) (k:=3) Tryz.underlying108 rfl rfl rfl (by kernel_rfl)
instance tyF113_0:TyF Tryz.prog 113 0 0:=mkF (ft:=23) (k:=0) Tryz.underlying113 rfl rfl rfl (by kernel_rfl)
instance tyF113_1:TyF Tryz.prog 113 1 1:=mkF (ft:=24) (k:=0) Tryz.underlying113 rfl rfl rfl (by kernel_rfl)
instance tyF113_2:TyF Tryz.prog 113 2 2:=mkF (ft:=24) (k:=0) Tryz.underlying113 rfl rfl rfl (by kernel_rfl)
instance tyF113_3:TyF Tryz.prog 113 3 3:=mkF (ft:=25) (k:=0) Tryz.underlying113 rfl rfl rfl (by kernel_rfl)
instance tyF118_0:TyF Tryz.prog 118 0 0:=mkF (ft:=3) (k:=0) Tryz.underlying118 rfl rfl rfl (by kernel_rfl)
instance tyF118_1:TyF Tryz.prog 118 1 1:=mkF (ft:=3) (k:=0) Tryz.underlying118 rfl rfl rfl (by kernel_rfl)
instance tyF151_0:TyF Tryz.prog 151 0 0:=mkF (ft:=3) (k:=0) Tryz.underlying151 rfl rfl rfl (by kernel_rfl)
instance tyF151_1:TyF Tryz.prog 151 1 1:=mkF (ft:=62) (k:=0) Tryz.underlying151 rfl rfl rfl (by kernel_rfl)
instance tyF151_2:TyF Tryz.prog 151 2 2:=mkF (ft:=22) (k:=0) Tryz.underlying151 rfl rfl rfl (by kernel_rfl)
instance tyF154_0:TyF Tryz.prog 154 0 0:=mkF (ft:=3) (k:=0) Tryz.underlying154 rfl rfl rfl (by kernel_rfl)
instance tyF154_1:TyF Tryz.prog 154 1 1:=mkF (ft:=3) (k:=0) Tryz.underlying154 rfl rfl rfl (by kernel_rfl)
instance tyF27_0:TyF Tryz.prog 27 0 0:=mkF (ft:=23) (k:=0) Tryz.underlying27 rfl rfl rfl (by kernel_rfl)
instance tyF27_1:TyF Tryz.prog 27 1 1:=mkF (ft:=24) (k:=0) Tryz.underlying27 rfl rfl rfl (by kernel_rfl)
instance tyF27_2:TyF Tryz.prog 27 2 2:=mkF (ft:=24) (k:=0) Tryz.underlying27 rfl rfl rfl (by kernel_rfl)
instance tyF27_3:TyF Tryz.prog 27 3 3:=mkF (ft:=25) (k:=0) Tryz.underlying27 rfl rfl rfl (by kernel_rfl)
instance tyF51_5:TyF Tryz.prog 51 5 8:=mkF (ft:=49) (k:=0) Tryz.underlying51 rfl rfl rfl (by kernel_rfl)
instance tyF51_6:TyF Tryz.prog 51 6 9:=mkF (ft:=49) (k:=0) Tryz.underlying51 rfl rfl rfl (by kernel_rfl)
instance tyF51_7:TyF Tryz.prog 51 7 10:=mkF (ft:=44) (k:=3) Tryz.underlying51 rfl rfl rfl (by kernel_rfl)
instance tyF58_0:TyF Tryz.prog 58 0 0:=mkF (ft:=44) (k:=3) Tryz.underlying58 rfl rfl rfl (by kernel_rfl)
instance tyF58_1:TyF Tryz.prog 58 1 4:=mkF (ft:=44) (k:=3) Tryz.underlying58 rfl rfl rfl (by kernel_rfl)
instance tyF68_0:TyF Tryz.prog 68 0 0:=mkF (ft:=24) (k:=0) Tryz.underlying68 rfl rfl rfl (by kernel_rfl)
instance tyF68_1:TyF Tryz.prog 68 1 1:=mkF (ft:=24) (k:=0) Tryz.underlying68 rfl rfl rfl (by kernel_rfl)
instance tyF68_2:TyF Tryz.prog 68 2 2:=mkF (ft:=3) (k:=0) Tryz.underlying68 rfl rfl rfl (by kernel_rfl)
instance tyF92_0:TyF Tryz.prog 92 0 0:=mkF (ft:=3) (k:=0) Tryz.underlying92 rfl rfl rfl (by kernel_rfl)
instance tyF92_1:TyF Tryz.prog 92 1 1:=mkF (ft:=44) (k:=3) Tryz.underlying92 rfl rfl rfl (by kernel_rfl)
instance tyO114:Ty1 Tryz.prog 114:=mk1 Tryz.underlying114 rfl (by kernel_rfl)
instance tyO23:Ty1 Tryz.prog 23:=mk1 Tryz.underlying23 rfl (by kernel_rfl)
instance tyO24:Ty1 Tryz.prog 24:=mk1 Tryz.underlying24 rfl (by kernel_rfl)
instance tyO25:Ty1 Tryz.prog 25:=mk1 Tryz.underlying25 rfl (by kernel_rfl)
instance tyO49:Ty1 Tryz.prog 49:=mk1 Tryz.underlying49 rfl (by kernel_rfl)
instance tyO62:Ty1 Tryz.prog 62:=mk1 Tryz.underlying62 rfl (by kernel_rfl)
theorem tyQ118:TyQ Tryz.prog 118:=mkQ Tryz.underlying118 (by kernel_rfl) (by kernel_rfl) rfl (by decide) (by decide) rfl rfl Tryz.underlying3 Tryz.underlying3
instance tyS114:TyS Tryz.prog 114 118 2 16:=mkS (z:=.agg #[.int .i64 0,.int .i64 0]) (k:=1) Tryz.underlying114 (by kernel_rfl) rfl
instance tyS142:TyS Tryz.prog 142 154 2 16:=mkS (z:=.agg #[.int .i64 0,.int .i64 0]) (k:=1) Tryz.underlying142 (by kernel_rfl) rfl
instance tyS23:TyS Tryz.prog 23 108 17 264:=mkS (z:=.agg #[.bool false,.slice none 0 0,.bool false,.slice none 0 0,.bool false,.slice none 0 0,.bool false,.slice none 0 0,.bool false,.bool false,.slice none 0 0,.bool false,.slice none 0 0,.bool false,.slice none 0 0,.bool false,.slice none 0 0]) (k:=16) Tryz.underlying23 (by kernel_rfl) rfl
instance tyS24:TyS Tryz.prog 24 44 4 64:=mkS (z:=.agg #[.bool false,.slice none 0 0,.bool false,.slice none 0 0]) (k:=3) Tryz.underlying24 (by kernel_rfl) rfl
instance tyS25:TyS Tryz.prog 25 51 18 272:=mkS (z:=.agg #[.int .i64 0,.int .i64 0,.int .i64 0,.int .i64 0,.bool false,.slice none 0 0,.bool false,.slice none 0 0,.slice none 0 0,.slice none 0 0,.bool false,.slice none 0 0,.bool false,.slice none 0 0,.bool false,.slice none 0 0,.bool false,.slice none 0 0]) (k:=17) Tryz.underlying25 (by kernel_rfl) rfl
instance tyS29:TyS Tryz.prog 29 58 8 128:=mkS (z:=.agg #[.bool false,.slice none 0 0,.bool false,.slice none 0 0,.bool false,.slice none 0 0,.bool false,.slice none 0 0]) (k:=7) Tryz.underlying29 (by kernel_rfl) rfl
instance tyS49:TyS Tryz.prog 49 92 5 72:=mkS (z:=.agg #[.int .i64 0,.bool false,.slice none 0 0,.bool false,.slice none 0 0]) (k:=4) Tryz.underlying49 (by kernel_rfl) rfl
instance tyS62:TyS Tryz.prog 62 24 1 24:=mkS (z:=.slice none 0 0) (k:=0) Tryz.underlying62 (by kernel_rfl) rfl
instance tyZ108q:TyZ Tryz.prog 108 ((eQ 0)++(eQ 0)++[pB false]++(eQ 0)++(eQ 0)):=mkZ (z:=.agg #[.bool false,.slice none 0 0,.bool false,.slice none 0 0,.bool false,.slice none 0 0,.bool false,.slice none 0 0,.bool false,.bool false,.slice none 0 0,.bool false,.slice none 0 0,.bool false,.slice none 0 0,.bool false,.slice none 0 0]) (k:=17) (by kernel_rfl) rfl (fun M=>aZ.app (aZ.app (aZ.app (aZ.app (eQ0 M) (eQ0 M)) (show aZ M [pB false] [.bool false] from zU1)) (eQ0 M)) (eQ0 M))
instance tyZ113q:TyZ Tryz.prog 113 ([pS aG.cod ([]:List aG)]++[pS cQ ([]:List Rat)]++[pS cQ ([]:List Rat)]++[pS aA.cod ([]:List aA)]):=mkZ (z:=.agg #[.slice none 0 0,.slice none 0 0,.slice none 0 0,.slice none 0 0]) (k:=4) (by kernel_rfl) rfl (fun M=>aZ.app (aZ.app (aZ.app (show aZ M [pS aG.cod ([]:List aG)] [.slice none 0 0] from⟨eD aG.cod M,trivial⟩) (show aZ M [pS cQ ([]:List Rat)] [.slice none 0 0] from⟨eD cQ M,trivial⟩)) (show aZ M [pS cQ ([]:List Rat)] [.slice none 0 0] from⟨eD cQ M,trivial⟩)) (show aZ M [pS aA.cod ([]:List aA)] [.slice none 0 0] from⟨eD aA.cod M,trivial⟩))
instance tyZ114q:TyZ Tryz.prog 114 [pS aC.cod ([]:List aC)]:=mkZ (z:=.slice none 0 0) (k:=1) (by kernel_rfl) rfl (fun M=>show aZ M [pS aC.cod ([]:List aC)] [.slice none 0 0] from⟨eD aC.cod M,trivial⟩)
instance tyZ118q:TyZ Tryz.prog 118 ([pI .i64 0]++[pI .i64 0]):=mkZ (z:=.agg #[.int .i64 0,.int .i64 0]) (k:=2) (by kernel_rfl) rfl (fun M=>aZ.app (show aZ M [pI .i64 0] [.int .i64 0] from zU1) (show aZ M [pI .i64 0] [.int .i64 0] from zU1))
instance tyZ24q:TyZ Tryz.prog 24 [pS cQ ([]:List Rat)]:=mkZ (z:=.slice none 0 0) (k:=1) (by kernel_rfl) rfl (fun M=>show aZ M [pS cQ ([]:List Rat)] [.slice none 0 0] from⟨eD cQ M,trivial⟩)
theorem tyZ24_oq:TyZ Tryz.prog 24 [pO none 0 0]:=mkZ (z:=.slice none 0 0) (k:=1) (by kernel_rfl) rfl (fun M=>show aZ M [pO none 0 0] [.slice none 0 0] from⟨.inl rfl,trivial⟩)
instance tyZ27q:TyZ Tryz.prog 27 ([pS aG.cod ([]:List aG)]++[pS cQ ([]:List Rat)]++[pS cQ ([]:List Rat)]++[pS aA.cod ([]:List aA)]):=mkZ (z:=.agg #[.slice none 0 0,.slice none 0 0,.slice none 0 0,.slice none 0 0]) (k:=4) (by kernel_rfl) rfl (fun M=>aZ.app (aZ.app (aZ.app (show aZ M [pS aG.cod ([]:List aG)] [.slice none 0 0] from⟨eD aG.cod M,trivial⟩) (show aZ M [pS cQ ([]:List Rat)] [.slice none 0 0] from⟨eD cQ M,trivial⟩)) (show aZ M [pS cQ ([]:List Rat)] [.slice none 0 0] from⟨eD cQ M,trivial⟩)) (show aZ M [pS aA.cod ([]:List aA)] [.slice none 0 0] from⟨eD aA.cod M,trivial⟩))
theorem tyZ27_o0_o1_o2_o3q:TyZ Tryz.prog 27 ([pO none 0 0]++[pO none 0 0]++[pO none 0 0]++[pO none 0 0]):=mkZ (z:=.agg #[.slice none 0 0,.slice none 0 0,.slice none 0 0,.slice none 0 0]) (k:=4) (by kernel_rfl) rfl (fun M=>aZ.app (aZ.app (aZ.app (show aZ M [pO none 0 0] [.slice none 0 0] from⟨.inl rfl,trivial⟩) (show aZ M [pO none 0 0] [.slice none 0 0] from⟨.inl rfl,trivial⟩)) (show aZ M [pO none 0 0] [.slice none 0 0] from⟨.inl rfl,trivial⟩)) (show aZ M [pO none 0 0] [.slice none 0 0] from⟨.inl rfl,trivial⟩))
instance tyZ3q:TyZ Tryz.prog 3 [pI .i64 0]:=mkZ (z:=.int .i64 0) (k:=1) (by kernel_rfl) rfl (fun M=>show aZ M [pI .i64 0] [.int .i64 0] from zU1)
instance tyZ44q:TyZ Tryz.prog 44 (eQ 0):=mkZ (z:=.agg #[.bool false,.slice none 0 0,.bool false,.slice none 0 0]) (k:=4) (by kernel_rfl) rfl (fun M=>eQ0 M)
instance tyZ51q:TyZ Tryz.prog 51 ([pI .i64 0]++[pI .i64 0]++[pI .i64 0]++[pI .i64 0]++(eQ 0)++[pS aE.cod ([]:List aE)]++[pS aE.cod ([]:List aE)]++(eQ 0)++(eQ 0)):=mkZ (z:=.agg #[.int .i64 0,.int .i64 0,.int .i64 0,.int .i64 0,.bool false,.slice none 0 0,.bool false,.slice none 0 0,.slice none 0 0,.slice none 0 0,.bool false,.slice none 0 0,.bool false,.slice none 0 0,.bool false,.slice none 0 0,.bool false,.slice none 0 0]) (k:=18) (by kernel_rfl) rfl (fun M=>aZ.app (aZ.app (aZ.app (aZ.app (aZ.app (aZ.app (aZ.app (aZ.app (show aZ M [pI .i64 0] [.int .i64 0] from zU1) (show aZ M [pI .i64 0] [.int .i64 0] from zU1)) (show aZ M [pI .i64 0] [.int .i64 0] from zU1)) (show aZ M [pI .i64 0] [.int .i64 0] from zU1)) (eQ0 M)) (show aZ M [pS aE.cod ([]:List aE)] [.slice none 0 0] from⟨eD aE.cod M,trivial⟩)) (show aZ M [pS aE.cod ([]:List aE)] [.slice none 0 0] from⟨eD aE.cod M,trivial⟩)) (eQ0 M)) (eQ0 M))
instance tyZ58q:TyZ Tryz.prog 58 ((eQ 0)++(eQ 0)):=mkZ (z:=.agg #[.bool false,.slice none 0 0,.bool false,.slice none 0 0,.bool false,.slice none 0 0,.bool false,.slice none 0 0]) (k:=8) (by kernel_rfl) rfl (fun M=>aZ.app (eQ0 M) (eQ0 M))
instance tyZ62q:TyZ Tryz.prog 62 [pS (wD cQ) ([]:List (List Rat))]:=mkZ (z:=.slice none 0 0) (k:=1) (by kernel_rfl) rfl (fun M=>show aZ M [pS (wD cQ) ([]:List (List Rat))] [.slice none 0 0] from⟨eD (wD cQ) M,trivial⟩)
instance tyZ68q:TyZ Tryz.prog 68 ([pS cQ ([]:List Rat)]++[pS cQ ([]:List Rat)]++[pI .i64 0]):=mkZ (z:=.agg #[.slice none 0 0,.slice none 0 0,.int .i64 0]) (k:=3) (by kernel_rfl) rfl (fun M=>aZ.app (aZ.app (show aZ M [pS cQ ([]:List Rat)] [.slice none 0 0] from⟨eD cQ M,trivial⟩) (show aZ M [pS cQ ([]:List Rat)] [.slice none 0 0] from⟨eD cQ M,trivial⟩)) (show aZ M [pI .i64 0] [.int .i64 0] from zU1))
instance tyZ92q:TyZ Tryz.prog 92 ([pI .i64 0]++(eQ 0)):=mkZ (z:=.agg #[.int .i64 0,.bool false,.slice none 0 0,.bool false,.slice none 0 0]) (k:=5) (by kernel_rfl) rfl (fun M=>aZ.app (show aZ M [pI .i64 0] [.int .i64 0] from zU1) (eQ0 M))
def mL (a0:Int) (a1:Int):Option Int:=
 bif(decide (a0<0)) then((aP (a0+1)).bind fun v2=>(aP (-v2)).bind fun v4=>(vA v4 a1).bind fun v6=>some v6) else((vA a0 a1).bind fun v8=>some v8)
theorem zR {a0:Int} {a1:Int} {r:Int} (hF:mL a0 a1=some r):Ct Tryz.prog 24 [.vc (pI .i64 a0),.vc (pI .i64 a1)] (.vc (pI .i64 r)):=by
 unfold mL at hF
 refine aI Tryz.func24 rfl (by kernel_rfl) Tryz.ntmps24 rfl (fun w0 M0=>?_)
 refine go ?_ ?_
 refine aJ hF rfl (fun h1 hF=>?_) (fun h1 hF=>?_)
 ·obtain⟨v2,h3,v4,h5,v6,h7,hF⟩:=bn3 hF
  exact cG
 obtain⟨v8,h9,hF⟩:=bB hF
 exact cG
def bG (a0:List Int) (a1:Int) (a2:Int):Option Int:=
 bif(decide (a1<0)) then(some 0) else(bif(decide ((a0.length:Int)≤a1)) then(some 0) else((bK a0 a1).bind fun v3=>(mL v3 a2).bind fun v5=>some v5))
theorem cY {a0:List Int} {a1:Int} {a2:Int} {r:Int} (hF:bG a0 a1 a2=some r):Ct Tryz.prog 26 [.vc (pS cI a0),.vc (pI .i64 a1),.vc (pI .i64 a2)] (.vc (pI .i64 r)):=by
 unfold bG at hF
 refine aI Tryz.func26 rfl (by kernel_rfl) Tryz.ntmps26 rfl (fun w0 M0=>?_)
 refine go ?_ ?_
 refine d7 hF (fun h1 hF=>?_) (fun h1 hF=>?_)
 ·refine go ?_ ?_
  refine lX rfl ?_
  exact cG
 refine go ?_ ?_
 refine aJ hF rfl (fun h2 hF=>?_) (fun h2 hF=>?_)
 ·exact cG
 obtain⟨v3,h4,hF⟩:=bB hF
 obtain⟨v5,h6,hF⟩:=bC hF zR
 exact cG
def nM (K:Nat) (x19:List aE):Option (List aE):=
 some x19
def eA (K:Nat) (a1:Int):Nat→(List aE)→Int→Int→Option (List aE)
 |0,_,_,_=>none
 |k+1,x11,x17,x18=>bif(decide (x18<a1)) then((vA x17 7).bind fun v28=>(bK [0,1,(-1),0,2,(-1),1] v28).bind fun v30=>(vT x17 7).bind fun v32=>bif(v30 != 0) then((vA v32 3).bind fun v35=>(aP (1+v35)).bind fun v37=>(zJ v30 v37).bind fun v39=>(qW x11 [(⟨x18,v39⟩:aE)]).bind fun x41=>(vT v32 3).bind fun v48=>(aP (x18+1)).bind fun v50=>eA K a1 k x41 v48 v50) else((vT v32 3).bind fun v52=>(aP (x18+1)).bind fun v54=>eA K a1 k x11 v52 v54)) else(some x11)
def dW (K:Nat) (a0:Int) (a1:Int):Option (List aE):=
 (eA K a1 K ([]:List aE) a0 0).bind fun x19=>nM K x19
theorem nA {K:Nat} {a0:Int} {a1:Int} {r:List aE} (hF:dW K a0 a1=some r):Ct Tryz.prog 67 [.vc (pI .i64 a0),.vc (pI .i64 a1)] (.vc (pS aE.cod r)):=by
 unfold dW at hF
 refine aI Tryz.func67 rfl (by kernel_rfl) Tryz.ntmps67 rfl (fun w0 M0=>?_)
 refine aO (aY (aV (bS (.inr rfl)) ⟨eD aE.cod,trivial⟩ ?_))
 refine bU (aU (aO (aY (xG aE.cod 92 rfl ?_))))
 refine go ?_ ?_
 refine aT (cJ (fun H E=>∃(x19:List aE),∃(b20:Option Nat),∃(c21:Nat),∃(n22:Nat),nM K x19=some r∧x19.length=n22∧H=[hO aE.cod b20 c21 92 n22 x19]∧E=[(5,.vc (pO b20 n22 c21))]) ?_ (fun Jj26=>?_))
 ·rintro _ _ ⟨x19,b20,c21,n22,hF,q23,rfl,rfl⟩
  unfold nM at hF
  refine go ?_ ?_
  refine rW (r5 (yG 0 [4,5,34] rfl q23 ⟨rfl,rfl,rfl,trivial⟩ rfl ?_))
  obtain rfl:=p9 hF
  exact sD (.inl rfl) Tryz.results67 (.tmp rfl .nil) rfl rfl
 obtain⟨x19',hL,hRl25⟩:=bB hF
 refine jE (fun k a w=>∃(x11:List aE),∃(x17:Int),∃(x18:Int),∃(b12:Option Nat),∃(c13:Nat),∃(n14:Nat),eA K a1 k x11 x17 x18=some x19'∧x11.length=n14∧hs _ [hO aE.cod b12 c13 92 n14 x11] [(0,.vc (pI .i64 x17)),(1,.vc (pI .i64 a1)),(5,.vc (pO b12 n14 c13)),(6,.vc (pI .i64 x18))] a w) K (fun a w ⟨_,_,_,_,_,_,hF,_,_⟩=>by cases hF) (fun k a w ⟨x11,x17,x18,b12,c13,n14,hF,q15,hh⟩=>jI ?_ hh) (fun a w hh=>⟨([]:List aE),a0,0,none,0,0,hL,rfl,iN [0] hh⟩)
 rw [eA.eq_2] at hF
 refine go ?_ ?_
 refine aJ hF rfl (fun h27 hF=>?_) (fun h27 hF=>?_)
 ·refine go ?_ ?_
  refine aT (aO (aY (aV (sO (C:=cI) (xs:=[.const (.int .i64 (0)),.const (.int .i64 (1)),.const (.int .i64 (-1)),.const (.int .i64 (0)),.const (.int .i64 (2)),.const (.int .i64 (-1)),.const (.int .i64 (1))]) (ps:=[.vc (pI .i64 0),.vc (pI .i64 1),.vc (pI .i64 (-1)),.vc (pI .i64 0),.vc (pI .i64 2),.vc (pI .i64 (-1)),.vc (pI .i64 1)]) (zs:=[0,1,(-1),0,2,(-1),1]) rfl tyS22 rfl ⟨⟨trivial,rfl⟩,⟨trivial,rfl⟩,⟨trivial,rfl⟩,⟨trivial,rfl⟩,⟨trivial,rfl⟩,⟨trivial,rfl⟩,⟨trivial,rfl⟩,trivial⟩ rfl) ⟨kC _ _,kC _ _,kC _ _,kC _ _,kC _ _,kC _ _,kC _ _,trivial⟩ ?_)))
  obtain⟨v28,h29,v30,h31,v32,h33,hF⟩:=bn3 hF
  refine go ?_ ?_
  refine aJ hF rfl (fun h34 hF=>?_) (fun h34 hF=>?_)
  ·obtain⟨v35,h36,v37,h38,hF⟩:=uS hF
   obtain⟨v39,h40,hF⟩:=bC hF cC
   refine go ?_ ?_
   refine aV (fF (is:=[0,1]) (xs:=[.tmp 23,.tmp 28]) (ps:=[.vc (pI .i64 x18),.va (eQ v39)]) rfl tyB92q rfl rfl ⟨trivial,trivial,trivial⟩ rfl) zU2 ?_
   refine aV (sO (C:=aE.cod) (xs:=[.tmp 29]) (ps:=[.va ([pI .i64 x18]++(eQ v39))]) (zs:=[(⟨x18,v39⟩:aE)]) rfl tyS49 rfl ⟨⟨trivial,rfl⟩,trivial⟩ rfl) zU1 ?_
   obtain⟨x41,h42,hF⟩:=bB hF
   refine qV 0 rfl tyS49 rfl rfl q15 rfl rfl h42 (fun b43 c44 H45 e46=>?_)
   cases e46
   obtain⟨v48,h49,v50,h51,hF⟩:=uS hF
   refine go ?_ ?_
   exact aK (fun a w hh=>⟨x41,v48,v50,b43,c44,(n14+[(⟨x18,v39⟩:aE)].length),hF,(iD h42 q15),iN [0] hh⟩)
  obtain⟨v52,h53,v54,h55,hF⟩:=uS hF
  refine go ?_ ?_
  exact aK (fun a w hh=>⟨x11,v52,v54,b12,c13,n14,hF,q15,iN [0] hh⟩)
 refine dJ ?_
 obtain rfl:=p9 hF
 exact qB Jj26 ⟨x11,b12,c13,n14,hRl25,q15,rfl,rfl⟩ [0]
def kH (K:Nat) (x75:List Rat) (x81:List aG) (x93:List Rat) (x114:List aA):Option aL:=
 some (⟨x81,x75,x93,x114⟩:aL)
def eU (K:Nat) (x107:List aA) (x113:Int) (v129:Int) (recl120:(List aA)→Int→Option (List aA)) (x159:aA):Option (List aA):=
 (uD x159.mu).bind fun v161=>bif(v161==0) then((qW x107 [(⟨x159.kind,x159.a,x159.b,x159.edge,x159.gap,x159.j,[],0,x159.e⟩:aA)]).bind fun x164=>(aP (x113+1)).bind fun v171=>recl120 x164 v171) else((vA v129 5).bind fun v173=>bif(v173==0) then((qW x107 [(⟨x159.kind,x159.a,x159.b,x159.edge,x159.gap,x159.j,[],0,x159.e⟩:aA)]).bind fun x176=>(aP (x113+1)).bind fun v183=>recl120 x176 v183) else((qW x107 [x159]).bind fun x185=>(aP (x113+1)).bind fun v192=>recl120 x185 v192))
def cR (K:Nat) (a0:List Int) (a1:Bool) (v4:Int):Nat→(List aA)→Int→Option (List aA)
 |0,_,_=>none
 |k+1,x107,x113=>(bG a0 8 5).bind fun v122=>bif(decide (x113<v122)) then((aP (3*x113)).bind fun v125=>(aP (9+v125)).bind fun v127=>(bG a0 v127 1099511627776).bind fun v129=>(dW K v129 v4).bind fun v131=>(aP (3*x113)).bind fun v133=>(aP (10+v133)).bind fun v135=>(bG a0 v135 1099511627776).bind fun v137=>(dW K v137 v4).bind fun v139=>(aP (3*x113)).bind fun v141=>(aP (11+v141)).bind fun v143=>(bG a0 v143 5).bind fun v145=>(aP (3*x113)).bind fun v147=>(aP (11+v147)).bind fun v149=>(bG a0 v149 3).bind fun v151=>(aP (1+v151)).bind fun v153=>(zJ v145 v153).bind fun v155=>bif(!a1) then((aP (v4-1)).bind fun v195=>(dW K v129 v195).bind fun v197=>eU K x107 x113 v129 (cR K a0 a1 v4 k) (⟨0,0,x113,0,0,v197,v139,v155,0⟩:aA)) else(eU K x107 x113 v129 (cR K a0 a1 v4 k) (⟨0,0,x113,0,0,v131,v139,v155,0⟩:aA))) else(some x107)
def iQ (K:Nat) (a0:List Int) (a1:Bool) (v4:Int) (x75:List Rat) (x81:List aG) (x93:List Rat):Option aL:=
 (cR K a0 a1 v4 K ([]:List aA) 0).bind fun x114=>kH K x75 x81 x93 x114
def mP (K:Nat) (x69:List Rat) (x75:List Rat) (x81:List aG) (x235:List aA):Option aL:=
 some (⟨x81,x75,x69,x235⟩:aL)
def fW (K:Nat) (x228:List aA) (x234:Int) (v250:Int) (v252:List aE) (v260:List aE) (v276:Rat) (recl241:(List aA)→Int→Option (List aA)):Option (List aA):=
 (uD v276).bind fun v281=>bif(v281==0) then((qW x228 [(⟨0,0,x234,0,0,v252,[],0,0⟩:aA)]).bind fun x284=>(aP (x234+1)).bind fun v291=>recl241 x284 v291) else((vA v250 5).bind fun v293=>bif(v293==0) then((qW x228 [(⟨0,0,x234,0,0,v252,[],0,0⟩:aA)]).bind fun x296=>(aP (x234+1)).bind fun v303=>recl241 x296 v303) else((qW x228 [(⟨0,0,x234,0,0,v252,v260,v276,0⟩:aA)]).bind fun x305=>(aP (x234+1)).bind fun v312=>recl241 x305 v312))
def dU (K:Nat) (a0:List Int) (v4:Int):Nat→(List aA)→Int→Option (List aA)
 |0,_,_=>none
 |k+1,x228,x234=>(bG a0 8 5).bind fun v243=>bif(decide (x234<v243)) then((aP (3*x234)).bind fun v246=>(aP (9+v246)).bind fun v248=>(bG a0 v248 1099511627776).bind fun v250=>(dW K v250 v4).bind fun v252=>(aP (3*x234)).bind fun v254=>(aP (10+v254)).bind fun v256=>(bG a0 v256 1099511627776).bind fun v258=>(dW K v258 v4).bind fun v260=>(aP (3*x234)).bind fun v262=>(aP (11+v262)).bind fun v264=>(bG a0 v264 5).bind fun v266=>(aP (3*x234)).bind fun v268=>(aP (11+v268)).bind fun v270=>(bG a0 v270 3).bind fun v272=>(aP (1+v272)).bind fun v274=>(zJ v266 v274).bind fun v276=>fW K x228 x234 v250 v252 v260 v276 (dU K a0 v4 k)) else(some x228)
def mU (K:Nat) (a0:List Int) (v4:Int) (x69:List Rat) (x75:List Rat) (x81:List aG):Option aL:=
 (dU K a0 v4 K ([]:List aA) 0).bind fun x235=>mP K x69 x75 x81 x235
def iT (K:Nat) (a0:List Int) (a1:Bool) (v4:Int) (x69:List Rat) (x75:List Rat) (x81:List aG):Option aL:=
 (bG a0 5 3).bind fun v89=>bif(decide (0<v89)) then(bif(!a1) then((aP (v4-1)).bind fun v202=>(bG a0 6 9).bind fun v204=>(aP (v204-4)).bind fun v206=>(bG a0 7 3).bind fun v208=>(aP (1+v208)).bind fun v210=>(zJ v206 v210).bind fun v212=>(bK x69 v202).bind fun v214=>(nL x69 v202 v212).bind fun x216=>iQ K a0 a1 v4 x75 x81 x216) else(iQ K a0 a1 v4 x75 x81 x69)) else(mU K a0 v4 x69 x75 x81)
def gI (K:Nat) (a0:List Int) (v4:Int):Nat→(List Rat)→(List Rat)→(List aG)→Int→Option ((List Rat)×(List Rat)×(List aG))
 |0,_,_,_,_=>none
 |k+1,x50,x56,x62,x68=>bif(decide (x68<v4)) then((aP (1+x68)).bind fun v315=>(bG a0 v315 1073741824).bind fun v317=>(vA v317 3).bind fun v321=>(aP (1+v321)).bind fun v323=>(vT v317 3).bind fun v325=>(vA v325 4).bind fun v327=>(aP (1+v327)).bind fun v329=>(zJ v323 v329).bind fun v331=>(qW x62 [(⟨v331,0,false,0,0⟩:aG)]).bind fun x333=>(vT v317 12).bind fun v342=>(vA v342 13).bind fun v344=>(aP (v344-6)).bind fun v346=>(vT v317 156).bind fun v348=>(vA v348 3).bind fun v350=>(aP (1+v350)).bind fun v352=>(zJ v346 v352).bind fun v354=>(qW x56 [v354]).bind fun x356=>(qW x50 [0]).bind fun x363=>(aP (x68+1)).bind fun v370=>gI K a0 v4 k x363 x356 x333 v370) else(some (x50,x56,x62))
def jX (K:Nat) (a0:List Int) (a1:Bool):Option aL:=
 (bG a0 0 4).bind fun v2=>(aP (1+v2)).bind fun v4=>(gI K a0 v4 K ([]:List Rat) ([]:List Rat) ([]:List aG) 0).bind fun(x69,x75,x81)=>iT K a0 a1 v4 x69 x75 x81
theorem aAI {K:Nat} {a0:List Int} {a1:Bool} {r:aL} (hF:jX K a0 a1=some r):Ct Tryz.prog 16 [.vc (pS cI a0),.vc (pB a1)] (.va (aL.enc r)):=by
 unfold jX at hF
 refine aI Tryz.func16 rfl (by kernel_rfl) Tryz.ntmps16 rfl (fun w0 M0=>?_)
 refine aO (aY (aM rfl tyZ27q (fun b1=>?_)))
 refine bU (aU (aO (aY (nI ?_))))
 obtain⟨v2,h3,hF⟩:=bC hF cY
 refine aV (bP rfl h3 rfl) ⟨rfl,kC _ _,kC _ _,trivial⟩ ?_
 obtain⟨v4,h5,hF⟩:=bB hF
 refine aV (vW rfl h5) ⟨kC _ _,rfl,trivial⟩ ?_
 refine aAi ?_
 refine bU (aU (aO (aY (aBX aG.cod 108 ?_))))
 refine aBX cQ 44 ?_
 refine aBX cQ 44 ?_
 refine aBX aA.cod 51 ?_
 refine aM rfl tyZ27_o0_o1_o2_o3q (fun b30=>?_)
 refine go ?_ ?_
 refine aT (cJ (fun H E=>∃(x69:List Rat),∃(x75:List Rat),∃(x81:List aG),∃(b70:Option Nat),∃(c71:Nat),∃(n72:Nat),∃(b76:Option Nat),∃(c77:Nat),∃(n78:Nat),∃(b82:Option Nat),∃(c83:Nat),∃(n84:Nat),iT K a0 a1 v4 x69 x75 x81=some r∧x69.length=n72∧x75.length=n78∧x81.length=n84∧H=[⟨some b30,1,27,4,1,([pO b82 n84 c83]++[pO b76 n78 c77]++[pO b70 n72 c71]++[pO none 0 0])⟩,hO aA.cod none 0 51 0 ([]:List aA),hO cQ b70 c71 44 n72 x69,hO cQ b76 c77 44 n78 x75,hO aG.cod b82 c83 108 n84 x81,⟨some b1,1,27,4,1,([pS aG.cod ([]:List aG)]++[pS cQ ([]:List Rat)]++[pS cQ ([]:List Rat)]++[pS aA.cod ([]:List aA)])⟩]∧E=[(0,.vc (pS cI a0)),(1,.vc (pB a1)),(4,.vc (pP (some b1) 0)),(5,.vc (pI .i64 v4)),(6,.vc (pP (some b30) 0))]) ?_ (fun Jj88=>?_))
 ·rintro _ _ ⟨x69,x75,x81,b70,c71,n72,b76,c77,n78,b82,c83,n84,hF,q73,q79,q85,rfl,rfl⟩
  unfold iT at hF
  obtain⟨v89,h90,hF⟩:=bC hF cY
  refine go ?_ ?_
  refine d7 hF (fun h91 hF=>?_) (fun h91 hF=>?_)
  ·refine aGE (bS (.inl rfl)) zU1 ?_
   refine aGE (aI5 rfl) zU1 ?_
   refine aV (vJ rfl) zU2 ?_
   refine aAi ?_
   refine bU (aU (aO (uI (fun H E=>∃(x93:List Rat),iQ K a0 a1 v4 x75 x81 x93=some r∧x93.length=n72∧H=[⟨some b30,1,27,4,1,([pO b82 n84 c83]++[pO b76 n78 c77]++[pO b70 n72 c71]++[pO none 0 0])⟩,hO aA.cod none 0 51 0 ([]:List aA),hO cQ b70 c71 44 n72 x93,hO cQ b76 c77 44 n78 x75,hO aG.cod b82 c83 108 n84 x81,⟨some b1,1,27,4,1,([pS aG.cod ([]:List aG)]++[pS cQ ([]:List Rat)]++[pS cQ ([]:List Rat)]++[pS aA.cod ([]:List aA)])⟩]∧E=[(0,.vc (pS cI a0)),(4,.vc (pP (some b1) 0)),(5,.vc (pI .i64 v4)),(6,.vc (pP (some b30) 0)),(9,.vc (pB (!a1)))]) ?_ (fun Jj99=>?_))))
   ·rintro _ _ ⟨x93,hF,q97,rfl,rfl⟩
    unfold iQ at hF
    refine go ?_ ?_
    refine aT (cJ (fun H E=>∃(x114:List aA),∃(b115:Option Nat),∃(c116:Nat),∃(n117:Nat),kH K x75 x81 x93 x114=some r∧x114.length=n117∧H=[⟨some b30,1,27,4,1,([pO b82 n84 c83]++[pO b76 n78 c77]++[pO b70 n72 c71]++[pO b115 n117 c116])⟩,hO aA.cod b115 c116 51 n117 x114,hO cQ b70 c71 44 n72 x93,hO cQ b76 c77 44 n78 x75,hO aG.cod b82 c83 108 n84 x81,⟨some b1,1,27,4,1,([pS aG.cod ([]:List aG)]++[pS cQ ([]:List Rat)]++[pS cQ ([]:List Rat)]++[pS aA.cod ([]:List aA)])⟩]∧E=[(4,.vc (pP (some b1) 0)),(6,.vc (pP (some b30) 0))]) ?_ (fun Jj121=>?_))
    ·rintro _ _ ⟨x114,b115,c116,n117,hF,q118,rfl,rfl⟩
     unfold kH at hF
     refine aU (aO (aY (aAS 4 0 0 rfl q85 rfl rfl rfl rfl rfl ?_)))
     refine aAS 3 0 1 rfl q79 rfl rfl rfl rfl rfl ?_
     refine aAS 2 0 2 rfl q97 rfl rfl rfl rfl rfl ?_
     refine aAS 1 0 3 rfl q118 rfl rfl rfl rfl rfl ?_
     exact cG
    obtain⟨x114',hL,hRl120⟩:=bB hF
    refine jE (fun k a w=>∃(x107:List aA),∃(x113:Int),∃(b108:Option Nat),∃(c109:Nat),∃(n110:Nat),cR K a0 a1 v4 k x107 x113=some x114'∧x107.length=n110∧hs _ [⟨some b30,1,27,4,1,([pO b82 n84 c83]++[pO b76 n78 c77]++[pO b70 n72 c71]++[pO b108 n110 c109])⟩,hO aA.cod b108 c109 51 n110 x107,hO cQ b70 c71 44 n72 x93,hO cQ b76 c77 44 n78 x75,hO aG.cod b82 c83 108 n84 x81,⟨some b1,1,27,4,1,([pS aG.cod ([]:List aG)]++[pS cQ ([]:List Rat)]++[pS cQ ([]:List Rat)]++[pS aA.cod ([]:List aA)])⟩] [(0,.vc (pS cI a0)),(4,.vc (pP (some b1) 0)),(5,.vc (pI .i64 v4)),(6,.vc (pP (some b30) 0)),(9,.vc (pB (!a1))),(10,.vc (pI .i64 x113))] a w) K (fun a w ⟨_,_,_,_,_,hF,_,_⟩=>by cases hF) (fun k a w ⟨x107,x113,b108,c109,n110,hF,q111,hh⟩=>jI ?_ hh) (fun a w hh=>⟨([]:List aA),0,none,0,0,hL,rfl,iN [0,1,2,3,4,5] hh⟩)
    rw [cR.eq_2] at hF
    obtain⟨v122,h123,hF⟩:=bC hF cY
    refine go ?_ ?_
    refine aJ hF rfl (fun h124 hF=>?_) (fun h124 hF=>?_)
    ·refine go ?_ ?_
     refine aT ?_
     obtain⟨v125,h126,v127,h128,hF⟩:=uS hF
     obtain⟨v129,h130,hF⟩:=bC hF cY
     obtain⟨v131,h132,hF⟩:=bC hF nA
     have hF:=rQ h126 hF
     obtain⟨v135,h136,hF⟩:=bB hF
     obtain⟨v137,h138,hF⟩:=bC hF cY
     obtain⟨v139,h140,hF⟩:=bC hF nA
     have hF:=rQ h126 hF
     obtain⟨v143,h144,hF⟩:=bB hF
     obtain⟨v145,h146,hF⟩:=bC hF cY
     have hF:=rQ h126 hF
     have hF:=rQ h144 hF
     obtain⟨v151,h152,hF⟩:=bC hF cY
     obtain⟨v153,h154,hF⟩:=bB hF
     obtain⟨v155,h156,hF⟩:=bC hF cC
     refine go ?_ ?_
     refine aV (fF (is:=[5,6,7,2]) (xs:=[.tmp 92,.tmp 99,.tmp 111,.tmp 112]) (ps:=[.vc (pS aE.cod v131),.vc (pS aE.cod v139),.va (eQ v155),.vc (pI .i64 x113)]) rfl tyB51q rfl rfl ⟨trivial,trivial,trivial,trivial,trivial⟩ rfl) ⟨rfl,rfl,rfl,rfl,trivial⟩ ?_
     refine aM rfl tyZ51q (fun b157=>?_)
     refine oQ (t_s 0 rfl rfl rfl tyA51.s) zU2 ?_
     refine bU (aU (aO (uI (fun H E=>∃(x159:aA),eU K x107 x113 v129 (cR K a0 a1 v4 k) x159=some x114'∧H=[⟨some b157,1,51,18,1,(aA.enc x159)⟩,⟨some b30,1,27,4,1,([pO b82 n84 c83]++[pO b76 n78 c77]++[pO b70 n72 c71]++[pO b108 n110 c109])⟩,hO aA.cod b108 c109 51 n110 x107,hO cQ b70 c71 44 n72 x93,hO cQ b76 c77 44 n78 x75,hO aG.cod b82 c83 108 n84 x81,⟨some b1,1,27,4,1,([pS aG.cod ([]:List aG)]++[pS cQ ([]:List Rat)]++[pS cQ ([]:List Rat)]++[pS aA.cod ([]:List aA)])⟩]∧E=[(0,.vc (pS cI a0)),(4,.vc (pP (some b1) 0)),(5,.vc (pI .i64 v4)),(6,.vc (pP (some b30) 0)),(9,.vc (pB (!a1))),(10,.vc (pI .i64 x113)),(11,.vc (pI .i64 v129)),(12,.vc (pP (some b157) 0))]) ?_ (fun Jj160=>?_))))
     ·rintro _ _ ⟨x159,hF,rfl,rfl⟩
      unfold eU at hF
      obtain⟨v161,h162,hF⟩:=bC hF vV
      refine go ?_ ?_
      refine d7 hF (fun h163 hF=>?_) (fun h163 hF=>?_)
      ·refine go ?_ ?_
       refine lX rfl ?_
       refine go ?_ ?_
       refine oQ (t_s 0 rfl rfl rfl tyO49.s) ⟨rfl,eD aE.cod,trivial⟩ ?_
       refine go ?_ ?_
       refine aV (fF (is:=[]) (xs:=[]) (ps:=[]) rfl tyB44q rfl rfl trivial rfl) trivial ?_
       refine go ?_ ?_
       refine aV (sO (C:=aA.cod) (xs:=[.tmp 134]) (ps:=[.va ([pI .i64 x159.kind]++[pI .i64 x159.a]++[pI .i64 x159.b]++[pI .i64 x159.edge]++(eQ x159.gap)++[pS aE.cod x159.j]++[pS aE.cod []]++(eQ 0)++(eQ x159.e))]) (zs:=[(⟨x159.kind,x159.a,x159.b,x159.edge,x159.gap,x159.j,[],0,x159.e⟩:aA)]) rfl tyS25 rfl ⟨⟨trivial,rfl⟩,trivial⟩ rfl) zU1 ?_
       obtain⟨x164,h165,hF⟩:=bB hF
       refine qV 2 rfl tyS25 rfl rfl q111 rfl rfl h165 (fun b166 c167 H168 e169=>?_)
       cases e169
       obtain⟨v171,h172,hF⟩:=bB hF
       refine go ?_ ?_
       exact aK (fun a w hh=>⟨x164,v171,b166,c167,(n110+[(⟨x159.kind,x159.a,x159.b,x159.edge,x159.gap,x159.j,[],0,x159.e⟩:aA)].length),hF,(iD h165 q111),iN [1,2,3,4,5,6] hh⟩)
      obtain⟨v173,h174,hF⟩:=bB hF
      refine go ?_ ?_
      refine aJ hF rfl (fun h175 hF=>?_) (fun h175 hF=>?_)
      ·refine go ?_ ?_
       refine oQ (t_s 0 rfl rfl rfl tyO49.s) ⟨rfl,eD aE.cod,trivial⟩ ?_
       refine go ?_ ?_
       refine aV (fF (is:=[]) (xs:=[]) (ps:=[]) rfl tyB44q rfl rfl trivial rfl) trivial ?_
       refine go ?_ ?_
       refine aV (sO (C:=aA.cod) (xs:=[.tmp 134]) (ps:=[.va ([pI .i64 x159.kind]++[pI .i64 x159.a]++[pI .i64 x159.b]++[pI .i64 x159.edge]++(eQ x159.gap)++[pS aE.cod x159.j]++[pS aE.cod []]++(eQ 0)++(eQ x159.e))]) (zs:=[(⟨x159.kind,x159.a,x159.b,x159.edge,x159.gap,x159.j,[],0,x159.e⟩:aA)]) rfl tyS25 rfl ⟨⟨trivial,rfl⟩,trivial⟩ rfl) zU1 ?_
       obtain⟨x176,h177,hF⟩:=bB hF
       refine qV 2 rfl tyS25 rfl rfl q111 rfl rfl h177 (fun b178 c179 H180 e181=>?_)
       cases e181
       obtain⟨v183,h184,hF⟩:=bB hF
       refine go ?_ ?_
       exact aK (fun a w hh=>⟨x176,v183,b178,c179,(n110+[(⟨x159.kind,x159.a,x159.b,x159.edge,x159.gap,x159.j,[],0,x159.e⟩:aA)].length),hF,(iD h177 q111),iN [1,2,3,4,5,6] hh⟩)
      refine go ?_ ?_
      refine aV (sO (C:=aA.cod) (xs:=[.tmp 134]) (ps:=[.va (aA.enc x159)]) (zs:=[x159]) rfl tyS25 rfl ⟨⟨trivial,rfl⟩,trivial⟩ rfl) zU1 ?_
      obtain⟨x185,h186,hF⟩:=bB hF
      refine qV 2 rfl tyS25 rfl rfl q111 rfl rfl h186 (fun b187 c188 H189 e190=>?_)
      cases e190
      obtain⟨v192,h193,hF⟩:=bB hF
      refine go ?_ ?_
      exact aK (fun a w hh=>⟨x185,v192,b187,c188,(n110+[x159].length),hF,(iD h186 q111),iN [1,2,3,4,5,6] hh⟩)
     refine go ?_ ?_
     refine aJ hF rfl (fun h194 hF=>?_) (fun h194 hF=>?_)
     ·refine aY (nI ?_)
      refine nI ?_
      obtain⟨v195,h196,hF⟩:=bB hF
      refine aV (aBr rfl h196) ⟨rfl,kC _ _,trivial⟩ ?_
      obtain⟨v197,h198,hF⟩:=bC hF nA
      refine aV (bP rfl h198 rfl) zU2 ?_
      refine aV (p6 (off:=0) (k:=8) rfl tyF51_5) zU1 ?_
      refine oQ (t_s 0 rfl rfl rfl tyO49.s) zU2 ?_
      refine bU ?_
      exact qB Jj160 ⟨(⟨0,0,x113,0,0,v197,v139,v155,0⟩:aA),hF,rfl,rfl⟩ [0,1,2,3,4,5,6]
     refine iV ?_
     exact qB Jj160 ⟨(⟨0,0,x113,0,0,v131,v139,v155,0⟩:aA),hF,rfl,rfl⟩ [0,1,2,3,4,5,6]
    refine dJ ?_
    obtain rfl:=p9 hF
    exact qB Jj121 ⟨x107,b108,c109,n110,hRl120,q111,rfl,rfl⟩ [0,1,2,3,4,5]
   refine go ?_ ?_
   refine aJ hF rfl (fun h199 hF=>?_) (fun h199 hF=>?_)
   ·obtain⟨v202,h203,hF⟩:=bB hF
    obtain⟨v204,h205,hF⟩:=bC hF cY
    obtain⟨v206,h207,hF⟩:=bB hF
    obtain⟨v208,h209,hF⟩:=bC hF cY
    obtain⟨v210,h211,hF⟩:=bB hF
    obtain⟨v212,h213,hF⟩:=bC hF cC
    obtain⟨v214,h215,hF⟩:=bB hF
    refine dr [0,1,0,4,0,16,48,0,176,432,1008,2047,4095] 12 1 ?_ (fun bs201 G200=>?_)
    obtain⟨x216,h217,hF⟩:=bB hF
    refine oQ (wL 2 rfl rfl h215 h217 tyA44.s) zU2 ?_
    refine bU ?_
    exact qB Jj99 ⟨x216,hF,(bH h217 q73),rfl,rfl⟩ [0,1,2,3,4,5]
   refine iV ?_
   exact qB Jj99 ⟨x69,hF,q73,rfl,rfl⟩ [0,1,2,3,4,5]
  refine aMe ?_
  refine aMe ?_
  refine aV (wA rfl) ⟨rfl,k_B _,trivial⟩ ?_
  refine aAi ?_
  refine bU (aU (aO (uI (fun H E=>mU K a0 v4 x69 x75 x81=some r∧H=[⟨some b30,1,27,4,1,([pO b82 n84 c83]++[pO b76 n78 c77]++[pO b70 n72 c71]++[pO none 0 0])⟩,hO aA.cod none 0 51 0 ([]:List aA),hO cQ b70 c71 44 n72 x69,hO cQ b76 c77 44 n78 x75,hO aG.cod b82 c83 108 n84 x81,⟨some b1,1,27,4,1,([pS aG.cod ([]:List aG)]++[pS cQ ([]:List Rat)]++[pS cQ ([]:List Rat)]++[pS aA.cod ([]:List aA)])⟩]∧E=[(0,.vc (pS cI a0)),(4,.vc (pP (some b1) 0)),(5,.vc (pI .i64 v4)),(6,.vc (pP (some b30) 0)),(9,.vc (pB false))]) ?_ (fun Jj220=>?_))))
  ·rintro _ _ ⟨hF,rfl,rfl⟩
   unfold mU at hF
   refine go ?_ ?_
   refine aT (cJ (fun H E=>∃(x235:List aA),∃(b236:Option Nat),∃(c237:Nat),∃(n238:Nat),mP K x69 x75 x81 x235=some r∧x235.length=n238∧H=[⟨some b30,1,27,4,1,([pO b82 n84 c83]++[pO b76 n78 c77]++[pO b70 n72 c71]++[pO b236 n238 c237])⟩,hO aA.cod b236 c237 51 n238 x235,hO cQ b70 c71 44 n72 x69,hO cQ b76 c77 44 n78 x75,hO aG.cod b82 c83 108 n84 x81,⟨some b1,1,27,4,1,([pS aG.cod ([]:List aG)]++[pS cQ ([]:List Rat)]++[pS cQ ([]:List Rat)]++[pS aA.cod ([]:List aA)])⟩]∧E=[(4,.vc (pP (some b1) 0)),(6,.vc (pP (some b30) 0))]) ?_ (fun Jj242=>?_))
   ·rintro _ _ ⟨x235,b236,c237,n238,hF,q239,rfl,rfl⟩
    unfold mP at hF
    refine aU (aO (aY (aAS 4 0 0 rfl q85 rfl rfl rfl rfl rfl ?_)))
    refine aAS 3 0 1 rfl q79 rfl rfl rfl rfl rfl ?_
    refine aAS 2 0 2 rfl q73 rfl rfl rfl rfl rfl ?_
    refine aAS 1 0 3 rfl q239 rfl rfl rfl rfl rfl ?_
    exact cG
   obtain⟨x235',hL,hRl241⟩:=bB hF
   refine jE (fun k a w=>∃(x228:List aA),∃(x234:Int),∃(b229:Option Nat),∃(c230:Nat),∃(n231:Nat),dU K a0 v4 k x228 x234=some x235'∧x228.length=n231∧hs _ [⟨some b30,1,27,4,1,([pO b82 n84 c83]++[pO b76 n78 c77]++[pO b70 n72 c71]++[pO b229 n231 c230])⟩,hO aA.cod b229 c230 51 n231 x228,hO cQ b70 c71 44 n72 x69,hO cQ b76 c77 44 n78 x75,hO aG.cod b82 c83 108 n84 x81,⟨some b1,1,27,4,1,([pS aG.cod ([]:List aG)]++[pS cQ ([]:List Rat)]++[pS cQ ([]:List Rat)]++[pS aA.cod ([]:List aA)])⟩] [(0,.vc (pS cI a0)),(4,.vc (pP (some b1) 0)),(5,.vc (pI .i64 v4)),(6,.vc (pP (some b30) 0)),(9,.vc (pB false)),(10,.vc (pI .i64 x234))] a w) K (fun a w ⟨_,_,_,_,_,hF,_,_⟩=>by cases hF) (fun k a w ⟨x228,x234,b229,c230,n231,hF,q232,hh⟩=>jI ?_ hh) (fun a w hh=>⟨([]:List aA),0,none,0,0,hL,rfl,iN [0,1,2,3,4,5] hh⟩)
   rw [dU.eq_2] at hF
   obtain⟨v243,h244,hF⟩:=bC hF cY
   refine go ?_ ?_
   refine aJ hF rfl (fun h245 hF=>?_) (fun h245 hF=>?_)
   ·refine go ?_ ?_
    refine aT ?_
    obtain⟨v246,h247,v248,h249,hF⟩:=uS hF
    obtain⟨v250,h251,hF⟩:=bC hF cY
    obtain⟨v252,h253,hF⟩:=bC hF nA
    have hF:=rQ h247 hF
    obtain⟨v256,h257,hF⟩:=bB hF
    obtain⟨v258,h259,hF⟩:=bC hF cY
    obtain⟨v260,h261,hF⟩:=bC hF nA
    have hF:=rQ h247 hF
    obtain⟨v264,h265,hF⟩:=bB hF
    obtain⟨v266,h267,hF⟩:=bC hF cY
    have hF:=rQ h247 hF
    have hF:=rQ h265 hF
    obtain⟨v272,h273,hF⟩:=bC hF cY
    obtain⟨v274,h275,hF⟩:=bB hF
    obtain⟨v276,h277,hF⟩:=bC hF cC
    refine go ?_ ?_
    refine aV (fF (is:=[5,6,7,2]) (xs:=[.tmp 92,.tmp 99,.tmp 111,.tmp 112]) (ps:=[.vc (pS aE.cod v252),.vc (pS aE.cod v260),.va (eQ v276),.vc (pI .i64 x234)]) rfl tyB51q rfl rfl ⟨trivial,trivial,trivial,trivial,trivial⟩ rfl) ⟨rfl,rfl,rfl,rfl,trivial⟩ ?_
    refine aM rfl tyZ51q (fun b278=>?_)
    refine oQ (t_s 0 rfl rfl rfl tyA51.s) zU2 ?_
    refine bU (aU (aO (uI (fun H E=>fW K x228 x234 v250 v252 v260 v276 (dU K a0 v4 k)=some x235'∧H=[⟨some b278,1,51,18,1,([pI .i64 0]++[pI .i64 0]++[pI .i64 x234]++[pI .i64 0]++(eQ 0)++[pS aE.cod v252]++[pS aE.cod v260]++(eQ v276)++(eQ 0))⟩,⟨some b30,1,27,4,1,([pO b82 n84 c83]++[pO b76 n78 c77]++[pO b70 n72 c71]++[pO b229 n231 c230])⟩,hO aA.cod b229 c230 51 n231 x228,hO cQ b70 c71 44 n72 x69,hO cQ b76 c77 44 n78 x75,hO aG.cod b82 c83 108 n84 x81,⟨some b1,1,27,4,1,([pS aG.cod ([]:List aG)]++[pS cQ ([]:List Rat)]++[pS cQ ([]:List Rat)]++[pS aA.cod ([]:List aA)])⟩]∧E=[(0,.vc (pS cI a0)),(4,.vc (pP (some b1) 0)),(5,.vc (pI .i64 v4)),(6,.vc (pP (some b30) 0)),(9,.vc (pB false)),(10,.vc (pI .i64 x234)),(11,.vc (pI .i64 v250)),(12,.vc (pP (some b278) 0))]) ?_ (fun Jj280=>?_))))
    ·rintro _ _ ⟨hF,rfl,rfl⟩
     unfold fW at hF
     obtain⟨v281,h282,hF⟩:=bC hF vV
     refine go ?_ ?_
     refine d7 hF (fun h283 hF=>?_) (fun h283 hF=>?_)
     ·refine go ?_ ?_
      refine lX rfl ?_
      refine go ?_ ?_
      refine oQ (t_s 0 rfl rfl rfl tyO49.s) ⟨rfl,eD aE.cod,trivial⟩ ?_
      refine go ?_ ?_
      refine aV (fF (is:=[]) (xs:=[]) (ps:=[]) rfl tyB44q rfl rfl trivial rfl) trivial ?_
      refine go ?_ ?_
      refine aV (sO (C:=aA.cod) (xs:=[.tmp 134]) (ps:=[.va ([pI .i64 0]++[pI .i64 0]++[pI .i64 x234]++[pI .i64 0]++(eQ 0)++[pS aE.cod v252]++[pS aE.cod []]++(eQ 0)++(eQ 0))]) (zs:=[(⟨0,0,x234,0,0,v252,[],0,0⟩:aA)]) rfl tyS25 rfl ⟨⟨trivial,rfl⟩,trivial⟩ rfl) zU1 ?_
      obtain⟨x284,h285,hF⟩:=bB hF
      refine qV 2 rfl tyS25 rfl rfl q232 rfl rfl h285 (fun b286 c287 H288 e289=>?_)
      cases e289
      obtain⟨v291,h292,hF⟩:=bB hF
      refine go ?_ ?_
      exact aK (fun a w hh=>⟨x284,v291,b286,c287,(n231+[(⟨0,0,x234,0,0,v252,[],0,0⟩:aA)].length),hF,(iD h285 q232),iN [1,2,3,4,5,6] hh⟩)
     obtain⟨v293,h294,hF⟩:=bB hF
     refine go ?_ ?_
     refine aJ hF rfl (fun h295 hF=>?_) (fun h295 hF=>?_)
     ·refine go ?_ ?_
      refine oQ (t_s 0 rfl rfl rfl tyO49.s) ⟨rfl,eD aE.cod,trivial⟩ ?_
      refine go ?_ ?_
      refine aV (fF (is:=[]) (xs:=[]) (ps:=[]) rfl tyB44q rfl rfl trivial rfl) trivial ?_
      refine go ?_ ?_
      refine aV (sO (C:=aA.cod) (xs:=[.tmp 134]) (ps:=[.va ([pI .i64 0]++[pI .i64 0]++[pI .i64 x234]++[pI .i64 0]++(eQ 0)++[pS aE.cod v252]++[pS aE.cod []]++(eQ 0)++(eQ 0))]) (zs:=[(⟨0,0,x234,0,0,v252,[],0,0⟩:aA)]) rfl tyS25 rfl ⟨⟨trivial,rfl⟩,trivial⟩ rfl) zU1 ?_
      obtain⟨x296,h297,hF⟩:=bB hF
      refine qV 2 rfl tyS25 rfl rfl q232 rfl rfl h297 (fun b298 c299 H300 e301=>?_)
      cases e301
      obtain⟨v303,h304,hF⟩:=bB hF
      refine go ?_ ?_
      exact aK (fun a w hh=>⟨x296,v303,b298,c299,(n231+[(⟨0,0,x234,0,0,v252,[],0,0⟩:aA)].length),hF,(iD h297 q232),iN [1,2,3,4,5,6] hh⟩)
     refine go ?_ ?_
     refine aV (sO (C:=aA.cod) (xs:=[.tmp 134]) (ps:=[.va ([pI .i64 0]++[pI .i64 0]++[pI .i64 x234]++[pI .i64 0]++(eQ 0)++[pS aE.cod v252]++[pS aE.cod v260]++(eQ v276)++(eQ 0))]) (zs:=[(⟨0,0,x234,0,0,v252,v260,v276,0⟩:aA)]) rfl tyS25 rfl ⟨⟨trivial,rfl⟩,trivial⟩ rfl) zU1 ?_
     obtain⟨x305,h306,hF⟩:=bB hF
     refine qV 2 rfl tyS25 rfl rfl q232 rfl rfl h306 (fun b307 c308 H309 e310=>?_)
     cases e310
     obtain⟨v312,h313,hF⟩:=bB hF
     refine go ?_ ?_
     exact aK (fun a w hh=>⟨x305,v312,b307,c308,(n231+[(⟨0,0,x234,0,0,v252,v260,v276,0⟩:aA)].length),hF,(iD h306 q232),iN [1,2,3,4,5,6] hh⟩)
    refine go ?_ ?_
    refine tA rfl ?_
    refine iV ?_
    exact qB Jj280 ⟨hF,rfl,rfl⟩ [0,1,2,3,4,5,6]
   refine dJ ?_
   obtain rfl:=p9 hF
   exact qB Jj242 ⟨x228,b229,c230,n231,hRl241,q232,rfl,rfl⟩ [0,1,2,3,4,5]
  refine go ?_ ?_
  refine tA rfl ?_
  refine iV ?_
  exact qB Jj220 ⟨hF,rfl,rfl⟩ [0,1,2,3,4,5]
 obtain⟨⟨x69',x75',x81'⟩,hL,hRl87⟩:=bB hF
 refine jE (fun k a w=>∃(x50:List Rat),∃(x56:List Rat),∃(x62:List aG),∃(x68:Int),∃(b51:Option Nat),∃(c52:Nat),∃(n53:Nat),∃(b57:Option Nat),∃(c58:Nat),∃(n59:Nat),∃(b63:Option Nat),∃(c64:Nat),∃(n65:Nat),gI K a0 v4 k x50 x56 x62 x68=some (x69',x75',x81')∧x50.length=n53∧x56.length=n59∧x62.length=n65∧hs _ [⟨some b30,1,27,4,1,([pO b63 n65 c64]++[pO b57 n59 c58]++[pO b51 n53 c52]++[pO none 0 0])⟩,hO aA.cod none 0 51 0 ([]:List aA),hO cQ b51 c52 44 n53 x50,hO cQ b57 c58 44 n59 x56,hO aG.cod b63 c64 108 n65 x62,⟨some b1,1,27,4,1,([pS aG.cod ([]:List aG)]++[pS cQ ([]:List Rat)]++[pS cQ ([]:List Rat)]++[pS aA.cod ([]:List aA)])⟩] [(0,.vc (pS cI a0)),(1,.vc (pB a1)),(4,.vc (pP (some b1) 0)),(5,.vc (pI .i64 v4)),(6,.vc (pP (some b30) 0)),(7,.vc (pI .i64 x68))] a w) K (fun a w ⟨_,_,_,_,_,_,_,_,_,_,_,_,_,hF,_,_,_,_⟩=>by cases hF) (fun k a w ⟨x50,x56,x62,x68,b51,c52,n53,b57,c58,n59,b63,c64,n65,hF,q54,q60,q66,hh⟩=>jI ?_ hh) (fun a w hh=>⟨([]:List Rat),([]:List Rat),([]:List aG),0,none,0,0,none,0,0,none,0,0,hL,rfl,rfl,rfl,iN [0,1,2,3,4,5] hh⟩)
 rw [gI.eq_2] at hF
 refine go ?_ ?_
 refine aJ hF rfl (fun h314 hF=>?_) (fun h314 hF=>?_)
 ·refine go ?_ ?_
  refine aT ?_
  obtain⟨v315,h316,hF⟩:=bB hF
  obtain⟨v317,h318,hF⟩:=bC hF cY
  obtain⟨v321,h322,v323,h324,v325,h326,v327,h328,hF⟩:=bn4 hF
  obtain⟨v329,h330,hF⟩:=bB hF
  obtain⟨v331,h332,hF⟩:=bC hF cC
  refine go ?_ ?_
  refine jW [0,1,0,4,12,0,32,96,224,508,1020,2044,4095,8191,16383] 12 3 [.v (.vc (pP (some b30) 0)),.v (.vc (pO b63 n65 c64)),.v (.vc (pI .i64 v317)),.v (.vc (pI .i64 v321)),.v (.vc (pI .i64 v323)),.v (.vc (pI .i64 v317)),.v (.vc (pI .i64 v325)),.v (.vc (pI .i64 v327)),.v (.vc (pI .i64 v329)),.v (.va (eQ v331)),.v (.va ((eQ v331)++(eQ 0)++[pB false]++(eQ 0)++(eQ 0))),.v (.vc (pS aG.cod [(⟨v331,0,false,0,0⟩:aG)]))] bJ ⟨d0 (p6 (off:=0) (k:=0) rfl tyF27_0) zU1,d0 (gH 0 1 rfl rfl rfl rfl (.one tyO23)) zU1,d0 (bS (.inl rfl)) zU1,d0 (aAU rfl h322) ⟨rfl,kC _ _,trivial⟩,d0 (vW rfl h324) ⟨kC _ _,rfl,trivial⟩,d0 (bS (.inl rfl)) zU1,d0 (aC5 rfl h326) ⟨rfl,kC _ _,trivial⟩,d0 (aAU rfl h328) ⟨rfl,kC _ _,trivial⟩,d0 (vW rfl h330) ⟨kC _ _,rfl,trivial⟩,d0 (bP rfl h332 rfl) zU2,d0 (fF (is:=[0]) (xs:=[.tmp 34]) (ps:=[.va (eQ v331)]) rfl tyB108q rfl rfl ⟨trivial,trivial⟩ rfl) zU1,d0 (sO (C:=aG.cod) (xs:=[.tmp 35]) (ps:=[.va ((eQ v331)++(eQ 0)++[pB false]++(eQ 0)++(eQ 0))]) (zs:=[(⟨v331,0,false,0,0⟩:aG)]) rfl tyS23 rfl ⟨⟨trivial,rfl⟩,trivial⟩ rfl) zU1,trivial⟩ (fun bs320 G319=>?_)
  obtain⟨x333,h334,hF⟩:=bB hF
  refine qV 4 rfl tyS23 rfl rfl q66 rfl rfl h334 (fun b335 c336 H337 e338=>?_)
  cases e338
  obtain⟨v342,h343,v344,h345,v346,h347,v348,h349,hF⟩:=bn4 hF
  obtain⟨v350,h351,v352,h353,hF⟩:=uS hF
  obtain⟨v354,h355,hF⟩:=bC hF cC
  refine go ?_ ?_
  refine jW [0,1,0,4,12,28,0,64,192,448,1020,2044,4095,8191,16383] 12 3 [.v (.vc (pP (some b30) 1)),.v (.vc (pO b57 n59 c58)),.v (.vc (pI .i64 v317)),.v (.vc (pI .i64 v342)),.v (.vc (pI .i64 v344)),.v (.vc (pI .i64 v346)),.v (.vc (pI .i64 v317)),.v (.vc (pI .i64 v348)),.v (.vc (pI .i64 v350)),.v (.vc (pI .i64 v352)),.v (.va (eQ v354)),.v (.vc (pS cQ [v354]))] bJ ⟨d0 (p6 (off:=0) (k:=1) rfl tyF27_1) zU1,d0 (gH 0 1 rfl rfl rfl rfl (.one tyO24)) zU1,d0 (bS (.inl rfl)) zU1,d0 (aC5 rfl h343) ⟨rfl,kC _ _,trivial⟩,d0 (aAU rfl h345) ⟨rfl,kC _ _,trivial⟩,d0 (aBr rfl h347) ⟨rfl,kC _ _,trivial⟩,d0 (bS (.inl rfl)) zU1,d0 (aC5 rfl h349) ⟨rfl,kC _ _,trivial⟩,d0 (aAU rfl h351) ⟨rfl,kC _ _,trivial⟩,d0 (vW rfl h353) ⟨kC _ _,rfl,trivial⟩,d0 (bP rfl h355 rfl) zU2,d0 (sO (C:=cQ) (xs:=[.tmp 49]) (ps:=[.va (eQ v354)]) (zs:=[v354]) rfl tyS24 rfl ⟨⟨trivial,rfl⟩,trivial⟩ rfl) zU1,trivial⟩ (fun bs341 G340=>?_)
  obtain⟨x356,h357,hF⟩:=bB hF
  refine qV 3 rfl tyS24 rfl rfl q60 rfl rfl h357 (fun b358 c359 H360 e361=>?_)
  cases e361
  refine go ?_ ?_
  refine aV (fF (is:=[]) (xs:=[]) (ps:=[]) rfl tyB44q rfl rfl trivial rfl) trivial ?_
  refine aV (sO (C:=cQ) (xs:=[.tmp 55]) (ps:=[.va (eQ 0)]) (zs:=[0]) rfl tyS24 rfl ⟨⟨trivial,rfl⟩,trivial⟩ rfl) zU1 ?_
  obtain⟨x363,h364,hF⟩:=bB hF
  refine qV 2 rfl tyS24 rfl rfl q54 rfl rfl h364 (fun b365 c366 H367 e368=>?_)
  cases e368
  obtain⟨v370,h371,hF⟩:=bB hF
  refine go ?_ ?_
  exact aK (fun a w hh=>⟨x363,x356,x333,v370,b365,c366,(n53+[0].length),b358,c359,(n59+[v354].length),b335,c336,(n65+[(⟨v331,0,false,0,0⟩:aG)].length),hF,(iD h364 q54),(iD h357 q60),(iD h334 q66),iN [0,1,2,3,4,5] hh⟩)
 refine dJ ?_
 obtain⟨rfl,rfl,rfl⟩:=sm3 hF
 exact qB Jj88 ⟨x50,x56,x62,b51,c52,n53,b57,c58,n59,b63,c64,n65,hRl87,q54,q60,q66,rfl,rfl⟩ [0,1,2,3,4,5]
def oP (K:Nat):Option Bool:=
 some true
def iF (K:Nat) (a0:List Rat):Nat→Int→Option (LR Bool Unit)
 |0,_=>none
 |k+1,x2=>bif(decide (x2<(a0.length:Int))) then((bK a0 x2).bind fun v6=>(aAG v6).bind fun v9=>bif(!v9) then(some (.ret false)) else((aP (x2+1)).bind fun v12=>iF K a0 k v12)) else(some (.go ()))
def mY (K:Nat) (a0:List Rat):Option Bool:=
 (iF K a0 K 0).bind fun o=>match o with| .ret r=>some r| .go _=>oP K
theorem wO {K:Nat} {a0:List Rat} {r:Bool} (hF:mY K a0=some r):Ct Tryz.prog 150 [.vc (pS cQ a0)] (.vc (pB r)):=by
 unfold mY at hF
 refine aI Tryz.func150 rfl (by kernel_rfl) Tryz.ntmps150 rfl (fun w0 M0=>?_)
 refine go ?_ ?_
 refine aT (cJ (fun H E=>oP K=some r∧H=[]∧E=[]) ?_ (fun Jj4=>?_))
 ·rintro _ _ ⟨hF,rfl,rfl⟩
  unfold oP at hF
  exact cG
 obtain⟨ol3,hL,hRl3⟩:=bB hF
 refine jE (fun k a w=>∃(x2:Int),iF K a0 k x2=some ol3∧hs _ [] [(5,.vc (pS cQ a0)),(6,.vc (pI .i64 (a0.length:Int))),(7,.vc (pI .i64 x2))] a w) K (fun a w ⟨_,hF,_⟩=>by cases hF) (fun k a w ⟨x2,hF,hh⟩=>jI ?_ hh) (fun a w hh=>⟨0,hL,iN [] hh⟩)
 rw [iF.eq_2] at hF
 refine go ?_ ?_
 refine aJ hF rfl (fun h5 hF=>?_) (fun h5 hF=>?_)
 ·refine go ?_ ?_
  refine aT ?_
  obtain⟨v6,h7,hF⟩:=bB hF
  refine go ?_ ?_
  refine aM rfl tyZ44q (fun b8=>?_)
  obtain⟨v9,h10,hF⟩:=bC hF oZ
  refine go ?_ ?_
  refine aJ hF rfl (fun h11 hF=>?_) (fun h11 hF=>?_)
  ·exact cG
  obtain⟨v12,h13,hF⟩:=bB hF
  refine go ?_ ?_
  exact aK (fun a w hh=>⟨v12,hF,iN [] hh⟩)
 refine dJ ?_
 obtain rfl:=p9 hF
 exact qB Jj4 ⟨hRl3,rfl,rfl⟩ []
def oF (K:Nat):Option Bool:=
 some true
def gT (K:Nat) (a0:List (List Rat)) (a1:List Rat):Nat→Int→Option (LR Bool Unit)
 |0,_=>none
 |k+1,x7=>bif(decide (x7<(a0.length:Int))) then((bK a0 x7).bind fun v11=>bif((v11.length:Int) != (a1.length:Int)) then(some (.ret false)) else((mY K v11).bind fun v14=>bif(!v14) then(some (.ret false)) else((aP (x7+1)).bind fun v17=>gT K a0 a1 k v17))) else(some (.go ()))
def nR (K:Nat) (a0:List (List Rat)) (a1:List Rat):Option Bool:=
 bif((a0.length:Int) != (a1.length:Int)) then(some false) else(bif(decide (32<(a0.length:Int))) then(some false) else((mY K a1).bind fun v3=>bif(!v3) then(some false) else((gT K a0 a1 K 0).bind fun o=>match o with| .ret r=>some r| .go _=>oF K)))
theorem aAD {K:Nat} {a0:List (List Rat)} {a1:List Rat} {r:Bool} (hF:nR K a0 a1=some r):Ct Tryz.prog 108 [.vc (pS (wD cQ) a0),.vc (pS cQ a1)] (.vc (pB r)):=by
 unfold nR at hF
 refine aI Tryz.func108 rfl (by kernel_rfl) Tryz.ntmps108 rfl (fun w0 M0=>?_)
 refine go ?_ ?_
 refine d7 hF (fun h1 hF=>?_) (fun h1 hF=>?_)
 ·refine go ?_ ?_
  refine lX rfl ?_
  exact cG
 refine go ?_ ?_
 refine d7 hF (fun h2 hF=>?_) (fun h2 hF=>?_)
 ·refine go ?_ ?_
  refine lX rfl ?_
  exact cG
 obtain⟨v3,h4,hF⟩:=bC hF wO
 refine go ?_ ?_
 refine aJ hF rfl (fun h5 hF=>?_) (fun h5 hF=>?_)
 ·exact cG
 refine go ?_ ?_
 refine aT (cJ (fun H E=>oF K=some r∧H=[]∧E=[]) ?_ (fun Jj9=>?_))
 ·rintro _ _ ⟨hF,rfl,rfl⟩
  unfold oF at hF
  exact cG
 obtain⟨ol8,hL,hRl8⟩:=bB hF
 refine jE (fun k a w=>∃(x7:Int),gT K a0 a1 k x7=some ol8∧hs _ [] [(1,.vc (pS cQ a1)),(22,.vc (pS (wD cQ) a0)),(23,.vc (pI .i64 (a0.length:Int))),(24,.vc (pI .i64 x7))] a w) K (fun a w ⟨_,hF,_⟩=>by cases hF) (fun k a w ⟨x7,hF,hh⟩=>jI ?_ hh) (fun a w hh=>⟨0,hL,iN [] hh⟩)
 rw [gT.eq_2] at hF
 refine go ?_ ?_
 refine aJ hF rfl (fun h10 hF=>?_) (fun h10 hF=>?_)
 ·refine go ?_ ?_
  refine aT ?_
  obtain⟨v11,h12,hF⟩:=bB hF
  refine go ?_ ?_
  refine d7 hF (fun h13 hF=>?_) (fun h13 hF=>?_)
  ·refine go ?_ ?_
   refine lX rfl ?_
   exact cG
  obtain⟨v14,h15,hF⟩:=bC hF wO
  refine go ?_ ?_
  refine aJ hF rfl (fun h16 hF=>?_) (fun h16 hF=>?_)
  ·exact cG
  obtain⟨v17,h18,hF⟩:=bB hF
  refine go ?_ ?_
  exact aK (fun a w hh=>⟨v17,hF,iN [] hh⟩)
 refine dJ ?_
 obtain rfl:=p9 hF
 exact qB Jj9 ⟨hRl8,rfl,rfl⟩ []
def mE (K:Nat):Option Bool:=
 some false
def fO (K:Nat) (a0:List Rat):Nat→Int→Option (LR Bool Unit)
 |0,_=>none
 |k+1,x2=>bif(decide (x2<(a0.length:Int))) then((bK a0 x2).bind fun v6=>(uD v6).bind fun v9=>bif(decide (v9<0)) then(some (.ret true)) else((aP (x2+1)).bind fun v12=>fO K a0 k v12)) else(some (.go ()))
def lY (K:Nat) (a0:List Rat):Option Bool:=
 (fO K a0 K 0).bind fun o=>match o with| .ret r=>some r| .go _=>mE K
theorem zF {K:Nat} {a0:List Rat} {r:Bool} (hF:lY K a0=some r):Ct Tryz.prog 110 [.vc (pS cQ a0)] (.vc (pB r)):=by
 unfold lY at hF
 refine aI Tryz.func110 rfl (by kernel_rfl) Tryz.ntmps110 rfl (fun w0 M0=>?_)
 refine go ?_ ?_
 refine aT (cJ (fun H E=>mE K=some r∧H=[]∧E=[]) ?_ (fun Jj4=>?_))
 ·rintro _ _ ⟨hF,rfl,rfl⟩
  unfold mE at hF
  exact cG
 obtain⟨ol3,hL,hRl3⟩:=bB hF
 refine jE (fun k a w=>∃(x2:Int),fO K a0 k x2=some ol3∧hs _ [] [(5,.vc (pS cQ a0)),(6,.vc (pI .i64 (a0.length:Int))),(7,.vc (pI .i64 x2))] a w) K (fun a w ⟨_,hF,_⟩=>by cases hF) (fun k a w ⟨x2,hF,hh⟩=>jI ?_ hh) (fun a w hh=>⟨0,hL,iN [] hh⟩)
 rw [fO.eq_2] at hF
 refine go ?_ ?_
 refine aJ hF rfl (fun h5 hF=>?_) (fun h5 hF=>?_)
 ·refine go ?_ ?_
  refine aT ?_
  obtain⟨v6,h7,hF⟩:=bB hF
  refine go ?_ ?_
  refine aM rfl tyZ44q (fun b8=>?_)
  obtain⟨v9,h10,hF⟩:=bC hF gC
  refine go ?_ ?_
  refine aJ hF rfl (fun h11 hF=>?_) (fun h11 hF=>?_)
  ·exact cG
  obtain⟨v12,h13,hF⟩:=bB hF
  refine go ?_ ?_
  exact aK (fun a w hh=>⟨v12,hF,iN [] hh⟩)
 refine dJ ?_
 obtain rfl:=p9 hF
 exact qB Jj4 ⟨hRl3,rfl,rfl⟩ []
def lN (K:Nat) (a1:List Rat) (x59:List Int) (x65:List Nat) (x71:List (List Rat)):Option (Int×(List Nat)×(List Int)×(List (List Rat))):=
 some ((a1.length:Int),x65,x59,x71)
def kW (K:Nat) (a1:List Rat) (x40:List Int) (x46:List Nat) (x52:List (List Rat)) (x58:Int) (recl77:(List Int)→(List Nat)→(List (List Rat))→Int→Option ((List Int)×(List Nat)×(List (List Rat)))) (x110:List Rat):Option ((List Int)×(List Nat)×(List (List Rat))):=
 (aP (2*(a1.length:Int))).bind fun v118=>(zJ (-1) 1).bind fun v120=>(bK x110 v118).bind fun v122=>(nL x110 v118 v120).bind fun x124=>(aP (2*(a1.length:Int))).bind fun v127=>(aP (v127+1)).bind fun v129=>(bK a1 x58).bind fun v131=>(bK x124 v129).bind fun v133=>(nL x124 v129 v131).bind fun x135=>(qW x46 [x52.length]).bind fun x139=>(qW x40 [x58]).bind fun x146=>(aP (x58+1)).bind fun v153=>recl77 x146 x139 (x52++[x135]) v153
def eJ (K:Nat) (a0:List (List Rat)) (a1:List Rat) (x58:Int):Nat→(List Rat)→Int→Option (List Rat)
 |0,_,_=>none
 |k+1,x103,x109=>bif(decide (x109<(a1.length:Int))) then((aP ((a1.length:Int)+x109)).bind fun v156=>(bK a0 x58).bind fun v158=>(bK v158 x109).bind fun v160=>(aAY v160).bind fun v162=>(bK x103 v156).bind fun v164=>(nL x103 v156 v162).bind fun x166=>(aP (x109+1)).bind fun v169=>eJ K a0 a1 x58 k x166 v169) else(some x103)
def dY (K:Nat) (a0:List (List Rat)) (a1:List Rat):Nat→(List Int)→(List Nat)→(List (List Rat))→Int→Option ((List Int)×(List Nat)×(List (List Rat)))
 |0,_,_,_,_=>none
 |k+1,x40,x46,x52,x58=>bif(decide (x58<(a1.length:Int))) then((aP (2*(a1.length:Int))).bind fun v80=>(aP (v80+2)).bind fun v82=>(vC v82 0).bind fun x84=>(zJ 1 1).bind fun v89=>(bK x84 x58).bind fun v91=>(nL x84 x58 v89).bind fun x93=>(eJ K a0 a1 x58 K x93 0).bind fun x110=>kW K a1 x40 x46 x52 x58 (dY K a0 a1 k) x110) else(some (x40,x46,x52))
def lT (K:Nat) (a0:List (List Rat)) (a1:List Rat):Option (Int×(List Nat)×(List Int)×(List (List Rat))):=
 (dY K a0 a1 K ([]:List Int) ([]:List Nat) ([]:List (List Rat)) 0).bind fun(x59,x65,x71)=>lN K a1 x59 x65 x71
theorem xX {K:Nat} {a0:List (List Rat)} {a1:List Rat} {r:Int×(List Nat)×(List Int)×(List (List Rat))} (hF:lT K a0 a1=some r):CtO Tryz.prog 109 [] [.vc (pS (wD cQ) a0),.vc (pS cQ a1)] (fun Ho q=>∃b1171 b1175 c1176 n1177 b1180 c1181 n1182 g1185 N1186,r.2.1.length=n1177∧r.2.2.1.length=n1182∧r.2.2.2.length=N1186∧lH g1185 r.2.2.2∧(∀k∈r.2.1,k<N1186)∧Ho=([⟨some b1171,1,151,3,1,([pI .i64 r.1]++[pO b1175 n1177 c1176]++[pO b1180 n1182 c1181])⟩,hO (cH g1185) b1175 c1176 24 n1177 r.2.1,hO cI b1180 c1181 3 n1182 r.2.2.1]++gZ cQ 44 g1185 r.2.2.2)∧q=.vc (pP (some b1171) 0)):=by
 unfold lT at hF
 refine aI Tryz.func109 rfl (by kernel_rfl) Tryz.ntmps109 rfl (fun w0 M0=>?_)
 refine aO (aY (aV (bS (p:=.any) (.inr rfl)) ⟨fun _=>trivial,trivial⟩ ?_))
 refine bU (aU (aO (aY (nI ?_))))
 refine aV (tQ rfl tyS24) zU1 ?_
 refine aAi ?_
 refine bU (aU (aO (aY (nI ?_))))
 refine aMK cQ 44 ?_
 refine aBX (cH ([]:List vL)) 24 ?_
 refine aBX cI 3 ?_
 refine aV (fF (is:=[0]) (xs:=[.tmp 12]) (ps:=[.vc (pI .i64 (a1.length:Int))]) rfl tyB151_o1_o2q rfl rfl ⟨trivial,trivial⟩ rfl) zU1 ?_
 refine cU rfl rfl trivial (fun b20=>?_)
 refine go ?_ ?_
 refine aT (cJ (fun H E=>∃(x59:List Int),∃(x65:List Nat),∃(x71:List (List Rat)),∃(b60:Option Nat),∃(c61:Nat),∃(n62:Nat),∃(b66:Option Nat),∃(c67:Nat),∃(n68:Nat),∃(g72:List vL),∃(N73:Nat),lN K a1 x59 x65 x71=some r∧x59.length=n62∧x65.length=n68∧x71.length=N73∧lH g72 x71∧(∀k∈x65,k<N73)∧H=([⟨some b20,1,151,3,1,([pI .i64 (a1.length:Int)]++[pO b66 n68 c67]++[pO b60 n62 c61])⟩,hO cI b60 c61 3 n62 x59,hO (cH g72) b66 c67 24 n68 x65]++gZ cQ 44 g72 x71)∧E=[(6,.vc (pP (some b20) 0))]) ?_ (fun Jj78=>?_))
 ·rintro _ _ ⟨x59,x65,x71,b60,c61,n62,b66,c67,n68,g72,N73,hF,q63,q69,q74,q75,q76,rfl,rfl⟩
  unfold lN at hF
  refine go ?_ ?_
  refine rW (r5 ?_)
  obtain rfl:=p9 hF
  exact zE (.inl rfl) Tryz.results109 (.tmp rfl .nil) rfl 3 [0,2,1] rfl rfl (by decide) ⟨b20,b66,c67,n68,b60,c61,n62,g72,N73,q69,q63,q74,q75,q76,rfl,rfl⟩
 obtain⟨⟨x59',x65',x71'⟩,hL,hRl77⟩:=bB hF
 refine jE (fun k a w=>∃(x40:List Int),∃(x46:List Nat),∃(x52:List (List Rat)),∃(x58:Int),∃(b41:Option Nat),∃(c42:Nat),∃(n43:Nat),∃(b47:Option Nat),∃(c48:Nat),∃(n49:Nat),∃(g53:List vL),∃(N54:Nat),dY K a0 a1 k x40 x46 x52 x58=some (x59',x65',x71')∧x40.length=n43∧x46.length=n49∧x52.length=N54∧lH g53 x52∧(∀k∈x46,k<N54)∧hs _ ([⟨some b20,1,151,3,1,([pI .i64 (a1.length:Int)]++[pO b47 n49 c48]++[pO b41 n43 c42])⟩,hO cI b41 c42 3 n43 x40,hO (cH g53) b47 c48 24 n49 x46]++gZ cQ 44 g53 x52) [(0,.vc (pS (wD cQ) a0)),(1,.vc (pS cQ a1)),(5,.vc (pI .i64 (a1.length:Int))),(6,.vc (pP (some b20) 0)),(15,.vc (pI .i64 (a1.length:Int))),(16,.vc (pI .i64 x58))] a w) K (fun a w ⟨_,_,_,_,_,_,_,_,_,_,_,_,hF,_,_,_,_,_,_⟩=>by cases hF) (fun k a w ⟨x40,x46,x52,x58,b41,c42,n43,b47,c48,n49,g53,N54,hF,q44,q50,q55,q56,q57,hh⟩=>jI ?_ hh) (fun a w hh=>⟨([]:List Int),([]:List Nat),([]:List (List Rat)),0,none,0,0,none,0,0,([]:List vL),0,hL,rfl,rfl,(rfl),aD8,(by simp),cL 3 [0,1,2] rfl rfl (by decide) (by exact⟨rfl,rfl,rfl,rfl,rfl,rfl,trivial⟩) hh⟩)
 rw [dY.eq_2] at hF
 refine go ?_ ?_
 refine aJ hF rfl (fun h79 hF=>?_) (fun h79 hF=>?_)
 ·refine go ?_ ?_
  refine aT ?_
  obtain⟨v80,h81,v82,h83,x84,h85,hF⟩:=bn3 hF
  refine go ?_ ?_
  refine uE (C:=cQ) rfl tyS24 rfl tyZ44q rfl h85 (fun b86=>?_)
  obtain⟨v89,h90,hF⟩:=bC hF xZ
  obtain⟨v91,h92,x93,h94,hF⟩:=uS hF
  refine go ?_ ?_
  refine aT (cJ (fun H E=>∃(x110:List Rat),kW K a1 x40 x46 x52 x58 (dY K a0 a1 k) x110=some (x59',x65',x71')∧x110.length=x84.length∧H=([hO cQ b86 x84.length 44 x84.length x110,⟨some b20,1,151,3,1,([pI .i64 (a1.length:Int)]++[pO b47 n49 c48]++[pO b41 n43 c42])⟩,hO cI b41 c42 3 n43 x40,hO (cH g53) b47 c48 24 n49 x46]++gZ cQ 44 g53 x52)∧E=[(0,.vc (pS (wD cQ) a0)),(1,.vc (pS cQ a1)),(5,.vc (pI .i64 (a1.length:Int))),(6,.vc (pP (some b20) 0)),(7,.vc (pI .i64 x58)),(8,.vc (pO b86 x84.length x84.length)),(15,.vc (pI .i64 (a1.length:Int))),(16,.vc (pI .i64 x58))]) ?_ (fun Jj117=>?_))
  ·rintro _ _ ⟨x110,hF,q114,rfl,rfl⟩
   unfold kW at hF
   have hF:=rQ h81 hF
   obtain⟨v120,h121,hF⟩:=bC hF xZ
   obtain⟨v122,h123,x124,h125,hF⟩:=uS hF
   have hF:=rQ h81 hF
   obtain⟨v129,h130,v131,h132,v133,h134,x135,h136,hF⟩:=bn4 hF
   refine go ?_ ?_
   refine aV (aQV (rs:=x52) rfl tyS62 q56.1 (show([hO cQ b86 x84.length 44 x84.length x135,⟨some b20,1,151,3,1,([pI .i64 (a1.length:Int)]++[pO b47 n49 c48]++[pO b41 n43 c42])⟩,hO cI b41 c42 3 n43 x40,hO (cH (g53++[(b86,x84.length,x84.length)])) b47 c48 24 n49 x46]++gZ cQ 44 g53 x52)=([hO cQ b86 x84.length 44 x84.length x135,⟨some b20,1,151,3,1,([pI .i64 (a1.length:Int)]++[pO b47 n49 c48]++[pO b41 n43 c42])⟩,hO cI b41 c42 3 n43 x40,hO (cH g53) b47 c48 24 n49 x46]++gZ cQ 44 g53 x52) from by rw [aHP (N:=x52.length) (b86,x84.length,x84.length) q56.1 (aE3 q55 q57)])) zU1 ?_
   refine aDG (g:=(b86,x84.length,x84.length)) 0 4 rfl rfl rfl q56 ?_
   refine aNz 8 rfl (aKn (N:=x52.length) (b86,x84.length,x84.length) q56.1) ?_
   obtain⟨x139,h140,hF⟩:=bB hF
   refine qV 2 rfl tyS62 rfl rfl q50 rfl rfl h140 (fun b141 c142 H143 e144=>?_)
   cases e144
   refine go ?_ ?_
   refine aV (sO (C:=cI) (xs:=[.tmp 74]) (ps:=[.vc (pI .i64 x58)]) (zs:=[x58]) rfl tyS22 rfl ⟨⟨trivial,rfl⟩,trivial⟩ rfl) zU1 ?_
   obtain⟨x146,h147,hF⟩:=bB hF
   refine qV 1 rfl tyS22 rfl rfl q44 rfl rfl h147 (fun b148 c149 H150 e151=>?_)
   cases e151
   obtain⟨v153,h154,hF⟩:=bB hF
   refine go ?_ ?_
   exact aK (fun a w hh=>⟨x146,x139,(x52++[x135]),v153,b148,c149,(n43+[x58].length),b141,c142,(n49+[x52.length].length),(g53++[(b86,x84.length,x84.length)]),(N54+1),hF,(iD h147 q44),(iD h140 q50),(aC9 q55),(yU q56 (bH h136 (bH h125 q114))),(aPk q57 q55 h140),cL 3 [0,1,2] rfl rfl (by decide) (by exact⟨rfl,rfl,rfl,rfl,rfl,rfl,trivial⟩) hh⟩)
  obtain⟨x110',hL,hRl116⟩:=bB hF
  refine jE (fun k a w=>∃(x103:List Rat),∃(x109:Int),eJ K a0 a1 x58 k x103 x109=some x110'∧x103.length=x84.length∧hs _ ([hO cQ b86 x84.length 44 x84.length x103,⟨some b20,1,151,3,1,([pI .i64 (a1.length:Int)]++[pO b47 n49 c48]++[pO b41 n43 c42])⟩,hO cI b41 c42 3 n43 x40,hO (cH g53) b47 c48 24 n49 x46]++gZ cQ 44 g53 x52) [(0,.vc (pS (wD cQ) a0)),(1,.vc (pS cQ a1)),(5,.vc (pI .i64 (a1.length:Int))),(6,.vc (pP (some b20) 0)),(7,.vc (pI .i64 x58)),(8,.vc (pO b86 x84.length x84.length)),(15,.vc (pI .i64 (a1.length:Int))),(16,.vc (pI .i64 x58)),(27,.vc (pI .i64 (a1.length:Int))),(28,.vc (pI .i64 x109))] a w) K (fun a w ⟨_,_,hF,_,_⟩=>by cases hF) (fun k a w ⟨x103,x109,hF,q107,hh⟩=>jI ?_ hh) (fun a w hh=>⟨x93,0,hL,(bH h94 rfl),cL 4 [0,1,2,3] rfl rfl (by decide) (by exact⟨rfl,rfl,rfl,rfl,rfl,rfl,rfl,rfl,rfl,rfl,trivial⟩) hh⟩)
  rw [eJ.eq_2] at hF
  refine go ?_ ?_
  refine aJ hF rfl (fun h155 hF=>?_) (fun h155 hF=>?_)
  ·refine go ?_ ?_
   refine aT ?_
   obtain⟨v156,h157,v158,h159,v160,h161,hF⟩:=bn3 hF
   obtain⟨v162,h163,hF⟩:=bC hF pD
   obtain⟨v164,h165,x166,h167,v169,h170,hF⟩:=bn3 hF
   refine go ?_ ?_
   exact aK (fun a w hh=>⟨x166,v169,hF,(bH h167 q107),cL 4 [0,1,2,3] rfl rfl (by decide) (by exact⟨rfl,rfl,rfl,rfl,rfl,rfl,rfl,rfl,rfl,rfl,trivial⟩) hh⟩)
  refine dJ ?_
  obtain rfl:=p9 hF
  exact oC Jj117 ⟨x103,hRl116,q107,rfl,rfl⟩ 4 [0,1,2,3] rfl rfl ⟨rfl,rfl,rfl,rfl,rfl,rfl,rfl,rfl,trivial⟩
 refine dJ ?_
 obtain⟨rfl,rfl,rfl⟩:=sm3 hF
 exact oC Jj78 ⟨x40,x46,x52,b41,c42,n43,b47,c48,n49,g53,N54,hRl77,q44,q50,q55,q56,q57,rfl,rfl⟩ 3 [0,1,2] rfl rfl zU1
def jV (K:Nat) (x69:List Rat) (x75:List Rat):Option aN:=
 some (⟨x75,x69,0⟩:aN)
def bI (K:Nat) (a0:Int) (a1:List Nat) (a2:List Int) (a3:List (List Rat)):Nat→(List Rat)→(List Rat)→Int→Option ((List Rat)×(List Rat))
 |0,_,_,_=>none
 |k+1,x56,x62,x68=>bif(decide (x68<(a2.length:Int))) then((bK a2 x68).bind fun v84=>(bK a1 x68).bind fun v88=>(aP (2*a0)).bind fun v90=>(aP (v90+1)).bind fun v92=>(bK (a3.getD v88 []) v92).bind fun v94=>bif(decide (v84<a0)) then((bK x56 v84).bind fun v97=>(nL x56 v84 v94).bind fun x99=>(aP (x68+1)).bind fun v102=>bI K a0 a1 a2 a3 k x99 x62 v102) else((aP (2*a0)).bind fun v104=>bif(decide (v84<v104)) then((aP (v84-a0)).bind fun v109=>(bK x62 v109).bind fun v111=>(nL x62 v109 v94).bind fun x113=>(aP (x68+1)).bind fun v116=>bI K a0 a1 a2 a3 k x56 x113 v116) else((aP (x68+1)).bind fun v118=>bI K a0 a1 a2 a3 k x56 x62 v118))) else(some (x56,x62))
def eI (K:Nat) (a0:Int) (a1:List Nat) (a2:List Int) (a3:List (List Rat)):Option aN:=
 (vC a0 0).bind fun x23=>(vC a0 0).bind fun x27=>(bI K a0 a1 a2 a3 K x27 x23 0).bind fun(x69,x75)=>jV K x69 x75
theorem oW {K:Nat} {a0:Int} {a1:List Nat} {a2:List Int} {a3:List (List Rat)} {r:aN} (hF:eI K a0 a1 a2 a3=some r) {p0:Nat} {b4:Option Nat} {c5 n6:Nat} {b9:Option Nat} {c10 n11:Nat} {g14:List vL} {N15:Nat} (q7:a1.length=n6) (q12:a2.length=n11) (q16:a3.length=N15) (q17:lH g14 a3) (q18:∀k∈a1,k<N15):CtO Tryz.prog 111 ([⟨some p0,1,151,3,1,([pI .i64 a0]++[pO b4 n6 c5]++[pO b9 n11 c10])⟩,hO (cH g14) b4 c5 24 n6 a1,hO cI b9 c10 3 n11 a2]++gZ cQ 44 g14 a3) [.vc (pP (some p0) 0)] (fun Ho q=>Ho=([⟨some p0,1,151,3,1,([pI .i64 a0]++[pO b4 n6 c5]++[pO b9 n11 c10])⟩,hO (cH g14) b4 c5 24 n6 a1,hO cI b9 c10 3 n11 a2]++gZ cQ 44 g14 a3)∧q=.va (aN.enc r)):=by
 unfold eI at hF
 refine aI Tryz.func111 rfl (by kernel_rfl) Tryz.ntmps111 rfl (fun w0 M0=>?_)
 refine aO (aY (aM rfl tyZ68q (fun b20=>?_)))
 obtain⟨x23,h24,hF⟩:=bB hF
 have hF:=rQ h24 hF
 refine go ?_ ?_
 refine rJ (HsM [(0,fun G21=>([⟨some b20,1,68,3,1,([pS cQ ([]:List Rat)]++[pS cQ ([]:List Rat)]++[pI .i64 0])⟩,⟨some p0,1,151,3,1,([pI .i64 a0]++[pO b4 n6 c5]++[pO b9 n11 c10])⟩,hO (cH g14) b4 c5 24 n6 a1,hO cI b9 c10 3 n11 a2]++gZ cQ 44 g14 a3)),(1,fun G21=>([hO cQ ((G21 4).1) x23.length 44 x23.length x23,⟨some b20,1,68,3,1,([pS cQ ([]:List Rat)]++[pS cQ ([]:List Rat)]++[pI .i64 0])⟩,⟨some p0,1,151,3,1,([pI .i64 a0]++[pO b4 n6 c5]++[pO b9 n11 c10])⟩,hO (cH g14) b4 c5 24 n6 a1,hO cI b9 c10 3 n11 a2]++gZ cQ 44 g14 a3)),(2,fun G21=>([hO cQ ((G21 9).1) x23.length 44 x23.length x23,⟨some b20,1,68,3,1,([pS cQ ([]:List Rat)]++[pS cQ ([]:List Rat)]++[pI .i64 0])⟩,⟨some p0,1,151,3,1,([pI .i64 a0]++[pO b4 n6 c5]++[pO b9 n11 c10])⟩,hO (cH g14) b4 c5 24 n6 a1,hO cI b9 c10 3 n11 a2]++gZ cQ 44 g14 a3)),(3,fun G21=>([hO cQ ((G21 9).1) x23.length 44 x23.length x23,hO cQ ((G21 4).1) x23.length 44 x23.length x23,⟨some b20,1,68,3,1,([pS cQ ([]:List Rat)]++[pS cQ ([]:List Rat)]++[pI .i64 0])⟩,⟨some p0,1,151,3,1,([pI .i64 a0]++[pO b4 n6 c5]++[pO b9 n11 c10])⟩,hO (cH g14) b4 c5 24 n6 a1,hO cI b9 c10 3 n11 a2]++gZ cQ 44 g14 a3)),(7,fun G21=>([hO cQ (dB (G21 10).2) x23.length 44 x23.length x23,hO cQ ((G21 10).1) x23.length 44 x23.length x23,⟨some b20,1,68,3,1,([pS cQ ([]:List Rat)]++[pS cQ ([]:List Rat)]++[pI .i64 0])⟩,⟨some p0,1,151,3,1,([pI .i64 a0]++[pO b4 n6 c5]++[pO b9 n11 c10])⟩,hO (cH g14) b4 c5 24 n6 a1,hO cI b9 c10 3 n11 a2]++gZ cQ 44 g14 a3))]) [4,9,10] [0,1,3,7,15,0,32,96,224,480,1023,0,4095] 12 1 [.v (.vc (pP (some p0) 0)),.v (.vc (pP (some p0) 0)),.v (.vc (pP (some p0) 0)),.v (.vc (pI .i64 a0)),.g (fun b _=>.vc (pO b x23.length x23.length)),.v (.vc (pP (some p0) 0)),.v (.vc (pP (some p0) 0)),.v (.vc (pP (some p0) 0)),.v (.vc (pI .i64 a0)),.g (fun b _=>.vc (pO b x23.length x23.length)),.g (fun b c=>.va ([pO b x23.length x23.length]++[pO (dB c) x23.length x23.length]++[pI .i64 0])),.a 68 ([pS cQ ([]:List Rat)]++[pS cQ ([]:List Rat)]++[pI .i64 0])] bJ ⟨⟨rfl,.run (L:=[0,2]) ⟨fun G21 A=>bS (.inl rfl),fun G21 A=>bS (.inl rfl),trivial⟩ (fun G21=>zU1)⟩,⟨rfl,.run (L:=[0,2]) ⟨fun G21 A=>wQ rfl,fun G21 A=>wQ rfl,trivial⟩ (fun G21=>zU1)⟩,⟨rfl,.run (L:=[0,2]) ⟨fun G21 A=>p6 (off:=0) (k:=0) rfl tyF151_0,fun G21 A=>p6 (off:=0) (k:=0) rfl tyF151_0,trivial⟩ (fun G21=>zU1)⟩,⟨rfl,.run (L:=[0,2]) ⟨fun G21 A=>gH 1 1 rfl rfl rfl rfl (.one tyO3),fun G21 A=>gH 2 1 rfl rfl rfl rfl (.one tyO3),trivial⟩ (fun G21=>zU1)⟩,⟨rfl,.hvy [0,2] ⟨fun G21 A=>gV (C:=cQ) rfl tyS24 rfl tyZ44q h24,fun G21 A=>qC (R:=gZ cQ 44 g14 a3) [1,0,2,3,4,5] (gV (C:=cQ) rfl tyS24 rfl tyZ44q h24) (fun b_ c_=>⟨[hO cQ (b_) x23.length 44 x23.length x23,hO cQ ((G21 9).1) x23.length 44 x23.length x23,⟨some b20,1,68,3,1,([pS cQ ([]:List Rat)]++[pS cQ ([]:List Rat)]++[pI .i64 0])⟩,⟨some p0,1,151,3,1,([pI .i64 a0]++[pO b4 n6 c5]++[pO b9 n11 c10])⟩,hO (cH g14) b4 c5 24 n6 a1,hO cI b9 c10 3 n11 a2],_,rfl,rfl,rfl⟩),trivial⟩ (fun G21=>zU1)⟩,⟨rfl,.run (L:=[0,1]) ⟨fun G21 A=>bS (.inl rfl),fun G21 A=>bS (.inl rfl),trivial⟩ (fun G21=>zU1)⟩,⟨rfl,.run (L:=[0,1]) ⟨fun G21 A=>wQ rfl,fun G21 A=>wQ rfl,trivial⟩ (fun G21=>zU1)⟩,⟨rfl,.run (L:=[0,1]) ⟨fun G21 A=>p6 (off:=0) (k:=0) rfl tyF151_0,fun G21 A=>p6 (off:=0) (k:=0) rfl tyF151_0,trivial⟩ (fun G21=>zU1)⟩,⟨rfl,.run (L:=[0,1]) ⟨fun G21 A=>gH 1 1 rfl rfl rfl rfl (.one tyO3),fun G21 A=>gH 2 1 rfl rfl rfl rfl (.one tyO3),trivial⟩ (fun G21=>zU1)⟩,⟨rfl,.hvy [0,1] ⟨fun G21 A=>gV (C:=cQ) rfl tyS24 rfl tyZ44q h24,fun G21 A=>gV (C:=cQ) rfl tyS24 rfl tyZ44q h24,trivial⟩ (fun G21=>zU1)⟩,⟨rfl,.hvy [3] ⟨fun G21 A=>aPl (Post:=fun b_ x_=>([hO cQ x_ x23.length 44 x23.length x23,hO cQ b_ x23.length 44 x23.length x23,⟨some b20,1,68,3,1,([pS cQ ([]:List Rat)]++[pS cQ ([]:List Rat)]++[pI .i64 0])⟩,⟨some p0,1,151,3,1,([pI .i64 a0]++[pO b4 n6 c5]++[pO b9 n11 c10])⟩,hO (cH g14) b4 c5 24 n6 a1,hO cI b9 c10 3 n11 a2]++gZ cQ 44 g14 a3)++A) (out:=fun b_ x_=>.va ([pO b_ x23.length x23.length]++[pO x_ x23.length x23.length]++[pI .i64 0])) ((G21 4).1) ((G21 9).1) (fF (is:=[0,1]) (xs:=[.tmp 11,.tmp 16]) (ps:=[.vc (pO ((G21 4).1) x23.length x23.length),.vc (pO ((G21 9).1) x23.length x23.length)]) rfl tyB68q rfl rfl ⟨trivial,trivial,trivial⟩ rfl),trivial⟩ (fun G21=>zU2)⟩,⟨rfl,.alc tyZ68q⟩,trivial⟩ (fun bs22 G21=>?_)
 refine go ?_ ?_
 refine aT (cJ (fun H E=>∃(x69:List Rat),∃(x75:List Rat),jV K x69 x75=some r∧x69.length=x23.length∧x75.length=x23.length∧H=([⟨some (bs22 11),1,68,3,1,([pO ((G21 10).1) x23.length x23.length]++[pO (dB (G21 10).2) x23.length x23.length]++[pI .i64 0])⟩,hO cQ (dB (G21 10).2) x23.length 44 x23.length x69,hO cQ ((G21 10).1) x23.length 44 x23.length x75,⟨some b20,1,68,3,1,([pS cQ ([]:List Rat)]++[pS cQ ([]:List Rat)]++[pI .i64 0])⟩,⟨some p0,1,151,3,1,([pI .i64 a0]++[pO b4 n6 c5]++[pO b9 n11 c10])⟩,hO (cH g14) b4 c5 24 n6 a1,hO cI b9 c10 3 n11 a2]++gZ cQ 44 g14 a3)∧E=[(2,.vc (pP (some b20) 0)),(3,.vc (pP (some (bs22 11)) 0))]) ?_ (fun Jj82=>?_))
 ·rintro _ _ ⟨x69,x75,hF,q73,q79,rfl,rfl⟩
  unfold jV at hF
  refine aU (aO (aY (aAS 2 0 0 rfl q79 rfl rfl rfl rfl rfl ?_)))
  refine aAS 1 0 1 rfl q73 rfl rfl rfl rfl rfl ?_
  refine go ?_ ?_
  refine rW (r5 ?_)
  obtain rfl:=p9 hF
  exact zE (.inl rfl) Tryz.results111 (aFG 1 3 rfl rfl rfl rfl (.agg tyA68) .nil) rfl 5 [2,3,4] rfl rfl (by decide) ⟨rfl,rfl⟩
 obtain⟨⟨x69',x75'⟩,hL,hRl81⟩:=bB hF
 refine jE (fun k a w=>∃(x56:List Rat),∃(x62:List Rat),∃(x68:Int),bI K a0 a1 a2 a3 k x56 x62 x68=some (x69',x75')∧x56.length=x23.length∧x62.length=x23.length∧hs _ ([⟨some (bs22 11),1,68,3,1,([pO ((G21 10).1) x23.length x23.length]++[pO (dB (G21 10).2) x23.length x23.length]++[pI .i64 0])⟩,hO cQ (dB (G21 10).2) x23.length 44 x23.length x56,hO cQ ((G21 10).1) x23.length 44 x23.length x62,⟨some b20,1,68,3,1,([pS cQ ([]:List Rat)]++[pS cQ ([]:List Rat)]++[pI .i64 0])⟩,⟨some p0,1,151,3,1,([pI .i64 a0]++[pO b4 n6 c5]++[pO b9 n11 c10])⟩,hO (cH g14) b4 c5 24 n6 a1,hO cI b9 c10 3 n11 a2]++gZ cQ 44 g14 a3) [(0,.vc (pP (some p0) 0)),(2,.vc (pP (some b20) 0)),(3,.vc (pP (some (bs22 11)) 0)),(21,.vc (pO b9 n11 c10)),(22,.vc (pI .i64 (a2.length:Int))),(23,.vc (pI .i64 x68))] a w) K (fun a w ⟨_,_,_,hF,_,_,_⟩=>by cases hF) (fun k a w ⟨x56,x62,x68,hF,q60,q66,hh⟩=>jI ?_ hh) (fun a w hh=>⟨x23,x23,0,hL,rfl,rfl,cL 7 [0,1,2,3,4,5,6] rfl rfl (by decide) (by exact⟨rfl,rfl,rfl,rfl,rfl,rfl,trivial⟩) hh⟩)
 rw [bI.eq_2] at hF
 refine go ?_ ?_
 refine aJ hF rfl (fun h83 hF=>?_) (fun h83 hF=>?_)
 ·refine go ?_ ?_
  refine aT ?_
  obtain⟨v84,h85,v88,h89,v90,h91,v92,h93,hF⟩:=bn4 hF
  obtain⟨v94,h95,hF⟩:=bB hF
  refine go ?_ ?_
  refine jW [0,1,3,7,0,31,63,0,128,384,896,1920,3968,8191,16383,0,65535] 16 1 [.v (.vc (pP (some p0) 0)),.v (.vc (pP (some p0) 0)),.v (.vc (pP (some p0) 1)),.v (.vc (pO b4 n6 c5)),.v (.vc (pI .i64 x68)),.v (.vc (pE b4 x68 (cH g14).n 0)),.v (.vc (pO (jC g14 v88).1 (jC g14 v88).2.1 (jC g14 v88).2.2)),.v (.vc (pP (some p0) 0)),.v (.vc (pP (some p0) 0)),.v (.vc (pP (some p0) 0)),.v (.vc (pI .i64 a0)),.v (.vc (pI .i64 v90)),.v (.vc (pI .i64 v92)),.v (.vc (pE (jC g14 v88).1 v92 cQ.n 0)),.v (.va (eQ v94)),.a 44 (eQ 0)] bJ ⟨d0 (bS (.inl rfl)) zU1,d0 (wQ rfl) zU1,d0 (p6 (off:=0) (k:=1) rfl tyF151_1) zU1,d0 (gH 4 1 rfl rfl rfl rfl (.one tyO62)) zU1,d0 (bS (.inl rfl)) zU1,d0 (lP (C:=(cH g14)) 5 rfl tyS62 rfl q7 (aS h89).1 (aS h89).2.1) zU2,d0 (pK (C:=(cH g14)) (k:=1) 5 rfl rfl h89 rfl (.one tyO24) rfl) zU1,d0 (bS (.inl rfl)) zU1,d0 (wQ rfl) zU1,d0 (p6 (off:=0) (k:=0) rfl tyF151_0) zU1,d0 (gH 4 1 rfl rfl rfl rfl (.one tyO3)) zU1,d0 (aIk rfl h91) ⟨kC _ _,rfl,trivial⟩,d0 (vW rfl h93) ⟨rfl,kC _ _,trivial⟩,d0 (lP (7+v88) rfl tyS24 (kO 7 rfl q17 q16 (q18 _ (bD h89))) (lO q17 q16 (q18 _ (bD h89))) (aS h95).1 (aS h95).2.1) zU2,d0 (pK (k:=4) (7+v88) rfl (kO 7 rfl q17 q16 (q18 _ (bD h89))) h95 rfl (.agg tyA44) rfl) zU1,⟨rfl,.alc tyZ44q⟩,trivial⟩ (fun bs87 G86=>?_)
  refine go ?_ ?_
  refine aT (go ?_ ?_)
  refine aJ hF rfl (fun h96 hF=>?_) (fun h96 hF=>?_)
  ·obtain⟨v97,h98,x99,h100,v102,h103,hF⟩:=bn3 hF
   refine go ?_ ?_
   exact aK (fun a w hh=>⟨x99,x62,v102,hF,(bH h100 q60),q66,cL 8 [1,2,3,4,5,6,7] rfl rfl (by decide) (by exact⟨rfl,rfl,rfl,rfl,rfl,rfl,trivial⟩) hh⟩)
  have hF:=rQ h91 hF
  refine go ?_ ?_
  refine aJ hF rfl (fun h106 hF=>?_) (fun h106 hF=>?_)
  ·obtain⟨v109,h110,hF⟩:=bB hF
   obtain⟨v111,h112,hF⟩:=bB hF
   refine dr [0,1,0,0,8,24,56,124,0,511,1023] 10 1 ?_ (fun bs108 G107=>?_)
   obtain⟨x113,h114,v116,h117,hF⟩:=uS hF
   refine go ?_ ?_
   exact aK (fun a w hh=>⟨x56,x113,v116,hF,q60,(bH h114 q66),cL 8 [1,2,3,4,5,6,7] rfl rfl (by decide) (by exact⟨rfl,rfl,rfl,rfl,rfl,rfl,trivial⟩) hh⟩)
  obtain⟨v118,h119,hF⟩:=bB hF
  refine go ?_ ?_
  exact aK (fun a w hh=>⟨x56,x62,v118,hF,q60,q66,cL 8 [1,2,3,4,5,6,7] rfl rfl (by decide) (by exact⟨rfl,rfl,rfl,rfl,rfl,rfl,trivial⟩) hh⟩)
 refine dJ ?_
 obtain⟨rfl,rfl⟩:=sm2 hF
 exact oC Jj82 ⟨x56,x62,hRl81,q60,q66,rfl,rfl⟩ 7 [0,1,2,3,4,5,6] rfl rfl zU2
def gW (K:Nat):Option Bool:=
 some false
def dQ (K:Nat) (a0:Int) (a1:Rat) (a2:Int) (a3:Rat) (a5:List Nat) (a7:List (List Rat)) (x23:Int) (recl24:Int→Option (LR Bool Unit)) (x28:Int):Option (LR Bool Unit):=
 (bK a5 a0).bind fun v32=>(bK (a7.getD v32 []) x28).bind fun v34=>(aFH v34 a1).bind fun v36=>(bK a5 a2).bind fun v38=>(bK (a7.getD v38 []) x28).bind fun v40=>(aFH v40 a3).bind fun v42=>(aFQ v36 v42).bind fun v44=>bif(v44 != 0) then(some (.ret (decide (v44<0)))) else((aP (x23+1)).bind fun v47=>recl24 v47)
def aR (K:Nat) (a0:Int) (a1:Rat) (a2:Int) (a3:Rat) (a4:Int) (a5:List Nat) (a7:List (List Rat)):Nat→Int→Option (LR Bool Unit)
 |0,_=>none
 |k+1,x23=>bif(decide (x23<a4)) then(bif(decide (x23<0)) then((aP (2*a4)).bind fun v50=>(aP (v50+1)).bind fun v52=>dQ K a0 a1 a2 a3 a5 a7 x23 (aR K a0 a1 a2 a3 a4 a5 a7 k) v52) else(dQ K a0 a1 a2 a3 a5 a7 x23 (aR K a0 a1 a2 a3 a4 a5 a7 k) x23)) else(some (.go ()))
def dV (K:Nat) (a0:Int) (a1:Rat) (a2:Int) (a3:Rat) (a4:Int) (a5:List Nat) (a6:List Int) (a7:List (List Rat)):Option Bool:=
 (aR K a0 a1 a2 a3 a4 a5 a7 K (-1)).bind fun o=>match o with| .ret r=>some r| .go _=>gW K
theorem pZ {K:Nat} {a0:Int} {a1:Rat} {a2:Int} {a3:Rat} {a4:Int} {a5:List Nat} {a6:List Int} {a7:List (List Rat)} {r:Bool} (hF:dV K a0 a1 a2 a3 a4 a5 a6 a7=some r) {p0:Nat} {b4:Option Nat} {c5 n6:Nat} {b9:Option Nat} {c10 n11:Nat} {g14:List vL} {N15:Nat} (q7:a5.length=n6) (q12:a6.length=n11) (q16:a7.length=N15) (q17:lH g14 a7) (q18:∀k∈a5,k<N15):CtO Tryz.prog 113 ([⟨some p0,1,151,3,1,([pI .i64 a4]++[pO b4 n6 c5]++[pO b9 n11 c10])⟩,hO (cH g14) b4 c5 24 n6 a5,hO cI b9 c10 3 n11 a6]++gZ cQ 44 g14 a7) [.vc (pP (some p0) 0),.vc (pI .i64 a0),.va (eQ a1),.vc (pI .i64 a2),.va (eQ a3)] (fun Ho q=>Ho=([⟨some p0,1,151,3,1,([pI .i64 a4]++[pO b4 n6 c5]++[pO b9 n11 c10])⟩,hO (cH g14) b4 c5 24 n6 a5,hO cI b9 c10 3 n11 a6]++gZ cQ 44 g14 a7)∧q=.vc (pB r)):=by
 unfold dV at hF
 refine aI Tryz.func113 rfl (by kernel_rfl) Tryz.ntmps113 rfl (fun w0 M0=>?_)
 refine aO (aY (cU rfl rfl trivial (fun b20=>?_)))
 refine cU rfl rfl trivial (fun b21=>?_)
 refine go ?_ ?_
 refine aT (cJ (fun H E=>gW K=some r∧H=([⟨some p0,1,151,3,1,([pI .i64 a4]++[pO b4 n6 c5]++[pO b9 n11 c10])⟩,hO (cH g14) b4 c5 24 n6 a5,hO cI b9 c10 3 n11 a6]++gZ cQ 44 g14 a7)∧E=[]) ?_ (fun Jj25=>?_))
 ·rintro _ _ ⟨hF,rfl,rfl⟩
  unfold gW at hF
  refine go ?_ ?_
  refine rW (r5 ?_)
  obtain rfl:=p9 hF
  exact zE (.inl rfl) Tryz.results113 (.tmp rfl .nil) rfl 3 [0,1,2] rfl rfl (by decide) ⟨rfl,rfl⟩
 obtain⟨ol24,hL,hRl24⟩:=bB hF
 refine jE (fun k a w=>∃(x23:Int),aR K a0 a1 a2 a3 a4 a5 a7 k x23=some ol24∧hs _ ([⟨some b21,1,44,4,1,(eQ a3)⟩,⟨some b20,1,44,4,1,(eQ a1)⟩,⟨some p0,1,151,3,1,([pI .i64 a4]++[pO b4 n6 c5]++[pO b9 n11 c10])⟩,hO (cH g14) b4 c5 24 n6 a5,hO cI b9 c10 3 n11 a6]++gZ cQ 44 g14 a7) [(0,.vc (pP (some p0) 0)),(1,.vc (pI .i64 a0)),(3,.vc (pI .i64 a2)),(7,.vc (pP (some b20) 0)),(9,.vc (pP (some b21) 0)),(11,.vc (pI .i64 x23))] a w) K (fun a w ⟨_,hF,_⟩=>by cases hF) (fun k a w ⟨x23,hF,hh⟩=>jI ?_ hh) (fun a w hh=>⟨(-1),hL,cL 5 [0,1,2,3,4] rfl rfl (by decide) (by exact⟨rfl,rfl,rfl,rfl,rfl,rfl,trivial⟩) hh⟩)
 rw [aR.eq_2] at hF
 refine go ?_ ?_
 refine aJ hF rfl (fun h26 hF=>?_) (fun h26 hF=>?_)
 ·refine go ?_ ?_
  refine aT (aO (aY (nI ?_)))
  refine aAi ?_
  refine bU (aU (aO (uI (fun H E=>∃(x28:Int),dQ K a0 a1 a2 a3 a5 a7 x23 (aR K a0 a1 a2 a3 a4 a5 a7 k) x28=some ol24∧H=([⟨some b21,1,44,4,1,(eQ a3)⟩,⟨some b20,1,44,4,1,(eQ a1)⟩,⟨some p0,1,151,3,1,([pI .i64 a4]++[pO b4 n6 c5]++[pO b9 n11 c10])⟩,hO (cH g14) b4 c5 24 n6 a5,hO cI b9 c10 3 n11 a6]++gZ cQ 44 g14 a7)∧E=[(0,.vc (pP (some p0) 0)),(1,.vc (pI .i64 a0)),(3,.vc (pI .i64 a2)),(7,.vc (pP (some b20) 0)),(9,.vc (pP (some b21) 0)),(11,.vc (pI .i64 x23)),(12,.vc (pI .i64 x28))]) ?_ (fun Jj29=>?_))))
  ·rintro _ _ ⟨x28,hF,rfl,rfl⟩
   unfold dQ at hF
   refine aO ?_
   obtain⟨v32,h33,hF⟩:=bB hF
   obtain⟨v34,h35,hF⟩:=bB hF
   obtain⟨v36,h37,hF⟩:=bC hF aA7
   obtain⟨v38,h39,hF⟩:=bB hF
   obtain⟨v40,h41,hF⟩:=bB hF
   obtain⟨v42,h43,hF⟩:=bC hF aA7
   obtain⟨v44,h45,hF⟩:=bC hF rT
   refine jW (0::1::3::7::0::31::63::0::255::511::0::2047::0::4096::12288::28672::0::126976::258048::0::1044480::2093056::0::8388607::16777215::33554431::[]) 26 0 (.v (.vc (pP (some p0) 0))::.v (.vc (pP (some p0) 0))::.v (.vc (pP (some p0) 1))::.v (.vc (pO b4 n6 c5))::.v (.vc (pI .i64 a0))::.v (.vc (pE b4 a0 (cH g14).n 0))::.v (.vc (pO (jC g14 v32).1 (jC g14 v32).2.1 (jC g14 v32).2.2))::.v (.vc (pI .i64 x28))::.v (.vc (pE (jC g14 v32).1 x28 cQ.n 0))::.v (.va (eQ v34))::.v (.va (eQ a1))::.v (.va (eQ v36))::.v (.vc (pP (some p0) 0))::.v (.vc (pP (some p0) 0))::.v (.vc (pP (some p0) 1))::.v (.vc (pO b4 n6 c5))::.v (.vc (pI .i64 a2))::.v (.vc (pE b4 a2 (cH g14).n 0))::.v (.vc (pO (jC g14 v38).1 (jC g14 v38).2.1 (jC g14 v38).2.2))::.v (.vc (pI .i64 x28))::.v (.vc (pE (jC g14 v38).1 x28 cQ.n 0))::.v (.va (eQ v40))::.v (.va (eQ a3))::.v (.va (eQ v42))::.v (.vc (pI .i64 v44))::.v (.vc (pI .i64 v44))::[]) bJ ⟨d0 (bS (.inl rfl)) zU1,d0 (wQ rfl) zU1,d0 (p6 (off:=0) (k:=1) rfl tyF151_1) zU1,d0 (gH 2 1 rfl rfl rfl rfl (.one tyO62)) zU1,d0 (bS (.inl rfl)) zU1,d0 (lP (C:=(cH g14)) 3 rfl tyS62 rfl q7 (aS h33).1 (aS h33).2.1) zU2,d0 (pK (C:=(cH g14)) (k:=1) 3 rfl rfl h33 rfl (.one tyO24) rfl) zU1,d0 (bS (.inl rfl)) zU1,d0 (lP (5+v32) rfl tyS24 (kO 5 rfl q17 q16 (q18 _ (bD h33))) (lO q17 q16 (q18 _ (bD h33))) (aS h35).1 (aS h35).2.1) zU2,d0 (pK (k:=4) (5+v32) rfl (kO 5 rfl q17 q16 (q18 _ (bD h33))) h35 rfl (.agg tyA44) rfl) zU1,d0 (gH 1 4 rfl rfl rfl rfl (.agg tyA44)) zU1,d0 (bP rfl h37 rfl) zU2,d0 (bS (.inl rfl)) zU1,d0 (wQ rfl) zU1,d0 (p6 (off:=0) (k:=1) rfl tyF151_1) zU1,d0 (gH 2 1 rfl rfl rfl rfl (.one tyO62)) zU1,d0 (bS (.inl rfl)) zU1,d0 (lP (C:=(cH g14)) 3 rfl tyS62 rfl q7 (aS h39).1 (aS h39).2.1) zU2,d0 (pK (C:=(cH g14)) (k:=1) 3 rfl rfl h39 rfl (.one tyO24) rfl) zU1,d0 (bS (.inl rfl)) zU1,d0 (lP (5+v38) rfl tyS24 (kO 5 rfl q17 q16 (q18 _ (bD h39))) (lO q17 q16 (q18 _ (bD h39))) (aS h41).1 (aS h41).2.1) zU2,d0 (pK (k:=4) (5+v38) rfl (kO 5 rfl q17 q16 (q18 _ (bD h39))) h41 rfl (.agg tyA44) rfl) zU1,d0 (gH 0 4 rfl rfl rfl rfl (.agg tyA44)) zU1,d0 (bP rfl h43 rfl) zU2,d0 (bP rfl h45 rfl) zU2,d0 (bS (.inr rfl)) zU1,trivial⟩ (fun bs31 G30=>?_)
   refine go ?_ ?_
   refine aJ hF rfl (fun h46 hF=>?_) (fun h46 hF=>?_)
   ·refine go ?_ ?_
    refine rW (r5 ?_)
    obtain rfl:=p9 hF
    obtain rfl:=p9 hRl24
    exact zE (.inl rfl) Tryz.results113 (.tmp rfl .nil) rfl 5 [2,3,4] rfl rfl (by decide) ⟨rfl,rfl⟩
   obtain⟨v47,h48,hF⟩:=bB hF
   refine go ?_ ?_
   exact aK (fun a w hh=>⟨v47,hF,cL 5 [0,1,2,3,4] rfl rfl (by decide) (by exact⟨rfl,rfl,rfl,rfl,rfl,rfl,trivial⟩) hh⟩)
  refine go ?_ ?_
  refine aJ hF rfl (fun h49 hF=>?_) (fun h49 hF=>?_)
  ·refine aY (nI ?_)
   refine aV (wQ rfl) zU1 ?_
   refine aV (p6 (off:=0) (k:=0) rfl tyF151_0) zU1 ?_
   refine aV (gH 2 1 rfl rfl rfl rfl (.one tyO3)) zU1 ?_
   obtain⟨v50,h51,hF⟩:=bB hF
   refine aV (aIk rfl h51) ⟨kC _ _,rfl,trivial⟩ ?_
   obtain⟨v52,h53,hF⟩:=bB hF
   refine aV (vW rfl h53) ⟨rfl,kC _ _,trivial⟩ ?_
   refine aAi ?_
   refine bU ?_
   exact oC Jj29 ⟨v52,hF,rfl,rfl⟩ 5 [0,1,2,3,4] rfl rfl ⟨rfl,rfl,rfl,rfl,rfl,rfl,rfl,trivial⟩
  refine iV ?_
  exact oC Jj29 ⟨x23,hF,rfl,rfl⟩ 5 [0,1,2,3,4] rfl rfl ⟨rfl,rfl,rfl,rfl,rfl,rfl,rfl,trivial⟩
 refine dJ ?_
 obtain rfl:=p9 hF
 exact oC Jj25 ⟨hRl24,rfl,rfl⟩ 5 [2,3,4] rfl rfl trivial
def gL (K:Nat) (a0:Int) (a1:Int) (a4:List Int) (x57:List Nat) (x71:List (List Rat)):Option (Int×(List Nat)×(List Int)×(List (List Rat))):=
 (bK a4 a0).bind fun v77=>(bK a4 a0).bind fun v79=>(nL a4 a0 a1).bind fun x81=>some (v77,x57,x81,x71)
def gK (K:Nat) (x70:Int) (recl75:(List (List Rat))→Int→Option (List (List Rat))) (x108:List (List Rat)):Option (List (List Rat)):=
 (aP (x70+1)).bind fun v114=>recl75 x108 v114
def cP (K:Nat) (a5:List (List Rat)) (x66:List (List Rat)) (v85:Nat) (v87:Rat):Nat→(List (List Rat))→Int→Option (List (List Rat))
 |0,_,_=>none
 |k+1,x103,x107=>bif(decide (x107<((x66.getD v85 []).length:Int))) then((bK (x103.getD v85 []) x107).bind fun v119=>(bK (x103.getD a5.length []) x107).bind fun v121=>(w5 v87 v121).bind fun v123=>(aDZ v119 v123).bind fun v125=>(bK (x103.getD v85 []) x107).bind fun v127=>(nL (x103.getD v85 []) x107 v125).bind fun x129=>(aP (x107+1)).bind fun v132=>cP K a5 x66 v85 v87 k (x103.set v85 x129) v132) else(some x103)
def bA (K:Nat) (a0:Int) (a1:Int) (a5:List (List Rat)) (x57:List Nat):Nat→(List (List Rat))→Int→Option (List (List Rat))
 |0,_,_=>none
 |k+1,x66,x70=>bif(decide (x70<(x57.length:Int))) then((bK x57 x70).bind fun v85=>(bK (x66.getD v85 []) a1).bind fun v87=>bif(x70==a0) then((aP (x70+1)).bind fun v91=>bA K a0 a1 a5 x57 k x66 v91) else((uD v87).bind fun v93=>bif(v93==0) then((aP (x70+1)).bind fun v96=>bA K a0 a1 a5 x57 k x66 v96) else((cP K a5 x66 v85 v87 K x66 0).bind fun x108=>gK K x70 (bA K a0 a1 a5 x57 k) x108))) else(some x66)
def gM (K:Nat) (a0:Int) (a1:Int) (a3:List Nat) (a4:List Int) (a5:List (List Rat)) (x47:List Rat):Option (Int×(List Nat)×(List Int)×(List (List Rat))):=
 (bK a3 a0).bind fun v55=>(nL a3 a0 a5.length).bind fun x57=>(bA K a0 a1 a5 x57 K (a5++[x47]) 0).bind fun x71=>gL K a0 a1 a4 x57 x71
def cS (K:Nat) (a5:List (List Rat)) (x22:List Rat) (v27:Nat) (v30:Rat):Nat→(List Rat)→Int→Option (List Rat)
 |0,_,_=>none
 |k+1,x40,x46=>bif(decide (x46<((cpL x22 (a5.getD v27 [])).length:Int))) then((bK x40 x46).bind fun v137=>(aFH v137 v30).bind fun v139=>(bK x40 x46).bind fun v141=>(nL x40 x46 v139).bind fun x143=>(aP (x46+1)).bind fun v146=>cS K a5 x22 v27 v30 k x143 v146) else(some x40)
def gE (K:Nat) (a0:Int) (a1:Int) (a2:Int) (a3:List Nat) (a4:List Int) (a5:List (List Rat)):Option (Int×(List Nat)×(List Int)×(List (List Rat))):=
 (bK a3 a0).bind fun v20=>(vC ((a5.getD v20 []).length:Int) 0).bind fun x22=>(bK a3 a0).bind fun v27=>(bK (cpL x22 (a5.getD v27 [])) a1).bind fun v30=>(cS K a5 x22 v27 v30 K (cpL x22 (a5.getD v27 [])) 0).bind fun x47=>gM K a0 a1 a3 a4 a5 x47
theorem uT {K:Nat} {a0:Int} {a1:Int} {a2:Int} {a3:List Nat} {a4:List Int} {a5:List (List Rat)} {r:Int×(List Nat)×(List Int)×(List (List Rat))} (hF:gE K a0 a1 a2 a3 a4 a5=some r) {p0:Nat} {b4:Option Nat} {c5 n6:Nat} {b9:Option Nat} {c10 n11:Nat} {g14:List vL} {N15:Nat} (q7:a3.length=n6) (q12:a4.length=n11) (q16:a5.length=N15) (q17:lH g14 a5) (q18:∀k∈a3,k<N15):CtO Tryz.prog 114 ([⟨some p0,1,151,3,1,([pI .i64 a2]++[pO b4 n6 c5]++[pO b9 n11 c10])⟩,hO (cH g14) b4 c5 24 n6 a3,hO cI b9 c10 3 n11 a4]++gZ cQ 44 g14 a5) [.vc (pP (some p0) 0),.vc (pI .i64 a0),.vc (pI .i64 a1)] (fun Ho q=>∃b1148 c1149 n1150 g1155 N1156,r.2.1.length=n1150∧r.2.2.1.length=n11∧r.2.2.2.length=N1156∧lH g1155 r.2.2.2∧(∀k∈r.2.1,k<N1156)∧Ho=([⟨some p0,1,151,3,1,([pI .i64 a2]++[pO b1148 n1150 c1149]++[pO b9 n11 c10])⟩,hO (cH g1155) b1148 c1149 24 n1150 r.2.1,hO cI b9 c10 3 n11 r.2.2.1]++gZ cQ 44 g1155 r.2.2.2)∧q=.vc (pI .i64 r.1)):=by
 unfold gE at hF
 refine aI Tryz.func114 rfl (by kernel_rfl) Tryz.ntmps114 rfl (fun w0 M0=>?_)
 obtain⟨v20,h21,hF⟩:=bB hF
 refine go ?_ ?_
 refine aV (aEJ (C:=cQ) (xs:=(a5.getD v20 [])) (T:=44) rfl tyS24 (lO q17 q16 (q18 _ (bD h21)))) zU1 ?_
 obtain⟨x22,h23,hF⟩:=bB hF
 refine uE (C:=cQ) rfl tyS24 rfl tyZ44q rfl h23 (fun b24=>?_)
 have hF:=rQ h21 hF
 refine go ?_ ?_
 refine aV (aQj 0 (4+v20) rfl tyS24 rfl rfl (aBq 4 rfl q17 q16 (q18 _ (bD h21))) (lO q17 q16 (q18 _ (bD h21))) rfl) zU2 ?_
 obtain⟨v30,h31,hF⟩:=bB hF
 refine go ?_ ?_
 refine aV (lP (C:=cQ) 0 rfl tyS24 rfl (aBg rfl) (aS h31).1 (aS h31).2.1) zU2 ?_
 refine aV (pK (k:=4) 0 rfl rfl h31 rfl (.agg tyA44) rfl) zU1 ?_
 refine aM rfl tyZ44q (fun b32=>?_)
 refine go ?_ ?_
 refine aV (aEJ (C:=cQ) (xs:=(cpL x22 (a5.getD v20 []))) (T:=44) rfl tyS24 (aBg rfl)) zU1 ?_
 refine go ?_ ?_
 refine aT (cJ (fun H E=>∃(x47:List Rat),gM K a0 a1 a3 a4 a5 x47=some r∧x47.length=x22.length∧H=([hO cQ b24 x22.length 44 x22.length x47,⟨some p0,1,151,3,1,([pI .i64 a2]++[pO b4 n6 c5]++[pO b9 n11 c10])⟩,hO (cH g14) b4 c5 24 n6 a3,hO cI b9 c10 3 n11 a4]++gZ cQ 44 g14 a5)∧E=[(0,.vc (pP (some p0) 0)),(1,.vc (pI .i64 a0)),(2,.vc (pI .i64 a1)),(7,.vc (pO b24 x22.length x22.length))]) ?_ (fun Jj54=>?_))
 ·rintro _ _ ⟨x47,hF,q51,rfl,rfl⟩
  unfold gM at hF
  refine aU (aO (aY (nI ?_)))
  refine aV (wQ rfl) zU1 ?_
  refine aV (p6 (off:=0) (k:=1) rfl tyF151_1) zU1 ?_
  refine aV (gH 1 1 rfl rfl rfl rfl (.one tyO62)) zU1 ?_
  refine nI ?_
  refine nI ?_
  have hF:=rQ h21 hF
  refine aV (lP (C:=(cH g14)) 2 rfl tyS62 rfl q7 (aS h21).1 (aS h21).2.1) zU2 ?_
  obtain⟨x57,h58,hF⟩:=bB hF
  refine aOv (show([hO cQ b24 x22.length 44 x22.length x47,⟨some p0,1,151,3,1,([pI .i64 a2]++[pO b4 n6 c5]++[pO b9 n11 c10])⟩,hO (cH (g14++[(b24,x22.length,x22.length)])) b4 c5 24 n6 a3,hO cI b9 c10 3 n11 a4]++gZ cQ 44 g14 a5)=([hO cQ b24 x22.length 44 x22.length x47,⟨some p0,1,151,3,1,([pI .i64 a2]++[pO b4 n6 c5]++[pO b9 n11 c10])⟩,hO (cH g14) b4 c5 24 n6 a3,hO cI b9 c10 3 n11 a4]++gZ cQ 44 g14 a5) from by rw [aHP (N:=a5.length) (b24,x22.length,x22.length) q17.1 (aE3 q16 q18)]) ?_
  refine oQ (wL (C:=cH (g14++[(b24,x22.length,x22.length)])) (z':=a5.length) 2 rfl rfl h21 h58 tyO24.s (hq:=aGA (b24,x22.length,x22.length) q17.1)) zU2 ?_
  refine aDG (g:=(b24,x22.length,x22.length)) 0 4 rfl rfl rfl q17 ?_
  refine aNz 7 rfl (aKn (N:=a5.length) (b24,x22.length,x22.length) q17.1) ?_
  refine go ?_ ?_
  refine aT (cJ (fun H E=>∃(x71:List (List Rat)),gL K a0 a1 a4 x57 x71=some r∧x71.length=(N15+1)∧lH (g14++[(b24,x22.length,x22.length)]) x71∧H=([⟨some p0,1,151,3,1,([pI .i64 a2]++[pO b4 n6 c5]++[pO b9 n11 c10])⟩,hO (cH (g14++[(b24,x22.length,x22.length)])) b4 c5 24 n6 x57,hO cI b9 c10 3 n11 a4]++gZ cQ 44 (g14++[(b24,x22.length,x22.length)]) x71)∧E=[(0,.vc (pP (some p0) 0)),(1,.vc (pI .i64 a0)),(2,.vc (pI .i64 a1))]) ?_ (fun Jj76=>?_))
  ·rintro _ _ ⟨x71,hF,q72,q73,rfl,rfl⟩
   unfold gL at hF
   obtain⟨v77,h78,hF⟩:=bB hF
   have hF:=rQ h78 hF
   obtain⟨x81,h82,hF⟩:=bB hF
   refine go ?_ ?_
   refine rW (r5 ?_)
   obtain rfl:=p9 hF
   exact zE (.inl rfl) Tryz.results114 (.tmp rfl .nil) rfl 3 [0,1,2] rfl rfl (by decide) ⟨b4,c5,n6,(g14++[(b24,x22.length,x22.length)]),(N15+1),(bH h58 q7),(bH h82 q12),q72,q73,(rO q18 h58 q16),rfl,rfl⟩
  obtain⟨x71',hL,hRl75⟩:=bB hF
  refine jE (fun k a w=>∃(x66:List (List Rat)),∃(x70:Int),bA K a0 a1 a5 x57 k x66 x70=some x71'∧x66.length=(N15+1)∧lH (g14++[(b24,x22.length,x22.length)]) x66∧hs _ ([⟨some p0,1,151,3,1,([pI .i64 a2]++[pO b4 n6 c5]++[pO b9 n11 c10])⟩,hO (cH (g14++[(b24,x22.length,x22.length)])) b4 c5 24 n6 x57,hO cI b9 c10 3 n11 a4]++gZ cQ 44 (g14++[(b24,x22.length,x22.length)]) x66) [(0,.vc (pP (some p0) 0)),(1,.vc (pI .i64 a0)),(2,.vc (pI .i64 a1)),(7,.vc (pO (jC (g14++[(b24,x22.length,x22.length)]) a5.length).1 (jC (g14++[(b24,x22.length,x22.length)]) a5.length).2.1 (jC (g14++[(b24,x22.length,x22.length)]) a5.length).2.2)),(62,.vc (pO b4 n6 c5)),(63,.vc (pI .i64 (x57.length:Int))),(64,.vc (pI .i64 x70))] a w) K (fun a w ⟨_,_,hF,_,_,_⟩=>by cases hF) (fun k a w ⟨x66,x70,hF,q67,q68,hh⟩=>jI ?_ hh) (fun a w hh=>⟨(a5++[x47]),0,hL,(aC9 q16),(yU q17 q51),cL 3 [0,1,2] rfl rfl (by decide) (by exact⟨rfl,rfl,rfl,rfl,rfl,rfl,rfl,trivial⟩) hh⟩)
  rw [bA.eq_2] at hF
  refine go ?_ ?_
  refine aJ hF rfl (fun h84 hF=>?_) (fun h84 hF=>?_)
  ·refine go ?_ ?_
   refine aT ?_
   obtain⟨v85,h86,v87,h88,hF⟩:=uS hF
   refine go ?_ ?_
   refine aV (lP (3+v85) rfl tyS24 (aBq 3 rfl q68 q67 ((rO q18 h58 q16) _ (bD h86))) (lO q68 q67 ((rO q18 h58 q16) _ (bD h86))) (aS h88).1 (aS h88).2.1) zU2 ?_
   refine aV (pK (k:=4) (3+v85) rfl (aBq 3 rfl q68 q67 ((rO q18 h58 q16) _ (bD h86))) h88 rfl (.agg tyA44) rfl) zU1 ?_
   refine aM rfl tyZ44q (fun b89=>?_)
   refine go ?_ ?_
   refine d7 hF (fun h90 hF=>?_) (fun h90 hF=>?_)
   ·refine go ?_ ?_
    refine lX rfl ?_
    refine dJ ?_
    obtain⟨v91,h92,hF⟩:=bB hF
    refine go ?_ ?_
    exact aK (fun a w hh=>⟨x66,v91,hF,q67,q68,cL 4 [1,2,3] rfl rfl (by decide) (by exact⟨rfl,rfl,rfl,rfl,rfl,rfl,rfl,trivial⟩) hh⟩)
   obtain⟨v93,h94,hF⟩:=bC hF gC
   refine go ?_ ?_
   refine aJ hF rfl (fun h95 hF=>?_) (fun h95 hF=>?_)
   ·refine dJ ?_
    obtain⟨v96,h97,hF⟩:=bB hF
    refine go ?_ ?_
    exact aK (fun a w hh=>⟨x66,v96,hF,q67,q68,cL 4 [1,2,3] rfl rfl (by decide) (by exact⟨rfl,rfl,rfl,rfl,rfl,rfl,rfl,trivial⟩) hh⟩)
   refine go ?_ ?_
   refine aV (aEJ (C:=cQ) (xs:=(x66.getD v85 [])) (T:=44) rfl tyS24 (lO q68 q67 ((rO q18 h58 q16) _ (bD h86)))) zU1 ?_
   refine go ?_ ?_
   refine aT (cJ (fun H E=>∃(x108:List (List Rat)),gK K x70 (bA K a0 a1 a5 x57 k) x108=some x71'∧x108.length=(N15+1)∧lH (g14++[(b24,x22.length,x22.length)]) x108∧H=([⟨some p0,1,151,3,1,([pI .i64 a2]++[pO b4 n6 c5]++[pO b9 n11 c10])⟩,hO (cH (g14++[(b24,x22.length,x22.length)])) b4 c5 24 n6 x57,hO cI b9 c10 3 n11 a4]++gZ cQ 44 (g14++[(b24,x22.length,x22.length)]) x108)∧E=[(0,.vc (pP (some p0) 0)),(1,.vc (pI .i64 a0)),(2,.vc (pI .i64 a1)),(7,.vc (pO (jC (g14++[(b24,x22.length,x22.length)]) a5.length).1 (jC (g14++[(b24,x22.length,x22.length)]) a5.length).2.1 (jC (g14++[(b24,x22.length,x22.length)]) a5.length).2.2)),(62,.vc (pO b4 n6 c5)),(63,.vc (pI .i64 (x57.length:Int))),(64,.vc (pI .i64 x70)),(77,.va (eQ v87)),(78,.vc (pI .i64 v93)),(79,.vc (pB (v93==0)))]) ?_ (fun Jj113=>?_))
   ·rintro _ _ ⟨x108,hF,q109,q110,rfl,rfl⟩
    unfold gK at hF
    obtain⟨v114,h115,hF⟩:=bB hF
    refine go ?_ ?_
    exact aK (fun a w hh=>⟨x108,v114,hF,q109,q110,cL 3 [0,1,2] rfl rfl (by decide) (by exact⟨rfl,rfl,rfl,rfl,rfl,rfl,rfl,trivial⟩) hh⟩)
   obtain⟨x108',hL,hRl112⟩:=bB hF
   refine jE (fun k a w=>∃(x103:List (List Rat)),∃(x107:Int),cP K a5 x66 v85 v87 k x103 x107=some x108'∧x103.length=(N15+1)∧lH (g14++[(b24,x22.length,x22.length)]) x103∧hs _ ([⟨some b89,1,44,4,1,(eQ v87)⟩,⟨some p0,1,151,3,1,([pI .i64 a2]++[pO b4 n6 c5]++[pO b9 n11 c10])⟩,hO (cH (g14++[(b24,x22.length,x22.length)])) b4 c5 24 n6 x57,hO cI b9 c10 3 n11 a4]++gZ cQ 44 (g14++[(b24,x22.length,x22.length)]) x103) [(0,.vc (pP (some p0) 0)),(1,.vc (pI .i64 a0)),(2,.vc (pI .i64 a1)),(7,.vc (pO (jC (g14++[(b24,x22.length,x22.length)]) a5.length).1 (jC (g14++[(b24,x22.length,x22.length)]) a5.length).2.1 (jC (g14++[(b24,x22.length,x22.length)]) a5.length).2.2)),(11,.vc (pO (jC (g14++[(b24,x22.length,x22.length)]) v85).1 (jC (g14++[(b24,x22.length,x22.length)]) v85).2.1 (jC (g14++[(b24,x22.length,x22.length)]) v85).2.2)),(12,.vc (pP (some b89) 0)),(62,.vc (pO b4 n6 c5)),(63,.vc (pI .i64 (x57.length:Int))),(64,.vc (pI .i64 x70)),(77,.va (eQ v87)),(78,.vc (pI .i64 v93)),(79,.vc (pB (v93==0))),(82,.vc (pI .i64 ((x66.getD v85 []).length:Int))),(83,.vc (pI .i64 x107))] a w) K (fun a w ⟨_,_,hF,_,_,_⟩=>by cases hF) (fun k a w ⟨x103,x107,hF,q104,q105,hh⟩=>jI ?_ hh) (fun a w hh=>⟨x66,0,hL,q67,q68,cL 4 [0,1,2,3] rfl rfl (by decide) (by exact⟨rfl,rfl,rfl,rfl,rfl,rfl,rfl,rfl,rfl,rfl,rfl,rfl,rfl,rfl,trivial⟩) hh⟩)
   rw [cP.eq_2] at hF
   refine go ?_ ?_
   refine aJ hF rfl (fun h116 hF=>?_) (fun h116 hF=>?_)
   ·refine go ?_ ?_
    refine aT ?_
    obtain⟨v119,h120,v121,h122,hF⟩:=uS hF
    obtain⟨v123,h124,hF⟩:=bC hF m5
    obtain⟨v125,h126,hF⟩:=bC hF aC1
    have hF:=rQ h120 hF
    refine go ?_ ?_
    refine jW [0,0,0,0,12,28,0,0,0,384,896,1984,4092,8191,16383] 14 1 [.v (.vc (pO (jC (g14++[(b24,x22.length,x22.length)]) v85).1 (jC (g14++[(b24,x22.length,x22.length)]) v85).2.1 (jC (g14++[(b24,x22.length,x22.length)]) v85).2.2)),.v (.vc (pI .i64 x107)),.v (.vc (pO (jC (g14++[(b24,x22.length,x22.length)]) v85).1 (jC (g14++[(b24,x22.length,x22.length)]) v85).2.1 (jC (g14++[(b24,x22.length,x22.length)]) v85).2.2)),.v (.vc (pI .i64 x107)),.v (.vc (pE (jC (g14++[(b24,x22.length,x22.length)]) v85).1 x107 cQ.n 0)),.v (.va (eQ v119)),.v (.va (eQ v87)),.v (.vc (pO (jC (g14++[(b24,x22.length,x22.length)]) a5.length).1 (jC (g14++[(b24,x22.length,x22.length)]) a5.length).2.1 (jC (g14++[(b24,x22.length,x22.length)]) a5.length).2.2)),.v (.vc (pI .i64 x107)),.v (.vc (pE (jC (g14++[(b24,x22.length,x22.length)]) a5.length).1 x107 cQ.n 0)),.v (.va (eQ v121)),.v (.va (eQ v123)),.v (.va (eQ v125)),.v (.vc (pE (jC (g14++[(b24,x22.length,x22.length)]) v85).1 x107 cQ.n 0))] bJ ⟨d0 (bS (.inl rfl)) zU1,d0 (bS (.inl rfl)) zU1,d0 (bS (.inl rfl)) zU1,d0 (bS (.inl rfl)) zU1,d0 (lP (4+v85) rfl tyS24 (kO 4 rfl q105 q104 ((rO q18 h58 q16) _ (bD h86))) (lO q105 q104 ((rO q18 h58 q16) _ (bD h86))) (aS h120).1 (aS h120).2.1) zU2,d0 (pK (k:=4) (4+v85) rfl (kO 4 rfl q105 q104 ((rO q18 h58 q16) _ (bD h86))) h120 rfl (.agg tyA44) rfl) zU1,d0 (gH 0 4 rfl rfl rfl rfl (.agg tyA44)) zU1,d0 (bS (.inl rfl)) zU1,d0 (bS (.inl rfl)) zU1,d0 (lP (4+a5.length) rfl tyS24 (kO 4 rfl q105 q104 (aFD q16)) (lO q105 q104 (aFD q16)) (aS h122).1 (aS h122).2.1) zU2,d0 (pK (k:=4) (4+a5.length) rfl (kO 4 rfl q105 q104 (aFD q16)) h122 rfl (.agg tyA44) rfl) zU1,d0 (bP rfl h124 rfl) zU2,d0 (bP rfl h126 rfl) zU2,d0 (lP (4+v85) rfl tyS24 (kO 4 rfl q105 q104 ((rO q18 h58 q16) _ (bD h86))) (lO q105 q104 ((rO q18 h58 q16) _ (bD h86))) (aS h120).1 (aS h120).2.1) zU2,trivial⟩ (fun bs118 G117=>?_)
    obtain⟨x129,h130,hF⟩:=bB hF
    refine oQ (wL (H':=([⟨some b89,1,44,4,1,(eQ v87)⟩,⟨some p0,1,151,3,1,([pI .i64 a2]++[pO b4 n6 c5]++[pO b9 n11 c10])⟩,hO (cH (g14++[(b24,x22.length,x22.length)])) b4 c5 24 n6 x57,hO cI b9 c10 3 n11 a4]++gZ cQ 44 (g14++[(b24,x22.length,x22.length)]) (x103.set v85 x129))) (4+v85) rfl (aBq 4 rfl q105 q104 ((rO q18 h58 q16) _ (bD h86))) h120 h130 tyA44.s (hH:=stN 4 rfl q105 q104 ((rO q18 h58 q16) _ (bD h86)))) zU2 ?_
    obtain⟨v132,h133,hF⟩:=bB hF
    refine go ?_ ?_
    exact aK (fun a w hh=>⟨(x103.set v85 x129),v132,hF,(tG q104),(wN q105 q104 ((rO q18 h58 q16) _ (bD h86)) (bH h130 rfl)),cL 4 [0,1,2,3] rfl rfl (by decide) (by exact⟨rfl,rfl,rfl,rfl,rfl,rfl,rfl,rfl,rfl,rfl,rfl,rfl,rfl,rfl,trivial⟩) hh⟩)
   refine dJ ?_
   obtain rfl:=p9 hF
   exact oC Jj113 ⟨x103,hRl112,q104,q105,rfl,rfl⟩ 4 [1,2,3] rfl rfl ⟨rfl,rfl,rfl,rfl,rfl,rfl,rfl,rfl,rfl,rfl,trivial⟩
  refine dJ ?_
  obtain rfl:=p9 hF
  exact oC Jj76 ⟨x66,hRl75,q67,q68,rfl,rfl⟩ 3 [0,1,2] rfl rfl ⟨rfl,rfl,rfl,trivial⟩
 obtain⟨x47',hL,hRl53⟩:=bB hF
 refine jE (fun k a w=>∃(x40:List Rat),∃(x46:Int),cS K a5 x22 v20 v30 k x40 x46=some x47'∧x40.length=x22.length∧hs _ ([⟨some b32,1,44,4,1,(eQ v30)⟩,hO cQ b24 x22.length 44 x22.length x40,⟨some p0,1,151,3,1,([pI .i64 a2]++[pO b4 n6 c5]++[pO b9 n11 c10])⟩,hO (cH g14) b4 c5 24 n6 a3,hO cI b9 c10 3 n11 a4]++gZ cQ 44 g14 a5) [(0,.vc (pP (some p0) 0)),(1,.vc (pI .i64 a0)),(2,.vc (pI .i64 a1)),(7,.vc (pO b24 x22.length x22.length)),(8,.vc (pP (some b32) 0)),(38,.vc (pI .i64 ((cpL x22 (a5.getD v20 [])).length:Int))),(39,.vc (pI .i64 x46))] a w) K (fun a w ⟨_,_,hF,_,_⟩=>by cases hF) (fun k a w ⟨x40,x46,hF,q44,hh⟩=>jI ?_ hh) (fun a w hh=>⟨(cpL x22 (a5.getD v20 [])),0,hL,(aBg rfl),cL 5 [0,1,2,3,4] rfl rfl (by decide) (by exact⟨rfl,rfl,rfl,rfl,rfl,rfl,rfl,trivial⟩) hh⟩)
 rw [cS.eq_2] at hF
 refine go ?_ ?_
 refine aJ hF rfl (fun h134 hF=>?_) (fun h134 hF=>?_)
 ·refine go ?_ ?_
  refine aT ?_
  obtain⟨v137,h138,hF⟩:=bB hF
  obtain⟨v139,h140,hF⟩:=bC hF aA7
  have hF:=rQ h138 hF
  refine go ?_ ?_
  refine dr [0,0,0,0,12,28,0,124,255,511] 9 1 ?_ (fun bs136 G135=>?_)
  obtain⟨x143,h144,v146,h147,hF⟩:=uS hF
  refine go ?_ ?_
  exact aK (fun a w hh=>⟨x143,v146,hF,(bH h144 q44),cL 5 [0,1,2,3,4] rfl rfl (by decide) (by exact⟨rfl,rfl,rfl,rfl,rfl,rfl,rfl,trivial⟩) hh⟩)
 refine dJ ?_
 obtain rfl:=p9 hF
 exact oC Jj54 ⟨x40,hRl53,q44,rfl,rfl⟩ 5 [1,2,3,4] rfl rfl ⟨rfl,rfl,rfl,rfl,trivial⟩
def qE (K:Nat):Option (aN×Int):=
 none
def mW (K:Nat) (x86:Int) (v90:Int×(List Nat)×(List Int)×(List (List Rat))) (x116:Int) (recl87:(List Nat)→(List Int)→(List (List Rat))→Int→Int→Int→Option (LR (aN×Int) Unit)) (x122:Int):Option (LR (aN×Int) Unit):=
 bif(decide (x122<0)) then(some (.ret ((⟨([]:List Rat),([]:List Rat),0⟩:aN),15))) else((aP (x86+1)).bind fun v126=>recl87 v90.2.1 v90.2.2.1 v90.2.2.2 x122 x116 v126)
def dE (K:Nat) (v6:Int×(List Nat)×(List Int)×(List (List Rat))) (v90:Int×(List Nat)×(List Int)×(List (List Rat))) (x116:Int):Nat→Int→Int→Option Int
 |0,_,_=>none
 |k+1,x120,x121=>bif(decide (x121<(v90.2.1.length:Int))) then((bK v90.2.1 x121).bind fun v129=>(bK (v90.2.2.2.getD v129 []) x116).bind fun v133=>(uD v133).bind fun v135=>bif(decide (0<v135)) then(bif(decide (x120<0)) then((aP (x121+1)).bind fun v139=>dE K v6 v90 x116 k x121 v139) else((bK (v90.2.2.2.getD v129 []) x116).bind fun v141=>(bK v90.2.1 x120).bind fun v143=>(bK (v90.2.2.2.getD v143 []) x116).bind fun v145=>(dV K x121 v141 x120 v145 v6.1 v90.2.1 v90.2.2.1 v90.2.2.2).bind fun v147=>bif v147 then((aP (x121+1)).bind fun v150=>dE K v6 v90 x116 k x121 v150) else((aP (x121+1)).bind fun v152=>dE K v6 v90 x116 k x120 v152))) else((aP (x121+1)).bind fun v154=>dE K v6 v90 x116 k x120 v154)) else(some x120)
def hU (K:Nat) (v6:Int×(List Nat)×(List Int)×(List (List Rat))) (x86:Int) (v90:Int×(List Nat)×(List Int)×(List (List Rat))) (recl87:(List Nat)→(List Int)→(List (List Rat))→Int→Int→Int→Option (LR (aN×Int) Unit)) (x116:Int):Option (LR (aN×Int) Unit):=
 (dE K v6 v90 x116 K (-1) 0).bind fun x122=>mW K x86 v90 x116 recl87 x122
def cX (K:Nat) (a2:Int) (v6:Int×(List Nat)×(List Int)×(List (List Rat))):Nat→(List Nat)→(List Int)→(List (List Rat))→Int→Int→Int→Option (LR (aN×Int) Unit)
 |0,_,_,_,_,_,_=>none
 |k+1,x66,x72,x78,x84,x85,x86=>bif(x86==a2) then(some (.ret ((⟨([]:List Rat),([]:List Rat),0⟩:aN),16))) else((gE K x84 x85 v6.1 x66 x72 x78).bind fun v90=>(aP (2*v6.1)).bind fun v105=>bif(v90.1==v105) then((eI K v6.1 v90.2.1 v90.2.2.1 v90.2.2.2).bind fun v108=>(aP (x86+1)).bind fun v111=>some (.ret ((⟨v108.z,v108.w,v111⟩:aN),0))) else((aP (v90.1+v6.1)).bind fun v113=>bif(decide (v6.1≤v90.1)) then((aP (v90.1-v6.1)).bind fun v157=>hU K v6 x86 v90 (cX K a2 v6 k) v157) else(hU K v6 x86 v90 (cX K a2 v6 k) v113)))
def nG (K:Nat) (a2:Int) (v6:Int×(List Nat)×(List Int)×(List (List Rat))) (x40:Int):Option (aN×Int):=
 (aP (2*v6.1)).bind fun v43=>(cX K a2 v6 K v6.2.1 v6.2.2.1 v6.2.2.2 x40 v43 0).bind fun o=>match o with| .ret r=>some r| .go _=>qE K
def fL (K:Nat) (v6:Int×(List Nat)×(List Int)×(List (List Rat))) (v33:Rat):Nat→Int→Int→Option Int
 |0,_,_=>none
 |k+1,x38,x39=>bif(decide (x39<v6.1)) then((dV K x39 v33 x38 v33 v6.1 v6.2.1 v6.2.2.1 v6.2.2.2).bind fun v160=>bif v160 then((aP (x39+1)).bind fun v163=>fL K v6 v33 k x39 v163) else((aP (x39+1)).bind fun v165=>fL K v6 v33 k x38 v165)) else(some x38)
def mA (K:Nat) (a0:List (List Rat)) (a1:List Rat) (a2:Int):Option (aN×Int):=
 (nR K a0 a1).bind fun v2=>bif(!v2) then(some ((⟨([]:List Rat),([]:List Rat),0⟩:aN),1)) else(bif(decide (a2<0)) then(some ((⟨([]:List Rat),([]:List Rat),0⟩:aN),1)) else((lT K a0 a1).bind fun v6=>(lY K a1).bind fun v28=>bif(!v28) then((eI K v6.1 v6.2.1 v6.2.2.1 v6.2.2.2).bind fun v31=>some (v31,0)) else((zJ 1 1).bind fun v33=>(fL K v6 v33 K 0 0).bind fun x40=>nG K a2 v6 x40)))
theorem aAK {K:Nat} {a0:List (List Rat)} {a1:List Rat} {a2:Int} {r:aN×Int} (hF:mA K a0 a1 a2=some r):Ct Tryz.prog 41 [.vc (pS (wD cQ) a0),.vc (pS cQ a1),.vc (pI .i64 a2)] (.t2 (.va (aN.enc r.1)) (.vc (pI .i64 r.2))):=by
 unfold mA at hF
 refine aI Tryz.func41 rfl (by kernel_rfl) Tryz.ntmps41 rfl (fun w0 M0=>?_)
 refine aO (aY (aM rfl tyZ68q (fun b1=>?_)))
 obtain⟨v2,h3,hF⟩:=bC hF aAD
 refine go ?_ ?_
 refine d7 hF (fun h4 hF=>?_) (fun h4 hF=>?_)
 ·refine go ?_ ?_
  refine lX rfl ?_
  refine aO (aY (aV (fF (is:=[]) (xs:=[]) (ps:=[]) rfl tyB68q rfl rfl trivial rfl) trivial ?_))
  exact cG
 refine go ?_ ?_
 refine aJ hF rfl (fun h5 hF=>?_) (fun h5 hF=>?_)
 ·refine aO (aY (aV (fF (is:=[]) (xs:=[]) (ps:=[]) rfl tyB68q rfl rfl trivial rfl) trivial ?_))
  exact cG
 obtain⟨v6,h7,hF⟩:=bB hF
 refine go ?_ ?_
 refine aCL [] [0] rfl (xX h7) zU2 rfl rfl (by decide) ?_
 rintro _ _ ⟨b8,b12,c13,n14,b17,c18,n19,g22,N23,q15,q20,q24,q25,q26,rfl,rfl⟩
 refine rK (o9 [⟨some b8,1,151,3,1,([pI .i64 v6.1]++[pO b12 n14 c13]++[pO b17 n19 c18])⟩,hO (cH g22) b12 c13 24 n14 v6.2.1,hO cI b17 c18 3 n19 v6.2.2.1] (gZ cQ 44 g22 v6.2.2.2) [⟨some b1,1,68,3,1,([pS cQ ([]:List Rat)]++[pS cQ ([]:List Rat)]++[pI .i64 0])⟩]) ?_
 obtain⟨v28,h29,hF⟩:=bC hF zF
 refine go ?_ ?_
 refine aJ hF rfl (fun h30 hF=>?_) (fun h30 hF=>?_)
 ·obtain⟨v31,h32,hF⟩:=bB hF
  refine go ?_ ?_
  refine aCD 4 [0,1,2] [3] rfl (oW h32 q15 q20 q24 q25 q26) zU1 rfl rfl rfl (by decide) ?_
  rintro _ _ ⟨rfl,rfl⟩
  refine rK (o9 [⟨some b8,1,151,3,1,([pI .i64 v6.1]++[pO b12 n14 c13]++[pO b17 n19 c18])⟩,hO (cH g22) b12 c13 24 n14 v6.2.1,hO cI b17 c18 3 n19 v6.2.2.1] (gZ cQ 44 g22 v6.2.2.2) [⟨some b1,1,68,3,1,([pS cQ ([]:List Rat)]++[pS cQ ([]:List Rat)]++[pI .i64 0])⟩]) ?_
  exact cG
 obtain⟨v33,h34,hF⟩:=bC hF xZ
 refine go ?_ ?_
 refine aM rfl tyZ44q (fun b35=>?_)
 refine go ?_ ?_
 refine aT (cJ (fun H E=>∃(x40:Int),nG K a2 v6 x40=some r∧H=([⟨some b8,1,151,3,1,([pI .i64 v6.1]++[pO b12 n14 c13]++[pO b17 n19 c18])⟩,hO (cH g22) b12 c13 24 n14 v6.2.1,hO cI b17 c18 3 n19 v6.2.2.1,⟨some b1,1,68,3,1,([pS cQ ([]:List Rat)]++[pS cQ ([]:List Rat)]++[pI .i64 0])⟩]++gZ cQ 44 g22 v6.2.2.2)∧E=[(2,.vc (pI .i64 a2)),(6,.vc (pP (some b1) 0)),(8,.vc (pP (some b8) 0)),(10,.vc (pI .i64 x40))]) ?_ (fun Jj42=>?_))
 ·rintro _ _ ⟨x40,hF,rfl,rfl⟩
  unfold nG at hF
  obtain⟨v43,h44,hF⟩:=bB hF
  refine go ?_ ?_
  refine aT (cJ (fun H E=>qE K=some r∧H=[]∧E=[]) ?_ (fun Jj88=>?_))
  ·rintro _ _ ⟨hF,rfl,rfl⟩
   unfold qE at hF
   cases hF
  obtain⟨ol87,hL,hRl87⟩:=bB hF
  refine jE (fun k a w=>∃(x66:List Nat),∃(x72:List Int),∃(x78:List (List Rat)),∃(x84:Int),∃(x85:Int),∃(x86:Int),∃(b67:Option Nat),∃(c68:Nat),∃(n69:Nat),∃(g79:List vL),∃(N80:Nat),cX K a2 v6 k x66 x72 x78 x84 x85 x86=some ol87∧x66.length=n69∧x72.length=n19∧x78.length=N80∧lH g79 x78∧(∀k∈x66,k<N80)∧hs _ ([⟨some b8,1,151,3,1,([pI .i64 v6.1]++[pO b67 n69 c68]++[pO b17 n19 c18])⟩,hO (cH g79) b67 c68 24 n69 x66,hO cI b17 c18 3 n19 x72,⟨some b1,1,68,3,1,([pS cQ ([]:List Rat)]++[pS cQ ([]:List Rat)]++[pI .i64 0])⟩]++gZ cQ 44 g79 x78) [(2,.vc (pI .i64 a2)),(6,.vc (pP (some b1) 0)),(8,.vc (pP (some b8) 0)),(10,.vc (pI .i64 x84)),(12,.vc (pI .i64 x85)),(13,.vc (pI .i64 x86))] a w) K (fun a w ⟨_,_,_,_,_,_,_,_,_,_,_,hF,_,_,_,_,_,_⟩=>by cases hF) (fun k a w ⟨x66,x72,x78,x84,x85,x86,b67,c68,n69,g79,N80,hF,q70,q76,q81,q82,q83,hh⟩=>jI ?_ hh) (fun a w hh=>⟨v6.2.1,v6.2.2.1,v6.2.2.2,x40,v43,0,b12,c13,n14,g22,N23,hL,q15,q20,q24,q25,q26,cL 4 [0,1,2,3] rfl rfl (by decide) (by exact⟨rfl,rfl,rfl,rfl,rfl,rfl,trivial⟩) hh⟩)
  rw [cX.eq_2] at hF
  refine aO (aT (go ?_ ?_))
  refine aJ hF rfl (fun h89 hF=>?_) (fun h89 hF=>?_)
  ·refine aO (aY (aV (fF (is:=[]) (xs:=[]) (ps:=[]) rfl tyB68q rfl rfl trivial rfl) trivial ?_))
   exact cG
  obtain⟨v90,h91,hF⟩:=bB hF
  refine go ?_ ?_
  refine aCD 4 [0,1,2] [3] rfl (uT h91 q70 q76 q81 q82 q83) ⟨rfl,rfl,rfl,trivial⟩ rfl rfl rfl (by decide) ?_
  rintro _ _ ⟨b92,c93,n94,g99,N100,q95,q97,q101,q102,q103,rfl,rfl⟩
  refine rK (o9 [⟨some b8,1,151,3,1,([pI .i64 v6.1]++[pO b92 n94 c93]++[pO b17 n19 c18])⟩,hO (cH g99) b92 c93 24 n94 v90.2.1,hO cI b17 c18 3 n19 v90.2.2.1] (gZ cQ 44 g99 v90.2.2.2) [⟨some b1,1,68,3,1,([pS cQ ([]:List Rat)]++[pS cQ ([]:List Rat)]++[pI .i64 0])⟩]) ?_
  have hF:=rQ h44 hF
  refine go ?_ ?_
  refine aJ hF rfl (fun h107 hF=>?_) (fun h107 hF=>?_)
  ·obtain⟨v108,h109,hF⟩:=bB hF
   refine go ?_ ?_
   refine aCD 4 [0,1,2] [3] rfl (oW h109 q95 q97 q101 q102 q103) zU1 rfl rfl rfl (by decide) ?_
   rintro _ _ ⟨rfl,rfl⟩
   refine rK (o9 [⟨some b8,1,151,3,1,([pI .i64 v6.1]++[pO b92 n94 c93]++[pO b17 n19 c18])⟩,hO (cH g99) b92 c93 24 n94 v90.2.1,hO cI b17 c18 3 n19 v90.2.2.1] (gZ cQ 44 g99 v90.2.2.2) [⟨some b1,1,68,3,1,([pS cQ ([]:List Rat)]++[pS cQ ([]:List Rat)]++[pI .i64 0])⟩]) ?_
   refine aM rfl tyZ68q (fun b110=>?_)
   obtain⟨v111,h112,hF⟩:=bB hF
   exact cG
  refine iV (aU (aO (aY (nI ?_))))
  refine nI ?_
  refine aV (wQ rfl) zU1 ?_
  refine aV (p6 (off:=0) (k:=0) rfl tyF151_0) zU1 ?_
  refine aV (gH 0 1 rfl rfl rfl rfl (.one tyO3)) zU1 ?_
  obtain⟨v113,h114,hF⟩:=bB hF
  refine aV (vW rfl h114) zU2 ?_
  refine aAi ?_
  refine bU (aU (aO (uI (fun H E=>∃(x116:Int),hU K v6 x86 v90 (cX K a2 v6 k) x116=some ol87∧H=([⟨some b8,1,151,3,1,([pI .i64 v6.1]++[pO b92 n94 c93]++[pO b17 n19 c18])⟩,hO (cH g99) b92 c93 24 n94 v90.2.1,hO cI b17 c18 3 n19 v90.2.2.1,⟨some b1,1,68,3,1,([pS cQ ([]:List Rat)]++[pS cQ ([]:List Rat)]++[pI .i64 0])⟩]++gZ cQ 44 g99 v90.2.2.2)∧E=[(2,.vc (pI .i64 a2)),(6,.vc (pP (some b1) 0)),(8,.vc (pP (some b8) 0)),(12,.vc (pI .i64 x116)),(13,.vc (pI .i64 x86))]) ?_ (fun Jj117=>?_))))
  ·rintro _ _ ⟨x116,hF,rfl,rfl⟩
   unfold hU at hF
   refine go ?_ ?_
   refine aT (cJ (fun H E=>∃(x122:Int),mW K x86 v90 x116 (cX K a2 v6 k) x122=some ol87∧H=([⟨some b8,1,151,3,1,([pI .i64 v6.1]++[pO b92 n94 c93]++[pO b17 n19 c18])⟩,hO (cH g99) b92 c93 24 n94 v90.2.1,hO cI b17 c18 3 n19 v90.2.2.1,⟨some b1,1,68,3,1,([pS cQ ([]:List Rat)]++[pS cQ ([]:List Rat)]++[pI .i64 0])⟩]++gZ cQ 44 g99 v90.2.2.2)∧E=[(2,.vc (pI .i64 a2)),(6,.vc (pP (some b1) 0)),(8,.vc (pP (some b8) 0)),(10,.vc (pI .i64 x122)),(12,.vc (pI .i64 x116)),(13,.vc (pI .i64 x86))]) ?_ (fun Jj124=>?_))
   ·rintro _ _ ⟨x122,hF,rfl,rfl⟩
    unfold mW at hF
    refine go ?_ ?_
    refine aJ hF rfl (fun h125 hF=>?_) (fun h125 hF=>?_)
    ·refine aO (aY (aV (fF (is:=[]) (xs:=[]) (ps:=[]) rfl tyB68q rfl rfl trivial rfl) trivial ?_))
     exact cG
    obtain⟨v126,h127,hF⟩:=bB hF
    refine go ?_ ?_
    exact aK (fun a w hh=>⟨v90.2.1,v90.2.2.1,v90.2.2.2,x122,x116,v126,b92,c93,n94,g99,N100,hF,q95,q97,q101,q102,q103,cL 4 [0,1,2,3] rfl rfl (by decide) (by exact⟨rfl,rfl,rfl,rfl,rfl,rfl,trivial⟩) hh⟩)
   obtain⟨x122',hL,hRl123⟩:=bB hF
   refine jE (fun k a w=>∃(x120:Int),∃(x121:Int),dE K v6 v90 x116 k x120 x121=some x122'∧hs _ ([⟨some b8,1,151,3,1,([pI .i64 v6.1]++[pO b92 n94 c93]++[pO b17 n19 c18])⟩,hO (cH g99) b92 c93 24 n94 v90.2.1,hO cI b17 c18 3 n19 v90.2.2.1,⟨some b1,1,68,3,1,([pS cQ ([]:List Rat)]++[pS cQ ([]:List Rat)]++[pI .i64 0])⟩]++gZ cQ 44 g99 v90.2.2.2) [(2,.vc (pI .i64 a2)),(6,.vc (pP (some b1) 0)),(8,.vc (pP (some b8) 0)),(10,.vc (pI .i64 x120)),(12,.vc (pI .i64 x116)),(13,.vc (pI .i64 x86)),(100,.vc (pO b92 n94 c93)),(101,.vc (pI .i64 (v90.2.1.length:Int))),(102,.vc (pI .i64 x121))] a w) K (fun a w ⟨_,_,hF,_⟩=>by cases hF) (fun k a w ⟨x120,x121,hF,hh⟩=>jI ?_ hh) (fun a w hh=>⟨(-1),0,hL,cL 4 [0,1,2,3] rfl rfl (by decide) (by exact⟨rfl,rfl,rfl,rfl,rfl,rfl,rfl,rfl,rfl,trivial⟩) hh⟩)
   rw [dE.eq_2] at hF
   refine go ?_ ?_
   refine aJ hF rfl (fun h128 hF=>?_) (fun h128 hF=>?_)
   ·refine go ?_ ?_
    refine aT ?_
    obtain⟨v129,h130,v133,h134,hF⟩:=uS hF
    obtain⟨v135,h136,hF⟩:=bC hF gC
    refine go ?_ ?_
    rcases Bool.eq_false_or_eq_true (decide (0<v135)) with h137|h137
    ·have hF:=u7 h137 hF
     rcases Bool.eq_false_or_eq_true (decide (x120<0)) with h138|h138
     ·have hF:=u7 h138 hF
      refine jW (0::0::3::7::15::31::63::127::255::511::1023::1023::1023::1023::13311::29695::1023::1023::132095::394239::918527::1023::4064255::8258559::1023::33424383::66978815::134217727::268435455::536870911::[]) 27 3 (.v (.vc (pO (jC g99 v129).1 (jC g99 v129).2.1 (jC g99 v129).2.2))::.v (.vc (pI .i64 x116))::.v (.vc (pE (jC g99 v129).1 x116 cQ.n 0))::.v (.va (eQ v133))::.v (.vc (pI .i64 v135))::.v (.vc (pB (decide (0<v135))))::.v (.vc (pB true))::.v (.vc (pI .i64 x120))::.v (.vc (pB (decide (x120<0))))::.v (.vc (pB true))::.v .un::.v .un::.v .un::.v .un::.v .un::.v .un::.v .un::.v .un::.v .un::.v .un::.v .un::.v .un::.v .un::.v .un::.v .un::.v .un::.v .un::[]) bJ ⟨d0 (bS (.inl rfl)) zU1,d0 (bS (.inl rfl)) zU1,d0 (lP (4+v129) rfl tyS24 (kO 4 rfl q102 q101 (q103 _ (bD h130))) (lO q102 q101 (q103 _ (bD h130))) (aS h134).1 (aS h134).2.1) zU2,d0 (pK (k:=4) (4+v129) rfl (kO 4 rfl q102 q101 (q103 _ (bD h130))) h134 rfl (.agg tyA44) rfl) zU1,d0 (bP rfl h136 rfl) zU1,d0 (aJv rfl) ⟨rfl,kC _ _,trivial⟩,d0 (kL (bS (.inl rfl)) h137) zU1,g0 (bS (.inl rfl)) zU1,g0 (aJO rfl) ⟨rfl,kC _ _,trivial⟩,g0 (kL (bS (.inl rfl)) h138) zU1,⟨rfl,.skipN⟩,⟨rfl,.skipN⟩,⟨rfl,.skipN⟩,⟨rfl,.skipN⟩,⟨rfl,.skipN⟩,⟨rfl,.skipN⟩,⟨rfl,.skipN⟩,⟨rfl,.skipN⟩,⟨rfl,.skipN⟩,⟨rfl,.skipN⟩,⟨rfl,.skipN⟩,⟨rfl,.skipN⟩,⟨rfl,.skipN⟩,⟨rfl,.skipN⟩,⟨rfl,.skipN⟩,⟨rfl,.skipN⟩,⟨rfl,.skipN⟩,trivial⟩ (fun bs132 G131=>?_)
      refine go ?_ ?_
      refine lX rfl ?_
      obtain⟨v139,h140,hF⟩:=bB hF
      refine go ?_ ?_
      exact aK (fun a w hh=>⟨x121,v139,hF,cL 4 [0,1,2,3] rfl rfl (by decide) (by exact⟨rfl,rfl,rfl,rfl,rfl,rfl,rfl,rfl,rfl,trivial⟩) hh⟩)
     have hF:=u9 h138 hF
     have hF:=rQ h134 hF
     obtain⟨v143,h144,hF⟩:=bB hF
     obtain⟨v145,h146,hF⟩:=bB hF
     refine jW (0::0::3::7::15::31::63::127::255::511::1023::1023::1023::1023::13311::29695::1023::1023::132095::394239::918527::1023::4064255::8258559::1023::33424383::66978815::134217727::268435455::536870911::[]) 27 3 (.v (.vc (pO (jC g99 v129).1 (jC g99 v129).2.1 (jC g99 v129).2.2))::.v (.vc (pI .i64 x116))::.v (.vc (pE (jC g99 v129).1 x116 cQ.n 0))::.v (.va (eQ v133))::.v (.vc (pI .i64 v135))::.v (.vc (pB (decide (0<v135))))::.v (.vc (pB true))::.v (.vc (pI .i64 x120))::.v (.vc (pB (decide (x120<0))))::.v (.vc (pB false))::.v (.vc (pP (some b8) 0))::.v (.vc (pI .i64 x121))::.v (.vc (pO (jC g99 v129).1 (jC g99 v129).2.1 (jC g99 v129).2.2))::.v (.vc (pI .i64 x116))::.v (.vc (pE (jC g99 v129).1 x116 cQ.n 0))::.v (.va (eQ v133))::.v (.vc (pI .i64 x120))::.v (.vc (pP (some b8) 0))::.v (.vc (pP (some b8) 0))::.v (.vc (pP (some b8) 1))::.v (.vc (pO b92 n94 c93))::.v (.vc (pI .i64 x120))::.v (.vc (pE b92 x120 (cH g99).n 0))::.v (.vc (pO (jC g99 v143).1 (jC g99 v143).2.1 (jC g99 v143).2.2))::.v (.vc (pI .i64 x116))::.v (.vc (pE (jC g99 v143).1 x116 cQ.n 0))::.v (.va (eQ v145))::[]) bJ ⟨d0 (bS (.inl rfl)) zU1,d0 (bS (.inl rfl)) zU1,d0 (lP (4+v129) rfl tyS24 (kO 4 rfl q102 q101 (q103 _ (bD h130))) (lO q102 q101 (q103 _ (bD h130))) (aS h134).1 (aS h134).2.1) zU2,d0 (pK (k:=4) (4+v129) rfl (kO 4 rfl q102 q101 (q103 _ (bD h130))) h134 rfl (.agg tyA44) rfl) zU1,d0 (bP rfl h136 rfl) zU1,d0 (aJv rfl) ⟨rfl,kC _ _,trivial⟩,d0 (kL (bS (.inl rfl)) h137) zU1,g0 (bS (.inl rfl)) zU1,g0 (aJO rfl) ⟨rfl,kC _ _,trivial⟩,g0 (kL (bS (.inl rfl)) h138) zU1,g0 (bS (.inl rfl)) zU1,g0 (bS (.inl rfl)) zU1,g0 (bS (.inl rfl)) zU1,g0 (bS (.inl rfl)) zU1,g0 (lP (4+v129) rfl tyS24 (kO 4 rfl q102 q101 (q103 _ (bD h130))) (lO q102 q101 (q103 _ (bD h130))) (aS h134).1 (aS h134).2.1) zU2,g0 (pK (k:=4) (4+v129) rfl (kO 4 rfl q102 q101 (q103 _ (bD h130))) h134 rfl (.agg tyA44) rfl) zU1,g0 (bS (.inl rfl)) zU1,g0 (bS (.inl rfl)) zU1,g0 (wQ rfl) zU1,g0 (p6 (off:=0) (k:=1) rfl tyF151_1) zU1,g0 (gH 0 1 rfl rfl rfl rfl (.one tyO62)) zU1,g0 (bS (.inl rfl)) zU1,g0 (lP (C:=(cH g99)) 1 rfl tyS62 rfl q95 (aS h144).1 (aS h144).2.1) zU2,g0 (pK (C:=(cH g99)) (k:=1) 1 rfl rfl h144 rfl (.one tyO24) rfl) zU1,g0 (bS (.inl rfl)) zU1,g0 (lP (4+v143) rfl tyS24 (kO 4 rfl q102 q101 (q103 _ (bD h144))) (lO q102 q101 (q103 _ (bD h144))) (aS h146).1 (aS h146).2.1) zU2,g0 (pK (k:=4) (4+v143) rfl (kO 4 rfl q102 q101 (q103 _ (bD h144))) h146 rfl (.agg tyA44) rfl) zU1,trivial⟩ (fun bs132 G131=>?_)
     obtain⟨v147,h148,hF⟩:=bB hF
     refine aGE (aJY 4 [0,1,2] [3] [0,1,2,3] rfl (pZ h148 q95 q97 q101 q102 q103) rfl rfl rfl rfl (by decide) (by decide) rfl) ⟨rfl,rfl,rfl,rfl,rfl,trivial⟩ ?_
     refine go ?_ ?_
     refine aJ hF rfl (fun h149 hF=>?_) (fun h149 hF=>?_)
     ·obtain⟨v150,h151,hF⟩:=bB hF
      refine go ?_ ?_
      exact aK (fun a w hh=>⟨x121,v150,hF,cL 4 [0,1,2,3] rfl rfl (by decide) (by exact⟨rfl,rfl,rfl,rfl,rfl,rfl,rfl,rfl,rfl,trivial⟩) hh⟩)
     obtain⟨v152,h153,hF⟩:=bB hF
     refine go ?_ ?_
     exact aK (fun a w hh=>⟨x120,v152,hF,cL 4 [0,1,2,3] rfl rfl (by decide) (by exact⟨rfl,rfl,rfl,rfl,rfl,rfl,rfl,rfl,rfl,trivial⟩) hh⟩)
    have hF:=u9 h137 hF
    refine jW (0::0::3::7::15::31::63::127::255::511::1023::1023::1023::1023::13311::29695::1023::1023::132095::394239::918527::1023::4064255::8258559::1023::33424383::66978815::134217727::268435455::536870911::[]) 27 3 (.v (.vc (pO (jC g99 v129).1 (jC g99 v129).2.1 (jC g99 v129).2.2))::.v (.vc (pI .i64 x116))::.v (.vc (pE (jC g99 v129).1 x116 cQ.n 0))::.v (.va (eQ v133))::.v (.vc (pI .i64 v135))::.v (.vc (pB (decide (0<v135))))::.v (.vc (pB false))::.v .un::.v .un::.v .un::.v .un::.v .un::.v .un::.v .un::.v .un::.v .un::.v .un::.v .un::.v .un::.v .un::.v .un::.v .un::.v .un::.v .un::.v .un::.v .un::.v .un::[]) bJ ⟨d0 (bS (.inl rfl)) zU1,d0 (bS (.inl rfl)) zU1,d0 (lP (4+v129) rfl tyS24 (kO 4 rfl q102 q101 (q103 _ (bD h130))) (lO q102 q101 (q103 _ (bD h130))) (aS h134).1 (aS h134).2.1) zU2,d0 (pK (k:=4) (4+v129) rfl (kO 4 rfl q102 q101 (q103 _ (bD h130))) h134 rfl (.agg tyA44) rfl) zU1,d0 (bP rfl h136 rfl) zU1,d0 (aJv rfl) ⟨rfl,kC _ _,trivial⟩,d0 (kL (bS (.inl rfl)) h137) zU1,⟨rfl,.skipN⟩,⟨rfl,.skipN⟩,⟨rfl,.skipN⟩,⟨rfl,.skipU⟩,⟨rfl,.skipU⟩,⟨rfl,.skipU⟩,⟨rfl,.skipU⟩,⟨rfl,.skipU⟩,⟨rfl,.skipU⟩,⟨rfl,.skipU⟩,⟨rfl,.skipU⟩,⟨rfl,.skipU⟩,⟨rfl,.skipU⟩,⟨rfl,.skipU⟩,⟨rfl,.skipU⟩,⟨rfl,.skipU⟩,⟨rfl,.skipU⟩,⟨rfl,.skipU⟩,⟨rfl,.skipU⟩,⟨rfl,.skipU⟩,trivial⟩ (fun bs132 G131=>?_)
    refine go ?_ ?_
    refine tA rfl ?_
    obtain⟨v154,h155,hF⟩:=bB hF
    refine go ?_ ?_
    exact aK (fun a w hh=>⟨x120,v154,hF,cL 4 [0,1,2,3] rfl rfl (by decide) (by exact⟨rfl,rfl,rfl,rfl,rfl,rfl,rfl,rfl,rfl,trivial⟩) hh⟩)
   refine dJ ?_
   obtain rfl:=p9 hF
   exact oC Jj124 ⟨x120,hRl123,rfl,rfl⟩ 4 [0,1,2,3] rfl rfl ⟨rfl,rfl,rfl,rfl,rfl,rfl,trivial⟩
  refine go ?_ ?_
  refine aJ hF rfl (fun h156 hF=>?_) (fun h156 hF=>?_)
  ·refine aY (nI ?_)
   refine nI ?_
   refine aV (wQ rfl) zU1 ?_
   refine aV (p6 (off:=0) (k:=0) rfl tyF151_0) zU1 ?_
   refine aV (gH 0 1 rfl rfl rfl rfl (.one tyO3)) zU1 ?_
   obtain⟨v157,h158,hF⟩:=bB hF
   refine aV (aBr rfl h158) zU2 ?_
   refine aAi ?_
   refine bU ?_
   exact oC Jj117 ⟨v157,hF,rfl,rfl⟩ 4 [0,1,2,3] rfl rfl ⟨rfl,rfl,rfl,rfl,rfl,trivial⟩
  refine iV ?_
  exact oC Jj117 ⟨v113,hF,rfl,rfl⟩ 4 [0,1,2,3] rfl rfl ⟨rfl,rfl,rfl,rfl,rfl,trivial⟩
 obtain⟨x40',hL,hRl41⟩:=bB hF
 refine jE (fun k a w=>∃(x38:Int),∃(x39:Int),fL K v6 v33 k x38 x39=some x40'∧hs _ ([⟨some b35,1,44,4,1,(eQ v33)⟩,⟨some b8,1,151,3,1,([pI .i64 v6.1]++[pO b12 n14 c13]++[pO b17 n19 c18])⟩,hO (cH g22) b12 c13 24 n14 v6.2.1,hO cI b17 c18 3 n19 v6.2.2.1,⟨some b1,1,68,3,1,([pS cQ ([]:List Rat)]++[pS cQ ([]:List Rat)]++[pI .i64 0])⟩]++gZ cQ 44 g22 v6.2.2.2) [(2,.vc (pI .i64 a2)),(6,.vc (pP (some b1) 0)),(8,.vc (pP (some b8) 0)),(9,.vc (pP (some b35) 0)),(10,.vc (pI .i64 x38)),(39,.vc (pI .i64 v6.1)),(40,.vc (pI .i64 x39))] a w) K (fun a w ⟨_,_,hF,_⟩=>by cases hF) (fun k a w ⟨x38,x39,hF,hh⟩=>jI ?_ hh) (fun a w hh=>⟨0,0,hL,cL 5 [0,1,2,3,4] rfl rfl (by decide) (by exact⟨rfl,rfl,rfl,rfl,rfl,rfl,rfl,trivial⟩) hh⟩)
 rw [fL.eq_2] at hF
 refine go ?_ ?_
 refine aJ hF rfl (fun h159 hF=>?_) (fun h159 hF=>?_)
 ·refine go ?_ ?_
  refine aT ?_
  obtain⟨v160,h161,hF⟩:=bB hF
  refine go ?_ ?_
  refine aCD 5 [1,2,3] [0,4] rfl (pZ h161 q15 q20 q24 q25 q26) ⟨rfl,rfl,rfl,rfl,rfl,trivial⟩ rfl rfl rfl (by decide) ?_
  rintro _ _ ⟨rfl,rfl⟩
  refine rK (o9 [⟨some b8,1,151,3,1,([pI .i64 v6.1]++[pO b12 n14 c13]++[pO b17 n19 c18])⟩,hO (cH g22) b12 c13 24 n14 v6.2.1,hO cI b17 c18 3 n19 v6.2.2.1] (gZ cQ 44 g22 v6.2.2.2) [⟨some b35,1,44,4,1,(eQ v33)⟩,⟨some b1,1,68,3,1,([pS cQ ([]:List Rat)]++[pS cQ ([]:List Rat)]++[pI .i64 0])⟩]) ?_
  refine bU (aU (aJ hF rfl (fun h162 hF=>?_) (fun h162 hF=>?_)))
  ·obtain⟨v163,h164,hF⟩:=bB hF
   refine go ?_ ?_
   exact aK (fun a w hh=>⟨x39,v163,hF,cL 5 [3,0,1,2,4] rfl rfl (by decide) (by exact⟨rfl,rfl,rfl,rfl,rfl,rfl,rfl,trivial⟩) hh⟩)
  obtain⟨v165,h166,hF⟩:=bB hF
  refine go ?_ ?_
  exact aK (fun a w hh=>⟨x38,v165,hF,cL 5 [3,0,1,2,4] rfl rfl (by decide) (by exact⟨rfl,rfl,rfl,rfl,rfl,rfl,rfl,trivial⟩) hh⟩)
 refine dJ ?_
 obtain rfl:=p9 hF
 exact oC Jj42 ⟨x38,hRl41,rfl,rfl⟩ 5 [1,2,3,4] rfl rfl ⟨rfl,rfl,rfl,rfl,trivial⟩
def lM (K:Nat):Option Int:=
 some (-1)
def fC (K:Nat) (a0:List Rat) (a1:(Rat→Option Bool)):Nat→Int→Option (LR Int Unit)
 |0,_=>none
 |k+1,x2=>bif(decide (x2<(a0.length:Int))) then((bK a0 x2).bind fun v6=>(a1 v6).bind fun v8=>bif v8 then(some (.ret x2)) else((aP (x2+1)).bind fun v11=>fC K a0 a1 k v11)) else(some (.go ()))
def nE (K:Nat) (a0:List Rat) (a1:(Rat→Option Bool)):Option Int:=
 (fC K a0 a1 K 0).bind fun o=>match o with| .ret r=>some r| .go _=>lM K
theorem yH {K:Nat} {a0:List Rat} {a1:(Rat→Option Bool)} {r:Int} (hF:nE K a0 a1=some r):Ct Tryz.prog 222 [.vc (pS cQ a0),.vc (pFn Tryz.prog (fun x:Rat=>[.va (eQ x)]) (fun r:Bool=>.vc (pB r)) a1)] (.vc (pI .i64 r)):=by
 unfold nE at hF
 refine aI Tryz.func222 rfl (by kernel_rfl) Tryz.ntmps222 rfl (fun w0 M0=>?_)
 refine go ?_ ?_
 refine aT (cJ (fun H E=>lM K=some r∧H=[]∧E=[]) ?_ (fun Jj4=>?_))
 ·rintro _ _ ⟨hF,rfl,rfl⟩
  unfold lM at hF
  exact cG
 obtain⟨ol3,hL,hRl3⟩:=bB hF
 refine jE (fun k a w=>∃(x2:Int),fC K a0 a1 k x2=some ol3∧hs _ [] [(0,.vc (pS cQ a0)),(1,.vc (pFn Tryz.prog (fun x:Rat=>[.va (eQ x)]) (fun r:Bool=>.vc (pB r)) a1)),(7,.vc (pI .i64 (a0.length:Int))),(8,.vc (pI .i64 x2))] a w) K (fun a w ⟨_,hF,_⟩=>by cases hF) (fun k a w ⟨x2,hF,hh⟩=>jI ?_ hh) (fun a w hh=>⟨0,hL,iN [] hh⟩)
 rw [fC.eq_2] at hF
 refine go ?_ ?_
 refine aJ hF rfl (fun h5 hF=>?_) (fun h5 hF=>?_)
 ·refine go ?_ ?_
  refine aT ?_
  obtain⟨v6,h7,v8,h9,hF⟩:=uS hF
  refine go ?_ ?_
  refine aV (aBM (pre:=fun x:Rat=>[.va (eQ x)]) (post:=fun r:Bool=>.vc (pB r)) (x:=v6) (r:=v8) rfl h9 rfl) zU2 ?_
  refine bU (aU (aJ hF rfl (fun h10 hF=>?_) (fun h10 hF=>?_)))
  ·exact cG
  obtain⟨v11,h12,hF⟩:=bB hF
  refine go ?_ ?_
  exact aK (fun a w hh=>⟨v11,hF,iN [] hh⟩)
 refine dJ ?_
 obtain rfl:=p9 hF
 exact qB Jj4 ⟨hRl3,rfl,rfl⟩ []
def lK (K:Nat) (a0:List Rat) (a1:(Rat→Option Bool)):Option Bool:=
 (nE K a0 a1).bind fun v1=>some (decide (0≤v1))
theorem wU {K:Nat} {a0:List Rat} {a1:(Rat→Option Bool)} {r:Bool} (hF:lK K a0 a1=some r):Ct Tryz.prog 161 [.vc (pS cQ a0),.vc (pFn Tryz.prog (fun x:Rat=>[.va (eQ x)]) (fun r:Bool=>.vc (pB r)) a1)] (.vc (pB r)):=by
 unfold lK at hF
 refine aI Tryz.func161 rfl (by kernel_rfl) Tryz.ntmps161 rfl (fun w0 M0=>?_)
 obtain⟨v1,h2,hF⟩:=bC hF yH
 exact cG
def pW (a0:Rat):Option Bool:=
 (aAG a0).bind fun v2=>some (!v2)
theorem aCt {a0:Rat} {r:Bool} (hF:pW a0=some r):Ct Tryz.prog 162 [.va (eQ a0)] (.vc (pB r)):=by
 unfold pW at hF
 refine aI Tryz.func162 rfl (by kernel_rfl) Tryz.ntmps162 rfl (fun w0 M0=>?_)
 refine aO (aY (cU rfl rfl trivial (fun b1=>?_)))
 obtain⟨v2,h3,hF⟩:=bC hF oZ
 exact cG
def qP (K:Nat) (a0:List Rat):Option Bool:=
 (lK K a0 (pW)).bind fun v1=>some (!v1)
theorem xK {K:Nat} {a0:List Rat} {r:Bool} (hF:qP K a0=some r):Ct Tryz.prog 75 [.vc (pS cQ a0)] (.vc (pB r)):=by
 unfold qP at hF
 refine aI Tryz.func75 rfl (by kernel_rfl) Tryz.ntmps75 rfl (fun w0 M0=>?_)
 obtain⟨v1,h2,hF⟩:=bC hF wU
 refine go ?_ ?_
 refine aV (bP rfl h2 rfl) ⟨rfl,(aMv (P:=Tryz.prog) (φ:=(pW)) (pre:=fun x:Rat=>[.va (eQ x)]) (post:=fun r:Bool=>.vc (pB r)) (fun x r h=>aCt h)),trivial⟩ ?_
 exact cG
def lJ (K:Nat):Option Int:=
 some (-1)
def dX (K:Nat) (a0:List aA) (a1:(aA→Option Bool)):Nat→Int→Option (LR Int Unit)
 |0,_=>none
 |k+1,x2=>bif(decide (x2<(a0.length:Int))) then((bK a0 x2).bind fun v6=>(a1 v6).bind fun v8=>bif v8 then(some (.ret x2)) else((aP (x2+1)).bind fun v11=>dX K a0 a1 k v11)) else(some (.go ()))
def k8 (K:Nat) (a0:List aA) (a1:(aA→Option Bool)):Option Int:=
 (dX K a0 a1 K 0).bind fun o=>match o with| .ret r=>some r| .go _=>lJ K
theorem yO {K:Nat} {a0:List aA} {a1:(aA→Option Bool)} {r:Int} (hF:k8 K a0 a1=some r):Ct Tryz.prog 178 [.vc (pS aA.cod a0),.vc (pFn Tryz.prog (fun x:aA=>[.va (aA.enc x)]) (fun r:Bool=>.vc (pB r)) a1)] (.vc (pI .i64 r)):=by
 unfold k8 at hF
 refine aI Tryz.func178 rfl (by kernel_rfl) Tryz.ntmps178 rfl (fun w0 M0=>?_)
 refine go ?_ ?_
 refine aT (cJ (fun H E=>lJ K=some r∧H=[]∧E=[]) ?_ (fun Jj4=>?_))
 ·rintro _ _ ⟨hF,rfl,rfl⟩
  unfold lJ at hF
  exact cG
 obtain⟨ol3,hL,hRl3⟩:=bB hF
 refine jE (fun k a w=>∃(x2:Int),dX K a0 a1 k x2=some ol3∧hs _ [] [(0,.vc (pS aA.cod a0)),(1,.vc (pFn Tryz.prog (fun x:aA=>[.va (aA.enc x)]) (fun r:Bool=>.vc (pB r)) a1)),(7,.vc (pI .i64 (a0.length:Int))),(8,.vc (pI .i64 x2))] a w) K (fun a w ⟨_,hF,_⟩=>by cases hF) (fun k a w ⟨x2,hF,hh⟩=>jI ?_ hh) (fun a w hh=>⟨0,hL,iN [] hh⟩)
 rw [dX.eq_2] at hF
 refine go ?_ ?_
 refine aJ hF rfl (fun h5 hF=>?_) (fun h5 hF=>?_)
 ·refine go ?_ ?_
  refine aT ?_
  obtain⟨v6,h7,v8,h9,hF⟩:=uS hF
  refine go ?_ ?_
  refine aV (aBM (pre:=fun x:aA=>[.va (aA.enc x)]) (post:=fun r:Bool=>.vc (pB r)) (x:=v6) (r:=v8) rfl h9 rfl) zU2 ?_
  refine bU (aU (aJ hF rfl (fun h10 hF=>?_) (fun h10 hF=>?_)))
  ·exact cG
  obtain⟨v11,h12,hF⟩:=bB hF
  refine go ?_ ?_
  exact aK (fun a w hh=>⟨v11,hF,iN [] hh⟩)
 refine dJ ?_
 obtain rfl:=p9 hF
 exact qB Jj4 ⟨hRl3,rfl,rfl⟩ []
def fA (K:Nat) (a0:List aA) (a1:(aA→Option Bool)):Option Bool:=
 (k8 K a0 a1).bind fun v1=>some (decide (0≤v1))
theorem rR {K:Nat} {a0:List aA} {a1:(aA→Option Bool)} {r:Bool} (hF:fA K a0 a1=some r):Ct Tryz.prog 90 [.vc (pS aA.cod a0),.vc (pFn Tryz.prog (fun x:aA=>[.va (aA.enc x)]) (fun r:Bool=>.vc (pB r)) a1)] (.vc (pB r)):=by
 unfold fA at hF
 refine aI Tryz.func90 rfl (by kernel_rfl) Tryz.ntmps90 rfl (fun w0 M0=>?_)
 obtain⟨v1,h2,hF⟩:=bC hF yO
 exact cG
def uG (K:Nat) (x7:Rat):Option Rat:=
 some x7
def kQ (K:Nat) (a0:List aE) (a1:List Rat):Nat→Rat→Int→Option Rat
 |0,_,_=>none
 |k+1,x5,x6=>bif(decide (x6<(a0.length:Int))) then((bK a0 x6).bind fun v11=>bif(decide (0≤v11.dof)) then(bif(decide (v11.dof<(a1.length:Int))) then((bK a1 v11.dof).bind fun v18=>(w5 v11.k v18).bind fun v20=>(aAW x5 v20).bind fun v22=>(aP (x6+1)).bind fun v24=>kQ K a0 a1 k v22 v24) else((aP (x6+1)).bind fun v26=>kQ K a0 a1 k x5 v26)) else((aP (x6+1)).bind fun v28=>kQ K a0 a1 k x5 v28)) else(some x5)
def eF (K:Nat) (a0:List aE) (a1:List Rat):Option Rat:=
 (kQ K a0 a1 K 0 0).bind fun x7=>uG K x7
theorem fV {K:Nat} {a0:List aE} {a1:List Rat} {r:Rat} (hF:eF K a0 a1=some r):Ct Tryz.prog 33 [.vc (pS aE.cod a0),.vc (pS cQ a1)] (.va (eQ r)):=by
 unfold eF at hF
 refine aI Tryz.func33 rfl (by kernel_rfl) Tryz.ntmps33 rfl (fun w0 M0=>?_)
 refine aO (aY (aM rfl tyZ44q (fun b1=>?_)))
 refine go ?_ ?_
 refine aM rfl tyZ44q (fun b2=>?_)
 refine go ?_ ?_
 refine aT (cJ (fun H E=>∃(x7:Rat),uG K x7=some r∧H=[⟨some b2,1,44,4,1,(eQ x7)⟩,⟨some b1,1,44,4,1,(eQ 0)⟩]∧E=[(4,.vc (pP (some b1) 0)),(5,.vc (pP (some b2) 0))]) ?_ (fun Jj9=>?_))
 ·rintro _ _ ⟨x7,hF,rfl,rfl⟩
  unfold uG at hF
  exact cG
 obtain⟨x7',hL,hRl8⟩:=bB hF
 refine jE (fun k a w=>∃(x5:Rat),∃(x6:Int),kQ K a0 a1 k x5 x6=some x7'∧hs _ [⟨some b2,1,44,4,1,(eQ x5)⟩,⟨some b1,1,44,4,1,(eQ 0)⟩] [(1,.vc (pS cQ a1)),(4,.vc (pP (some b1) 0)),(5,.vc (pP (some b2) 0)),(8,.vc (pS aE.cod a0)),(9,.vc (pI .i64 (a0.length:Int))),(10,.vc (pI .i64 x6))] a w) K (fun a w ⟨_,_,hF,_⟩=>by cases hF) (fun k a w ⟨x5,x6,hF,hh⟩=>jI ?_ hh) (fun a w hh=>⟨0,0,hL,iN [0,1] hh⟩)
 rw [kQ.eq_2] at hF
 refine go ?_ ?_
 refine aJ hF rfl (fun h10 hF=>?_) (fun h10 hF=>?_)
 ·refine go ?_ ?_
  refine aT ?_
  obtain⟨v11,h12,hF⟩:=bB hF
  refine go ?_ ?_
  refine aM rfl tyZ92q (fun b13=>?_)
  refine go ?_ ?_
  refine d7 hF (fun h14 hF=>?_) (fun h14 hF=>?_)
  ·refine go ?_ ?_
   refine aJ hF rfl (fun h15 hF=>?_) (fun h15 hF=>?_)
   ·obtain⟨v18,h19,hF⟩:=bB hF
    obtain⟨v20,h21,hF⟩:=bC hF m5
    obtain⟨v22,h23,hF⟩:=bC hF tS
    refine dr [0,0,2,0,0,16,56,120,254,511,1023] 10 1 ?_ (fun bs17 G16=>?_)
    obtain⟨v24,h25,hF⟩:=bB hF
    refine go ?_ ?_
    exact aK (fun a w hh=>⟨v22,v24,hF,iN [1,2] hh⟩)
   obtain⟨v26,h27,hF⟩:=bB hF
   refine go ?_ ?_
   exact aK (fun a w hh=>⟨x5,v26,hF,iN [1,2] hh⟩)
  refine go ?_ ?_
  refine tA rfl ?_
  obtain⟨v28,h29,hF⟩:=bB hF
  refine go ?_ ?_
  exact aK (fun a w hh=>⟨x5,v28,hF,iN [1,2] hh⟩)
 refine dJ ?_
 obtain rfl:=p9 hF
 exact qB Jj9 ⟨x5,hRl8,rfl,rfl⟩ [0,1]
def sE (K:Nat):Option Bool:=
 some true
def kD (K:Nat) (a0:List aE) (a1:Int):Nat→Int→Option (LR Bool Unit)
 |0,_=>none
 |k+1,x2=>bif(decide (x2<(a0.length:Int))) then((bK a0 x2).bind fun v6=>bif(decide (v6.dof<0)) then(some (.ret false)) else(bif(decide (a1≤v6.dof)) then(some (.ret false)) else(bif(decide (0<x2)) then((aP (x2-1)).bind fun v14=>(bK a0 v14).bind fun v16=>bif(decide (v6.dof≤v16.dof)) then(some (.ret false)) else((aAG v6.k).bind fun v19=>bif(!v19) then(some (.ret false)) else((aP (x2+1)).bind fun v22=>kD K a0 a1 k v22))) else((aAG v6.k).bind fun v24=>bif(!v24) then(some (.ret false)) else((aP (x2+1)).bind fun v27=>kD K a0 a1 k v27))))) else(some (.go ()))
def rA (K:Nat) (a0:List aE) (a1:Int):Option Bool:=
 (kD K a0 a1 K 0).bind fun o=>match o with| .ret r=>some r| .go _=>sE K
theorem aAa {K:Nat} {a0:List aE} {a1:Int} {r:Bool} (hF:rA K a0 a1=some r):Ct Tryz.prog 154 [.vc (pS aE.cod a0),.vc (pI .i64 a1)] (.vc (pB r)):=by
 unfold rA at hF
 refine aI Tryz.func154 rfl (by kernel_rfl) Tryz.ntmps154 rfl (fun w0 M0=>?_)
 refine go ?_ ?_
 refine aT (cJ (fun H E=>sE K=some r∧H=[]∧E=[]) ?_ (fun Jj4=>?_))
 ·rintro _ _ ⟨hF,rfl,rfl⟩
  unfold sE at hF
  exact cG
 obtain⟨ol3,hL,hRl3⟩:=bB hF
 refine jE (fun k a w=>∃(x2:Int),kD K a0 a1 k x2=some ol3∧hs _ [] [(0,.vc (pS aE.cod a0)),(1,.vc (pI .i64 a1)),(7,.vc (pS aE.cod a0)),(8,.vc (pI .i64 (a0.length:Int))),(9,.vc (pI .i64 x2))] a w) K (fun a w ⟨_,hF,_⟩=>by cases hF) (fun k a w ⟨x2,hF,hh⟩=>jI ?_ hh) (fun a w hh=>⟨0,hL,iN [] hh⟩)
 rw [kD.eq_2] at hF
 refine go ?_ ?_
 refine aJ hF rfl (fun h5 hF=>?_) (fun h5 hF=>?_)
 ·refine go ?_ ?_
  refine aT ?_
  obtain⟨v6,h7,hF⟩:=bB hF
  refine go ?_ ?_
  refine aM rfl tyZ92q (fun b8=>?_)
  refine go ?_ ?_
  rcases Bool.eq_false_or_eq_true (decide (v6.dof<0)) with h11|h11
  ·have hF:=u7 h11 hF
   refine drb (0::1::3::7::15::31::15::127::255::511::1023::2047::4095::8191::16383::8191::8191::73727::237567::499711::1023999::2097151::4194303::8388607::16777215::33554431::67108863::134217727::268435455::536870911::[]) 30 0 ?_ (fun bs10 G9=>?_)
   refine bU (aU (lX rfl ?_))
   exact cG
  have hF:=u9 h11 hF
  rcases Bool.eq_false_or_eq_true (decide (a1≤v6.dof)) with h12|h12
  ·have hF:=u7 h12 hF
   refine drb (0::1::3::7::15::31::15::127::255::511::1023::2047::4095::8191::16383::8191::8191::73727::237567::499711::1023999::2097151::4194303::8388607::16777215::33554431::67108863::134217727::268435455::536870911::[]) 30 0 ?_ (fun bs10 G9=>?_)
   refine bU (aU (lX rfl ?_))
   exact cG
  have hF:=u9 h12 hF
  rcases Bool.eq_false_or_eq_true (decide (0<x2)) with h13|h13
  ·have hF:=u7 h13 hF
   obtain⟨v14,h15,hF⟩:=bB hF
   obtain⟨v16,h17,hF⟩:=bB hF
   rcases Bool.eq_false_or_eq_true (decide (v6.dof≤v16.dof)) with h18|h18
   ·have hF:=u7 h18 hF
    refine drb (0::1::3::7::15::31::15::127::255::511::1023::2047::4095::8191::16383::8191::8191::73727::237567::499711::1023999::2097151::4194303::8388607::16777215::33554431::67108863::134217727::268435455::536870911::[]) 30 0 ?_ (fun bs10 G9=>?_)
    refine bU (aU (lX rfl ?_))
    exact cG
   have hF:=u9 h18 hF
   obtain⟨v19,h20,hF⟩:=bC hF oZ
   refine drb (0::1::3::7::15::31::15::127::255::511::1023::2047::4095::8191::16383::8191::8191::73727::237567::499711::1023999::2097151::4194303::8388607::16777215::33554431::67108863::134217727::268435455::536870911::[]) 30 0 ?_ (fun bs10 G9=>?_)
   refine bU (aU (aJ hF rfl (fun h21 hF=>?_) (fun h21 hF=>?_)))
   ·exact cG
   obtain⟨v22,h23,hF⟩:=bB hF
   refine go ?_ ?_
   exact aK (fun a w hh=>⟨v22,hF,iN [] hh⟩)
  have hF:=u9 h13 hF
  obtain⟨v24,h25,hF⟩:=bC hF oZ
  refine drb (0::1::3::7::15::31::15::127::255::511::1023::2047::4095::8191::16383::8191::8191::73727::237567::499711::1023999::2097151::4194303::8388607::16777215::33554431::67108863::134217727::268435455::536870911::[]) 30 0 ?_ (fun bs10 G9=>?_)
  refine bU (aU (aJ hF rfl (fun h26 hF=>?_) (fun h26 hF=>?_)))
  ·exact cG
  obtain⟨v27,h28,hF⟩:=bB hF
  refine go ?_ ?_
  exact aK (fun a w hh=>⟨v27,hF,iN [] hh⟩)
 refine dJ ?_
 obtain rfl:=p9 hF
 exact qB Jj4 ⟨hRl3,rfl,rfl⟩ []
def kE (K:Nat) (c0:Int) (c1:aD) (a0:aA):Option Bool:=
 (rA K a0.j c0).bind fun v2=>bif(!v2) then(some true) else((rA K a0.t c0).bind fun v5=>bif(!v5) then(some true) else((aAG a0.mu).bind fun v8=>bif(!v8) then(some true) else((uD a0.mu).bind fun v11=>bif(decide (v11<0)) then(some true) else((eF K a0.j c1.v).bind fun v14=>(uD v14).bind fun v16=>some (v16 != 0)))))
theorem zN {K:Nat} {c0:Int} {c1:aD} {a0:aA} {r:Bool} (hF:kE K c0 c1 a0=some r):Ct Tryz.prog 153 [.va (aA.enc a0),.vc (pM (cI.e c0)),.vc (pM (aD.cod.e c1))] (.vc (pB r)):=by
 unfold kE at hF
 refine aI Tryz.func153 rfl (by kernel_rfl) Tryz.ntmps153 rfl (fun w0 M0=>?_)
 refine aO (aY (cU rfl rfl trivial (fun b1=>?_)))
 obtain⟨v2,h3,hF⟩:=bC hF aAa
 refine go ?_ ?_
 refine d7 hF (fun h4 hF=>?_) (fun h4 hF=>?_)
 ·exact cG
 obtain⟨v5,h6,hF⟩:=bC hF aAa
 refine go ?_ ?_
 refine d7 hF (fun h7 hF=>?_) (fun h7 hF=>?_)
 ·exact cG
 obtain⟨v8,h9,hF⟩:=bC hF oZ
 refine go ?_ ?_
 refine d7 hF (fun h10 hF=>?_) (fun h10 hF=>?_)
 ·exact cG
 obtain⟨v11,h12,hF⟩:=bC hF gC
 refine go ?_ ?_
 refine d7 hF (fun h13 hF=>?_) (fun h13 hF=>?_)
 ·exact cG
 obtain⟨v14,h15,hF⟩:=bC hF fV
 obtain⟨v16,h17,hF⟩:=bC hF gC
 exact cG
def nD (K:Nat) (a0:aD):Option Bool:=
 (fA K a0.rows (kE K (a0.dofs.length:Int) a0)).bind fun v16=>some (!v16)
def gJ (K:Nat) (a0:aD):Nat→Int→Option (LR Bool Unit)
 |0,_=>none
 |k+1,x13=>bif(decide (x13<(a0.dofs.length:Int))) then((bK a0.dofs x13).bind fun v19=>(aAG v19.inv).bind fun v22=>bif(!v22) then(some (.ret false)) else((uD v19.inv).bind fun v25=>bif(decide (v25≤0)) then(some (.ret false)) else((aP (x13+1)).bind fun v28=>gJ K a0 k v28))) else(some (.go ()))
def l6 (K:Nat) (a0:aD):Option Bool:=
 bif(decide (12<(a0.dofs.length:Int))) then(some false) else(bif((a0.load.length:Int) != (a0.dofs.length:Int)) then(some false) else(bif((a0.v.length:Int) != (a0.dofs.length:Int)) then(some false) else((qP K a0.load).bind fun v6=>bif(!v6) then(some false) else((qP K a0.v).bind fun v9=>bif(!v9) then(some false) else((gJ K a0 K 0).bind fun o=>match o with| .ret r=>some r| .go _=>nD K a0)))))
theorem vX {K:Nat} {a0:aD} {r:Bool} (hF:l6 K a0=some r):Ct Tryz.prog 69 [.va (aD.enc a0)] (.vc (pB r)):=by
 unfold l6 at hF
 refine aI Tryz.func69 rfl (by kernel_rfl) Tryz.ntmps69 rfl (fun w0 M0=>?_)
 refine aO (aY (cU rfl rfl trivial (fun b1=>?_)))
 refine go ?_ ?_
 refine aM rfl tyZ3q (fun b2=>?_)
 refine go ?_ ?_
 refine d7 hF (fun h3 hF=>?_) (fun h3 hF=>?_)
 ·refine go ?_ ?_
  refine lX rfl ?_
  exact cG
 refine go ?_ ?_
 refine d7 hF (fun h4 hF=>?_) (fun h4 hF=>?_)
 ·refine go ?_ ?_
  refine lX rfl ?_
  exact cG
 refine go ?_ ?_
 refine d7 hF (fun h5 hF=>?_) (fun h5 hF=>?_)
 ·refine go ?_ ?_
  refine lX rfl ?_
  exact cG
 obtain⟨v6,h7,hF⟩:=bC hF xK
 refine go ?_ ?_
 refine d7 hF (fun h8 hF=>?_) (fun h8 hF=>?_)
 ·refine go ?_ ?_
  refine lX rfl ?_
  exact cG
 obtain⟨v9,h10,hF⟩:=bC hF xK
 refine go ?_ ?_
 refine aJ hF rfl (fun h11 hF=>?_) (fun h11 hF=>?_)
 ·exact cG
 refine go ?_ ?_
 refine aT (cJ (fun H E=>nD K a0=some r∧H=[⟨some b2,1,3,1,1,[pI .i64 (a0.dofs.length:Int)]⟩,⟨some b1,1,113,4,1,(aD.enc a0)⟩]∧E=[(1,.vc (pP (some b1) 0)),(3,.vc (pP (some b2) 0))]) ?_ (fun Jj15=>?_))
 ·rintro _ _ ⟨hF,rfl,rfl⟩
  unfold nD at hF
  refine aU (aO (aY (aV (p6 (off:=0) (k:=3) rfl tyF113_3) zU1 ?_)))
  refine aV (gH 1 1 rfl rfl rfl rfl (.one tyO25)) zU1 ?_
  refine aJe 0 [(3,0)] rfl zU1 rfl ?_
  refine aJe 0 [(1,0),(55,3)] rfl zU2 rfl ?_
  refine aV (aNW (φ:=(kE K (a0.dofs.length:Int) a0)) (pre:=fun x:aA=>[.va (aA.enc x)]) (post:=fun r:Bool=>.vc (pB r)) (xs:=[.tmp 3,.tmp 1]) (cs:=[pM (cI.e (a0.dofs.length:Int)),pM (aD.cod.e a0)]) rfl rfl (fun x r h=>zN h)) zU2 ?_
  obtain⟨v16,h17,hF⟩:=bC hF rR
  exact cG
 obtain⟨ol14,hL,hRl14⟩:=bB hF
 refine jE (fun k a w=>∃(x13:Int),gJ K a0 k x13=some ol14∧hs _ [⟨some b2,1,3,1,1,[pI .i64 (a0.dofs.length:Int)]⟩,⟨some b1,1,113,4,1,(aD.enc a0)⟩] [(1,.vc (pP (some b1) 0)),(3,.vc (pP (some b2) 0)),(38,.vc (pS aG.cod a0.dofs)),(39,.vc (pI .i64 (a0.dofs.length:Int))),(40,.vc (pI .i64 x13))] a w) K (fun a w ⟨_,hF,_⟩=>by cases hF) (fun k a w ⟨x13,hF,hh⟩=>jI ?_ hh) (fun a w hh=>⟨0,hL,iN [0,1] hh⟩)
 rw [gJ.eq_2] at hF
 refine go ?_ ?_
 refine aJ hF rfl (fun h18 hF=>?_) (fun h18 hF=>?_)
 ·refine go ?_ ?_
  refine aT ?_
  obtain⟨v19,h20,hF⟩:=bB hF
  refine go ?_ ?_
  refine aM rfl tyZ108q (fun b21=>?_)
  obtain⟨v22,h23,hF⟩:=bC hF oZ
  refine go ?_ ?_
  refine d7 hF (fun h24 hF=>?_) (fun h24 hF=>?_)
  ·refine go ?_ ?_
   refine lX rfl ?_
   exact cG
  obtain⟨v25,h26,hF⟩:=bC hF gC
  refine go ?_ ?_
  refine aJ hF rfl (fun h27 hF=>?_) (fun h27 hF=>?_)
  ·exact cG
  obtain⟨v28,h29,hF⟩:=bB hF
  refine go ?_ ?_
  exact aK (fun a w hh=>⟨v28,hF,iN [1,2] hh⟩)
 refine dJ ?_
 obtain rfl:=p9 hF
 exact qB Jj15 ⟨hRl14,rfl,rfl⟩ [0,1]
def jZ (K:Nat) (a0:aD) (a1:aA):Option Int:=
 (eF K a1.t a0.v).bind fun v3=>(uD v3).bind fun v5=>some v5
theorem sU {K:Nat} {a0:aD} {a1:aA} {r:Int} (hF:jZ K a0 a1=some r):Ct Tryz.prog 155 [.va (aD.enc a0),.va (aA.enc a1)] (.vc (pI .i64 r)):=by
 unfold jZ at hF
 refine aI Tryz.func155 rfl (by kernel_rfl) Tryz.ntmps155 rfl (fun w0 M0=>?_)
 refine aO (aY (cU rfl rfl trivial (fun b1=>?_)))
 refine cU rfl rfl trivial (fun b2=>?_)
 obtain⟨v3,h4,hF⟩:=bC hF fV
 obtain⟨v5,h6,hF⟩:=bC hF gC
 exact cG
def kU (K:Nat) (x18:List aC):Option (List aC):=
 some x18
def cW (K:Nat) (a0:aD):Nat→(List aC)→Int→Option (List aC)
 |0,_,_=>none
 |k+1,x11,x17=>bif(decide (x17<(a0.rows.length:Int))) then((bK a0.rows x17).bind fun v27=>(qW x11 [(⟨x17,0⟩:aC)]).bind fun x30=>bif(decide (0<(v27.t.length:Int))) then((jZ K a0 v27).bind fun v38=>bif(v38==0) then((qW x30 [(⟨x17,1⟩:aC),(⟨x17,2⟩:aC),(⟨x17,3⟩:aC)]).bind fun x41=>(aP (x17+1)).bind fun v48=>cW K a0 k x41 v48) else((aP (x17+1)).bind fun v50=>cW K a0 k x30 v50)) else((aP (x17+1)).bind fun v52=>cW K a0 k x30 v52)) else(some x11)
def iO (K:Nat) (a0:aD):Option (List aC):=
 (cW K a0 K ([]:List aC) 0).bind fun x18=>kU K x18
theorem tW {K:Nat} {a0:aD} {r:List aC} (hF:iO K a0=some r):Ct Tryz.prog 70 [.va (aD.enc a0)] (.vc (pS aC.cod r)):=by
 unfold iO at hF
 refine aI Tryz.func70 rfl (by kernel_rfl) Tryz.ntmps70 rfl (fun w0 M0=>?_)
 refine aO (aY (cU rfl rfl trivial (fun b1=>?_)))
 refine aV (bS (.inr rfl)) ⟨eD aC.cod,trivial⟩ ?_
 refine bU (aU (aO (aY (xG aC.cod 118 rfl ?_))))
 refine go ?_ ?_
 refine aT (cJ (fun H E=>∃(x18:List aC),∃(b19:Option Nat),∃(c20:Nat),∃(n21:Nat),kU K x18=some r∧x18.length=n21∧H=[hO aC.cod b19 c20 118 n21 x18]∧E=[(3,.vc (pO b19 n21 c20))]) ?_ (fun Jj25=>?_))
 ·rintro _ _ ⟨x18,b19,c20,n21,hF,q22,rfl,rfl⟩
  unfold kU at hF
  refine go ?_ ?_
  refine rW (r5 (yG 0 [2,3,39] rfl q22 ⟨rfl,rfl,rfl,trivial⟩ rfl ?_))
  obtain rfl:=p9 hF
  exact sD (.inl rfl) Tryz.results70 (.tmp rfl .nil) rfl rfl
 obtain⟨x18',hL,hRl24⟩:=bB hF
 refine jE (fun k a w=>∃(x11:List aC),∃(x17:Int),∃(b12:Option Nat),∃(c13:Nat),∃(n14:Nat),cW K a0 k x11 x17=some x18'∧x11.length=n14∧hs _ [hO aC.cod b12 c13 118 n14 x11,⟨some b1,1,113,4,1,(aD.enc a0)⟩] [(1,.vc (pP (some b1) 0)),(3,.vc (pO b12 n14 c13)),(7,.vc (pS aA.cod a0.rows)),(8,.vc (pI .i64 (a0.rows.length:Int))),(9,.vc (pI .i64 x17))] a w) K (fun a w ⟨_,_,_,_,_,hF,_,_⟩=>by cases hF) (fun k a w ⟨x11,x17,b12,c13,n14,hF,q15,hh⟩=>jI ?_ hh) (fun a w hh=>⟨([]:List aC),0,none,0,0,hL,rfl,iN [0,1] hh⟩)
 rw [cW.eq_2] at hF
 refine go ?_ ?_
 refine aJ hF rfl (fun h26 hF=>?_) (fun h26 hF=>?_)
 ·refine go ?_ ?_
  refine aT ?_
  obtain⟨v27,h28,hF⟩:=bB hF
  refine go ?_ ?_
  refine aM rfl tyZ51q (fun b29=>?_)
  refine go ?_ ?_
  refine aV (fF (is:=[0,1]) (xs:=[.tmp 15,.const (.int .i64 (0))]) (ps:=[.vc (pI .i64 x17),.vc (pI .i64 0)]) rfl tyB118q rfl rfl ⟨trivial,trivial,trivial⟩ rfl) ⟨rfl,kC _ _,trivial⟩ ?_
  refine aV (sO (C:=aC.cod) (xs:=[.tmp 16]) (ps:=[.va ([pI .i64 x17]++[pI .i64 0])]) (zs:=[(⟨x17,0⟩:aC)]) rfl tyS114 rfl ⟨⟨trivial,rfl⟩,trivial⟩ rfl) zU1 ?_
  obtain⟨x30,h31,hF⟩:=bB hF
  refine qV 1 rfl tyS114 rfl rfl q15 rfl rfl h31 (fun b32 c33 H34 e35=>?_)
  cases e35
  refine go ?_ ?_
  refine d7 hF (fun h37 hF=>?_) (fun h37 hF=>?_)
  ·obtain⟨v38,h39,hF⟩:=bC hF sU
   refine go ?_ ?_
   refine aJ hF rfl (fun h40 hF=>?_) (fun h40 hF=>?_)
   ·refine go ?_ ?_
    refine aV (fF (is:=[0,1]) (xs:=[.tmp 30,.const (.int .i64 (1))]) (ps:=[.vc (pI .i64 x17),.vc (pI .i64 1)]) rfl tyB118q rfl rfl ⟨trivial,trivial,trivial⟩ rfl) ⟨rfl,kC _ _,trivial⟩ ?_
    refine nI ?_
    refine aV (fF (is:=[0,1]) (xs:=[.tmp 32,.const (.int .i64 (2))]) (ps:=[.vc (pI .i64 x17),.vc (pI .i64 2)]) rfl tyB118q rfl rfl ⟨trivial,trivial,trivial⟩ rfl) ⟨rfl,kC _ _,trivial⟩ ?_
    refine nI ?_
    refine aV (fF (is:=[0,1]) (xs:=[.tmp 34,.const (.int .i64 (3))]) (ps:=[.vc (pI .i64 x17),.vc (pI .i64 3)]) rfl tyB118q rfl rfl ⟨trivial,trivial,trivial⟩ rfl) ⟨rfl,kC _ _,trivial⟩ ?_
    refine aV (sO (C:=aC.cod) (xs:=[.tmp 31,.tmp 33,.tmp 35]) (ps:=[.va ([pI .i64 x17]++[pI .i64 1]),.va ([pI .i64 x17]++[pI .i64 2]),.va ([pI .i64 x17]++[pI .i64 3])]) (zs:=[(⟨x17,1⟩:aC),(⟨x17,2⟩:aC),(⟨x17,3⟩:aC)]) rfl tyS114 rfl ⟨⟨trivial,rfl⟩,⟨trivial,rfl⟩,⟨trivial,rfl⟩,trivial⟩ rfl) ⟨rfl,rfl,rfl,trivial⟩ ?_
    obtain⟨x41,h42,hF⟩:=bB hF
    refine qV 1 rfl tyS114 rfl rfl (iD h31 q15) rfl rfl h42 (fun b43 c44 H45 e46=>?_)
    cases e46
    obtain⟨v48,h49,hF⟩:=bB hF
    refine go ?_ ?_
    exact aK (fun a w hh=>⟨x41,v48,b43,c44,((n14+[(⟨x17,0⟩:aC)].length)+[(⟨x17,1⟩:aC),(⟨x17,2⟩:aC),(⟨x17,3⟩:aC)].length),hF,(iD h42 (iD h31 q15)),iN [1,2] hh⟩)
   obtain⟨v50,h51,hF⟩:=bB hF
   refine go ?_ ?_
   exact aK (fun a w hh=>⟨x30,v50,b32,c33,(n14+[(⟨x17,0⟩:aC)].length),hF,(iD h31 q15),iN [1,2] hh⟩)
  refine go ?_ ?_
  refine tA rfl ?_
  obtain⟨v52,h53,hF⟩:=bB hF
  refine go ?_ ?_
  exact aK (fun a w hh=>⟨x30,v52,b32,c33,(n14+[(⟨x17,0⟩:aC)].length),hF,(iD h31 q15),iN [1,2] hh⟩)
 refine dJ ?_
 obtain rfl:=p9 hF
 exact qB Jj25 ⟨x11,b12,c13,n14,hRl24,q15,rfl,rfl⟩ [0]
def jN (K:Nat) (a0:aD) (a1:aA) (a2:Rat):Option Rat:=
 (jZ K a0 a1).bind fun v7=>(aP (-v7)).bind fun v9=>(zJ v9 1).bind fun v11=>(w5 a1.mu a2).bind fun v13=>(w5 v11 v13).bind fun v15=>some v15
theorem uQ {K:Nat} {a0:aD} {a1:aA} {a2:Rat} {r:Rat} (hF:jN K a0 a1 a2=some r):Ct Tryz.prog 72 [.va (aD.enc a0),.va (aA.enc a1),.va (eQ a2)] (.va (eQ r)):=by
 unfold jN at hF
 refine aI Tryz.func72 rfl (by kernel_rfl) Tryz.ntmps72 rfl (fun w0 M0=>?_)
 refine aO (aY (cU rfl rfl trivial (fun b1=>?_)))
 refine cU rfl rfl trivial (fun b2=>?_)
 refine cU rfl rfl trivial (fun b3=>?_)
 refine aM rfl tyZ44q (fun b4=>?_)
 obtain⟨v7,h8,hF⟩:=bC hF sU
 obtain⟨v9,h10,hF⟩:=bB hF
 obtain⟨v11,h12,hF⟩:=bC hF xZ
 obtain⟨v13,h14,hF⟩:=bC hF m5
 obtain⟨v15,h16,hF⟩:=bC hF m5
 refine go ?_ ?_
 refine dr [0,0,3,7,15,0,32,0,255,511,1023] 10 1 ?_ (fun bs6 G5=>?_)
 exact cG
def nQ (a0:List Rat):Option (List Rat):=
 (qW ([]:List Rat) a0).bind fun x9=>some x9
theorem aAk {a0:List Rat} {r:List Rat} (hF:nQ a0=some r):CtO Tryz.prog 160 [] [.vc (pS cQ a0)] (fun Ho q=>∃b18 c19 n17,r.length=n17∧Ho=[hO cQ b18 c19 44 n17 r]∧q=.vc (pO b18 n17 c19)):=by
 unfold nQ at hF
 refine aI Tryz.func160 rfl (by kernel_rfl) Tryz.ntmps160 rfl (fun w0 M0=>?_)
 refine aO (aY (xG cQ 44 rfl ?_))
 refine bU (aU (aO (aO (aY (nI ?_)))))
 refine aJb rfl Tryz.underlying24 rfl (fun h3=>?_) ?_
 ·skip
  subst h3
  have hF:some ([]:List Rat)=some r:=by simpa [qW] using hF
  refine bU (aU (lX rfl ?_))
  refine aO (aY (xG cQ 44 rfl ?_))
  refine bU (aU (rW (r5 ?_)))
  obtain rfl:=p9 hF
  exact zY (.inl rfl) Tryz.results160 (.tmp rfl .nil) rfl [0] rfl (by decide) ⟨none,0,0,rfl,rfl,rfl⟩
 refine bU (aU (tA rfl ?_))
 refine go ?_ ?_
 refine aJq (aIC (C:=cQ) (xs:=[]) (ps:=[]) (zs:=([]:List Rat)) rfl tyS24 rfl trivial rfl) trivial (fun b6 _=>?_)
 refine nI ?_
 obtain⟨x9,h10,hF⟩:=bB hF
 refine qV 0 rfl tyS24 rfl rfl rfl rfl rfl h10 (fun b11 c12 H13 e14=>?_)
 cases e14
 refine go ?_ ?_
 refine rW (r5 ?_)
 obtain rfl:=p9 hF
 exact zY (.inl rfl) Tryz.results160 (.tmp rfl .nil) rfl [0] rfl (by decide) ⟨b11,c12,(0+a0.length),(iD h10 rfl),rfl,rfl⟩
def iC (K:Nat) (x46:List Rat):Option (List Rat):=
 some x46
def dD (K:Nat) (a0:aD):Nat→(List Rat)→Int→Option (List Rat)
 |0,_,_=>none
 |k+1,x39,x45=>bif(decide (x45<(a0.dofs.length:Int))) then((bK a0.dofs x45).bind fun v55=>(bK x39 x45).bind fun v60=>(w5 v60 v55.inv).bind fun v62=>(bK x39 x45).bind fun v64=>(nL x39 x45 v62).bind fun x66=>(aP (x45+1)).bind fun v69=>dD K a0 k x66 v69) else(some x39)
def iB (K:Nat) (a0:aD) (x24:List Rat):Option (List Rat):=
 (dD K a0 K x24 0).bind fun x46=>iC K x46
def gX (K:Nat) (x23:Int) (recl30:(List Rat)→Int→Option (List Rat)) (x111:List Rat):Option (List Rat):=
 (aP (x23+1)).bind fun v119=>recl30 x111 v119
def cK (K:Nat) (a2:List aF) (x23:Int) (v72:aA):Nat→(List Rat)→Int→Option (List Rat)
 |0,_,_=>none
 |k+1,x104,x110=>bif(decide (x110<(v72.t.length:Int))) then((bK v72.t x110).bind fun v122=>(bK x104 v122.dof).bind fun v127=>(bK a2 x23).bind fun v129=>(w5 v122.k v129.f).bind fun v131=>(aAW v127 v131).bind fun v133=>(bK x104 v122.dof).bind fun v135=>(nL x104 v122.dof v133).bind fun x137=>(aP (x110+1)).bind fun v140=>cK K a2 x23 v72 k x137 v140) else(some x104)
def iE (K:Nat) (a2:List aF) (x23:Int) (v72:aA) (recl30:(List Rat)→Int→Option (List Rat)) (x89:List Rat):Option (List Rat):=
 (cK K a2 x23 v72 K x89 0).bind fun x111=>gX K x23 recl30 x111
def cN (K:Nat) (a2:List aF) (x23:Int) (v72:aA):Nat→(List Rat)→Int→Option (List Rat)
 |0,_,_=>none
 |k+1,x82,x88=>bif(decide (x88<(v72.j.length:Int))) then((bK v72.j x88).bind fun v143=>(bK x82 v143.dof).bind fun v148=>(bK a2 x23).bind fun v150=>(w5 v143.k v150.n).bind fun v152=>(aAW v148 v152).bind fun v154=>(bK x82 v143.dof).bind fun v156=>(nL x82 v143.dof v154).bind fun x158=>(aP (x88+1)).bind fun v161=>cN K a2 x23 v72 k x158 v161) else(some x82)
def bX (K:Nat) (a0:aD) (a2:List aF):Nat→(List Rat)→Int→Option (List Rat)
 |0,_,_=>none
 |k+1,x17,x23=>bif(decide (x23<(a0.rows.length:Int))) then((bK a0.rows x23).bind fun v72=>(cN K a2 x23 v72 K x17 0).bind fun x89=>iE K a2 x23 v72 (bX K a0 a2 k) x89) else(some x17)
def bE (K:Nat) (a0:aD) (a1:List Rat) (a2:List aF):Option (List Rat):=
 (nQ a1).bind fun v2=>(bX K a0 a2 K v2 0).bind fun x24=>iB K a0 x24
theorem cO {K:Nat} {a0:aD} {a1:List Rat} {a2:List aF} {r:List Rat} (hF:bE K a0 a1 a2=some r):Ct Tryz.prog 74 [.va (aD.enc a0),.vc (pS cQ a1),.vc (pS aF.cod a2)] (.vc (pS cQ r)):=by
 unfold bE at hF
 refine aI Tryz.func74 rfl (by kernel_rfl) Tryz.ntmps74 rfl (fun w0 M0=>?_)
 refine aO (aY (cU rfl rfl trivial (fun b1=>?_)))
 refine aV (bS (.inr rfl)) ⟨eD cQ,trivial⟩ ?_
 obtain⟨v2,h3,hF⟩:=bB hF
 refine go ?_ ?_
 refine aCL [] [0] rfl (aAk h3) zU1 rfl rfl (by decide) ?_
 rintro _ _ ⟨b5,c6,n7,q8,rfl,rfl⟩
 refine go ?_ ?_
 refine aT (cJ (fun H E=>∃(x24:List Rat),iB K a0 x24=some r∧x24.length=n7∧H=[hO cQ b5 c6 44 n7 x24,⟨some b1,1,113,4,1,(aD.enc a0)⟩]∧E=[(3,.vc (pP (some b1) 0)),(7,.vc (pO b5 n7 c6))]) ?_ (fun Jj31=>?_))
 ·rintro _ _ ⟨x24,hF,q28,rfl,rfl⟩
  unfold iB at hF
  refine go ?_ ?_
  refine aT (cJ (fun H E=>∃(x46:List Rat),iC K x46=some r∧x46.length=n7∧H=[hO cQ b5 c6 44 n7 x46]∧E=[(7,.vc (pO b5 n7 c6))]) ?_ (fun Jj53=>?_))
  ·rintro _ _ ⟨x46,hF,q50,rfl,rfl⟩
   unfold iC at hF
   refine go ?_ ?_
   refine rW (r5 (yG 0 [6,7,98] rfl q50 ⟨rfl,rfl,rfl,trivial⟩ rfl ?_))
   obtain rfl:=p9 hF
   exact sD (.inl rfl) Tryz.results74 (.tmp rfl .nil) rfl rfl
  obtain⟨x46',hL,hRl52⟩:=bB hF
  refine jE (fun k a w=>∃(x39:List Rat),∃(x45:Int),dD K a0 k x39 x45=some x46'∧x39.length=n7∧hs _ [hO cQ b5 c6 44 n7 x39] [(7,.vc (pO b5 n7 c6)),(80,.vc (pS aG.cod a0.dofs)),(81,.vc (pI .i64 (a0.dofs.length:Int))),(82,.vc (pI .i64 x45))] a w) K (fun a w ⟨_,_,hF,_,_⟩=>by cases hF) (fun k a w ⟨x39,x45,hF,q43,hh⟩=>jI ?_ hh) (fun a w hh=>⟨x24,0,hL,q28,iN [0] hh⟩)
  rw [dD.eq_2] at hF
  refine go ?_ ?_
  refine aJ hF rfl (fun h54 hF=>?_) (fun h54 hF=>?_)
  ·refine go ?_ ?_
   refine aT ?_
   obtain⟨v55,h56,hF⟩:=bB hF
   refine go ?_ ?_
   refine aM rfl tyZ108q (fun b57=>?_)
   obtain⟨v60,h61,hF⟩:=bB hF
   obtain⟨v62,h63,hF⟩:=bC hF m5
   have hF:=rQ h61 hF
   refine go ?_ ?_
   refine dr [0,0,0,0,12,28,0,64,252,511,1023] 10 1 ?_ (fun bs59 G58=>?_)
   obtain⟨x66,h67,v69,h70,hF⟩:=uS hF
   refine go ?_ ?_
   exact aK (fun a w hh=>⟨x66,v69,hF,(bH h67 q43),iN [1] hh⟩)
  refine dJ ?_
  obtain rfl:=p9 hF
  exact qB Jj53 ⟨x39,hRl52,q43,rfl,rfl⟩ [0]
 obtain⟨x24',hL,hRl30⟩:=bB hF
 refine jE (fun k a w=>∃(x17:List Rat),∃(x23:Int),bX K a0 a2 k x17 x23=some x24'∧x17.length=n7∧hs _ [hO cQ b5 c6 44 n7 x17,⟨some b1,1,113,4,1,(aD.enc a0)⟩] [(2,.vc (pS aF.cod a2)),(3,.vc (pP (some b1) 0)),(7,.vc (pO b5 n7 c6)),(19,.vc (pS aA.cod a0.rows)),(20,.vc (pI .i64 (a0.rows.length:Int))),(21,.vc (pI .i64 x23))] a w) K (fun a w ⟨_,_,hF,_,_⟩=>by cases hF) (fun k a w ⟨x17,x23,hF,q21,hh⟩=>jI ?_ hh) (fun a w hh=>⟨v2,0,hL,q8,iN [0,1] hh⟩)
 rw [bX.eq_2] at hF
 refine go ?_ ?_
 refine aJ hF rfl (fun h71 hF=>?_) (fun h71 hF=>?_)
 ·refine go ?_ ?_
  refine aT ?_
  obtain⟨v72,h73,hF⟩:=bB hF
  refine go ?_ ?_
  refine aM rfl tyZ51q (fun b74=>?_)
  refine go ?_ ?_
  refine aT (cJ (fun H E=>∃(x89:List Rat),iE K a2 x23 v72 (bX K a0 a2 k) x89=some x24'∧x89.length=n7∧H=[⟨some b74,1,51,18,1,(aA.enc v72)⟩,hO cQ b5 c6 44 n7 x89,⟨some b1,1,113,4,1,(aD.enc a0)⟩]∧E=[(2,.vc (pS aF.cod a2)),(3,.vc (pP (some b1) 0)),(7,.vc (pO b5 n7 c6)),(8,.vc (pI .i64 x23)),(9,.vc (pP (some b74) 0)),(19,.vc (pS aA.cod a0.rows)),(20,.vc (pI .i64 (a0.rows.length:Int))),(21,.vc (pI .i64 x23))]) ?_ (fun Jj96=>?_))
  ·rintro _ _ ⟨x89,hF,q93,rfl,rfl⟩
   unfold iE at hF
   refine go ?_ ?_
   refine aT (cJ (fun H E=>∃(x111:List Rat),gX K x23 (bX K a0 a2 k) x111=some x24'∧x111.length=n7∧H=[hO cQ b5 c6 44 n7 x111,⟨some b1,1,113,4,1,(aD.enc a0)⟩]∧E=[(2,.vc (pS aF.cod a2)),(3,.vc (pP (some b1) 0)),(7,.vc (pO b5 n7 c6)),(19,.vc (pS aA.cod a0.rows)),(20,.vc (pI .i64 (a0.rows.length:Int))),(21,.vc (pI .i64 x23))]) ?_ (fun Jj118=>?_))
   ·rintro _ _ ⟨x111,hF,q115,rfl,rfl⟩
    unfold gX at hF
    obtain⟨v119,h120,hF⟩:=bB hF
    refine go ?_ ?_
    exact aK (fun a w hh=>⟨x111,v119,hF,q115,iN [0,1] hh⟩)
   obtain⟨x111',hL,hRl117⟩:=bB hF
   refine jE (fun k a w=>∃(x104:List Rat),∃(x110:Int),cK K a2 x23 v72 k x104 x110=some x111'∧x104.length=n7∧hs _ [hO cQ b5 c6 44 n7 x104,⟨some b1,1,113,4,1,(aD.enc a0)⟩] [(2,.vc (pS aF.cod a2)),(3,.vc (pP (some b1) 0)),(7,.vc (pO b5 n7 c6)),(8,.vc (pI .i64 x23)),(19,.vc (pS aA.cod a0.rows)),(20,.vc (pI .i64 (a0.rows.length:Int))),(21,.vc (pI .i64 x23)),(53,.vc (pS aE.cod v72.t)),(54,.vc (pI .i64 (v72.t.length:Int))),(55,.vc (pI .i64 x110))] a w) K (fun a w ⟨_,_,hF,_,_⟩=>by cases hF) (fun k a w ⟨x104,x110,hF,q108,hh⟩=>jI ?_ hh) (fun a w hh=>⟨x89,0,hL,q93,iN [1,2] hh⟩)
   rw [cK.eq_2] at hF
   refine go ?_ ?_
   refine aJ hF rfl (fun h121 hF=>?_) (fun h121 hF=>?_)
   ·refine go ?_ ?_
    refine aT ?_
    obtain⟨v122,h123,hF⟩:=bB hF
    refine go ?_ ?_
    refine aM rfl tyZ92q (fun b124=>?_)
    obtain⟨v127,h128,v129,h130,hF⟩:=uS hF
    obtain⟨v131,h132,hF⟩:=bC hF m5
    obtain⟨v133,h134,hF⟩:=bC hF tS
    have hF:=rQ h128 hF
    refine go ?_ ?_
    refine dr [0,0,2,0,0,16,56,120,0,256,0,0,3072,7168,15360,32512,65528,131071,262143] 18 1 ?_ (fun bs126 G125=>?_)
    obtain⟨x137,h138,v140,h141,hF⟩:=uS hF
    refine go ?_ ?_
    exact aK (fun a w hh=>⟨x137,v140,hF,(bH h138 q108),iN [1,2] hh⟩)
   refine dJ ?_
   obtain rfl:=p9 hF
   exact qB Jj118 ⟨x104,hRl117,q108,rfl,rfl⟩ [0,1]
  obtain⟨x89',hL,hRl95⟩:=bB hF
  refine jE (fun k a w=>∃(x82:List Rat),∃(x88:Int),cN K a2 x23 v72 k x82 x88=some x89'∧x82.length=n7∧hs _ [⟨some b74,1,51,18,1,(aA.enc v72)⟩,hO cQ b5 c6 44 n7 x82,⟨some b1,1,113,4,1,(aD.enc a0)⟩] [(2,.vc (pS aF.cod a2)),(3,.vc (pP (some b1) 0)),(7,.vc (pO b5 n7 c6)),(8,.vc (pI .i64 x23)),(9,.vc (pP (some b74) 0)),(19,.vc (pS aA.cod a0.rows)),(20,.vc (pI .i64 (a0.rows.length:Int))),(21,.vc (pI .i64 x23)),(27,.vc (pS aE.cod v72.j)),(28,.vc (pI .i64 (v72.j.length:Int))),(29,.vc (pI .i64 x88))] a w) K (fun a w ⟨_,_,hF,_,_⟩=>by cases hF) (fun k a w ⟨x82,x88,hF,q86,hh⟩=>jI ?_ hh) (fun a w hh=>⟨x17,0,hL,q21,iN [0,1,2] hh⟩)
  rw [cN.eq_2] at hF
  refine go ?_ ?_
  refine aJ hF rfl (fun h142 hF=>?_) (fun h142 hF=>?_)
  ·refine go ?_ ?_
   refine aT ?_
   obtain⟨v143,h144,hF⟩:=bB hF
   refine go ?_ ?_
   refine aM rfl tyZ92q (fun b145=>?_)
   obtain⟨v148,h149,v150,h151,hF⟩:=uS hF
   obtain⟨v152,h153,hF⟩:=bC hF m5
   obtain⟨v154,h155,hF⟩:=bC hF tS
   have hF:=rQ h149 hF
   refine go ?_ ?_
   refine dr [0,0,2,0,0,16,56,120,0,256,0,0,3072,7168,15360,32512,65528,131071,262143] 18 1 ?_ (fun bs147 G146=>?_)
   obtain⟨x158,h159,v161,h162,hF⟩:=uS hF
   refine go ?_ ?_
   exact aK (fun a w hh=>⟨x158,v161,hF,(bH h159 q86),iN [1,2,3] hh⟩)
  refine dJ ?_
  obtain rfl:=p9 hF
  exact qB Jj96 ⟨x82,hRl95,q86,rfl,rfl⟩ [0,1,2]
 refine dJ ?_
 obtain rfl:=p9 hF
 exact qB Jj31 ⟨x17,hRl30,q21,rfl,rfl⟩ [0,1]
def f8 (c0:List Rat) (a0:Int) (a1:Rat):Option (List Rat):=
 (bK c0 a0).bind fun v8=>(nL c0 a0 a1).bind fun x10=>some x10
theorem oI {c0:List Rat} {a0:Int} {a1:Rat} {r:List Rat} (hF:f8 c0 a0 a1=some r) {p0:Nat} {b3:Option Nat} {c4 n2:Nat} (q5:c0.length=n2):CtO Tryz.prog 157 [⟨some p0,1,24,1,1,[pO b3 n2 c4]⟩,hO cQ b3 c4 44 n2 c0] [.vc (pI .i64 a0),.va (eQ a1),.vc (pP (some p0) 0)] (fun Ho q=>∃b15 c16 n14,r.length=n14∧Ho=[⟨some p0,1,24,1,1,[pO b15 n14 c16]⟩,hO cQ b15 c16 44 n14 r]∧q=.any):=by
 unfold f8 at hF
 refine aI Tryz.func157 rfl (by kernel_rfl) Tryz.ntmps157 rfl (fun w0 M0=>?_)
 refine aO (aY (cU rfl rfl trivial (fun b7=>?_)))
 obtain⟨v8,h9,x10,h11,hF⟩:=uS hF
 obtain rfl:=p9 hF
 refine go ?_ ?_
 exact zY (.inr rfl) Tryz.results157 .nil rfl [1,2] rfl (by decide) ⟨b3,c4,n2,(bH h11 q5),rfl,rfl⟩
def nB (a0:List aF):Option (List aF):=
 (qW ([]:List aF) a0).bind fun x9=>some x9
theorem zQ {a0:List aF} {r:List aF} (hF:nB a0=some r):CtO Tryz.prog 158 [] [.vc (pS aF.cod a0)] (fun Ho q=>∃b18 c19 n17,r.length=n17∧Ho=[hO aF.cod b18 c19 58 n17 r]∧q=.vc (pO b18 n17 c19)):=by
 unfold nB at hF
 refine aI Tryz.func158 rfl (by kernel_rfl) Tryz.ntmps158 rfl (fun w0 M0=>?_)
 refine aO (aY (xG aF.cod 58 rfl ?_))
 refine bU (aU (aO (aO (aY (nI ?_)))))
 refine aJb rfl Tryz.underlying29 rfl (fun h3=>?_) ?_
 ·skip
  subst h3
  have hF:some ([]:List aF)=some r:=by simpa [qW] using hF
  refine bU (aU (lX rfl ?_))
  refine aO (aY (xG aF.cod 58 rfl ?_))
  refine bU (aU (rW (r5 ?_)))
  obtain rfl:=p9 hF
  exact zY (.inl rfl) Tryz.results158 (.tmp rfl .nil) rfl [0] rfl (by decide) ⟨none,0,0,rfl,rfl,rfl⟩
 refine bU (aU (tA rfl ?_))
 refine go ?_ ?_
 refine aJq (aIC (C:=aF.cod) (xs:=[]) (ps:=[]) (zs:=([]:List aF)) rfl tyS29 rfl trivial rfl) trivial (fun b6 _=>?_)
 refine nI ?_
 obtain⟨x9,h10,hF⟩:=bB hF
 refine qV 0 rfl tyS29 rfl rfl rfl rfl rfl h10 (fun b11 c12 H13 e14=>?_)
 cases e14
 refine go ?_ ?_
 refine rW (r5 ?_)
 obtain rfl:=p9 hF
 exact zY (.inl rfl) Tryz.results158 (.tmp rfl .nil) rfl [0] rfl (by decide) ⟨b11,c12,(0+a0.length),(iD h10 rfl),rfl,rfl⟩
def gA (c0:(List Nat×List (List Rat))) (c1:Int) (a0:Int) (a1:Rat):Option (List Nat×List (List Rat)):=
 (bK c0.1 a0).bind fun v17=>(bK c0.1 a0).bind fun v19=>(bK (c0.2.getD v19 []) c1).bind fun v21=>(aAW v21 a1).bind fun v23=>(bK (c0.2.getD v17 []) c1).bind fun v25=>(nL (c0.2.getD v17 []) c1 v23).bind fun x27=>some (c0.1,(c0.2.set v17 x27))
theorem oG {c0:(List Nat×List (List Rat))} {c1:Int} {a0:Int} {a1:Rat} {r:(List Nat×List (List Rat))} (hF:gA c0 c1 a0 a1=some r) {p0:Nat} {b5:Option Nat} {c6 n4:Nat} {g3:List vL} {N9:Nat} (q7:c0.1.length=n4) (q10:c0.2.length=N9) (q11:lH g3 c0.2) (q12:(∀k∈c0.1,k<N9)):CtO Tryz.prog 159 ([⟨some p0,1,62,1,1,[pO b5 n4 c6]⟩,hO (cH g3) b5 c6 24 n4 c0.1]++gZ cQ 44 g3 c0.2) [.vc (pI .i64 a0),.va (eQ a1),.vc (pP (some p0) 0),.vc (pM (cI.e c1))] (fun Ho q=>∃b34 c35 n33 g32 N38,r.1.length=n33∧r.2.length=N38∧lH g32 r.2∧(∀k∈r.1,k<N38)∧Ho=([⟨some p0,1,62,1,1,[pO b34 n33 c35]⟩,hO (cH g32) b34 c35 24 n33 r.1]++gZ cQ 44 g32 r.2)∧q=.any):=by
 unfold gA at hF
 refine aI Tryz.func159 rfl (by kernel_rfl) Tryz.ntmps159 rfl (fun w0 M0=>?_)
 refine aO (aY (cU rfl rfl trivial (fun b14=>?_)))
 refine bU (aU ?_)
 obtain⟨v17,h18,hF⟩:=bB hF
 have hF:=rQ h18 hF
 obtain⟨v21,h22,hF⟩:=bB hF
 obtain⟨v23,h24,hF⟩:=bC hF tS
 have hF:=rQ h22 hF
 refine jW [0,0,3,7,0,0,0,96,224,0,992,2016,0,8160,16383,32767] 15 1 [.v (.vc (pO b5 n4 c6)),.v (.vc (pI .i64 a0)),.v (.vc (pE b5 a0 (cH g3).n 0)),.v (.vc (pO (jC g3 v17).1 (jC g3 v17).2.1 (jC g3 v17).2.2)),.v (.vc (pI .i64 c1)),.v (.vc (pO b5 n4 c6)),.v (.vc (pI .i64 a0)),.v (.vc (pE b5 a0 (cH g3).n 0)),.v (.vc (pO (jC g3 v17).1 (jC g3 v17).2.1 (jC g3 v17).2.2)),.v (.vc (pI .i64 c1)),.v (.vc (pE (jC g3 v17).1 c1 cQ.n 0)),.v (.va (eQ v21)),.v (.va (eQ a1)),.v (.va (eQ v23)),.v (.vc (pE (jC g3 v17).1 c1 cQ.n 0))] bJ ⟨d0 (gH 1 1 rfl rfl rfl rfl (.one tyO62)) zU1,d0 (bS (.inl rfl)) zU1,d0 (lP (C:=(cH g3)) 2 rfl tyS62 rfl q7 (aS h18).1 (aS h18).2.1) zU2,d0 (pK (C:=(cH g3)) (k:=1) 2 rfl rfl h18 rfl (.one tyO24) rfl) zU1,d0 (aE1 1 rfl rfl (.one tyO3)) zU1,d0 (gH 1 1 rfl rfl rfl rfl (.one tyO62)) zU1,d0 (bS (.inl rfl)) zU1,d0 (lP (C:=(cH g3)) 2 rfl tyS62 rfl q7 (aS h18).1 (aS h18).2.1) zU2,d0 (pK (C:=(cH g3)) (k:=1) 2 rfl rfl h18 rfl (.one tyO24) rfl) zU1,d0 (aE1 1 rfl rfl (.one tyO3)) zU1,d0 (lP (3+v17) rfl tyS24 (kO 3 rfl q11 q10 (q12 _ (bD h18))) (lO q11 q10 (q12 _ (bD h18))) (aS h22).1 (aS h22).2.1) zU2,d0 (pK (k:=4) (3+v17) rfl (kO 3 rfl q11 q10 (q12 _ (bD h18))) h22 rfl (.agg tyA44) rfl) zU1,d0 (gH 0 4 rfl rfl rfl rfl (.agg tyA44)) zU1,d0 (bP rfl h24 rfl) zU2,d0 (lP (3+v17) rfl tyS24 (kO 3 rfl q11 q10 (q12 _ (bD h18))) (lO q11 q10 (q12 _ (bD h18))) (aS h22).1 (aS h22).2.1) zU2,trivial⟩ (fun bs16 G15=>?_)
 obtain⟨x27,h28,hF⟩:=bB hF
 refine oQ (wL (H':=([⟨some b14,1,44,4,1,(eQ a1)⟩,⟨some p0,1,62,1,1,[pO b5 n4 c6]⟩,hO (cH g3) b5 c6 24 n4 c0.1]++gZ cQ 44 g3 (c0.2.set v17 x27))) (3+v17) rfl (aBq 3 rfl q11 q10 (q12 _ (bD h18))) h22 h28 tyA44.s (hH:=stN 3 rfl q11 q10 (q12 _ (bD h18)))) zU2 ?_
 refine bU ?_
 obtain rfl:=p9 hF
 exact zE (.inr rfl) Tryz.results159 .nil rfl 3 [1,2] rfl rfl (by decide) ⟨b5,c6,n4,g3,N9,q7,(tG q10),(wN q11 q10 (q12 _ (bD h18)) (bH h28 rfl)),q12,rfl,rfl⟩
def iU (K:Nat) (x21:List Rat):Option (List Rat):=
 some x21
def bQ (K:Nat) (a0:List Rat) (a1:List aC) (a2:aD):Nat→(List Rat)→Int→Option (List Rat)
 |0,_,_=>none
 |k+1,x14,x20=>bif(decide (x20<(a1.length:Int))) then((bK a1 x20).bind fun v30=>(bK a2.rows v30.row).bind fun v33=>bif(v30.kind==0) then((eF K v33.j a0).bind fun v37=>(f8 x14 x20 v37).bind fun v39=>(aP (x20+1)).bind fun v47=>bQ K a0 a1 a2 k v39 v47) else(bif(v30.kind==1) then((eF K v33.t a0).bind fun v50=>(f8 x14 x20 v50).bind fun v52=>(aP (x20+1)).bind fun v60=>bQ K a0 a1 a2 k v52 v60) else(bif(v30.kind==2) then((eF K v33.t a0).bind fun v63=>(aAY v63).bind fun v65=>(f8 x14 x20 v65).bind fun v67=>(aP (x20+1)).bind fun v75=>bQ K a0 a1 a2 k v67 v75) else((aP (x20+1)).bind fun v77=>bQ K a0 a1 a2 k x14 v77)))) else(some x14)
def kZ (K:Nat) (a0:List Rat) (a1:List aC) (a2:aD) (a3:List Rat):Option (List Rat):=
 (bQ K a0 a1 a2 K a3 0).bind fun x21=>iU K x21
theorem vQ {K:Nat} {a0:List Rat} {a1:List aC} {a2:aD} {a3:List Rat} {r:List Rat} (hF:kZ K a0 a1 a2 a3=some r) {p0:Nat} {p1:Nat} {p2:Nat} {b2:Option Nat} {c3 n4:Nat} (q5:a3.length=n4):CtO Tryz.prog 156 [⟨some p0,1,24,1,1,[pO b2 n4 c3]⟩,⟨some p1,1,114,1,1,[pS aC.cod a1]⟩,⟨some p2,1,113,4,1,(aD.enc a2)⟩,hO cQ b2 c3 44 n4 a3] [.vc (pS cQ a0),.vc (pF 157 [pP (some p0) 0]),.vc (pP (some p1) 0),.vc (pP (some p2) 0)] (fun Ho q=>∃b1079 c1080 n1081,r.length=n1081∧Ho=[⟨some p0,1,24,1,1,[pO b1079 n1081 c1080]⟩,⟨some p1,1,114,1,1,[pS aC.cod a1]⟩,⟨some p2,1,113,4,1,(aD.enc a2)⟩,hO cQ b1079 c1080 44 n1081 r]∧q=.any):=by
 unfold kZ at hF
 refine aI Tryz.func156 rfl (by kernel_rfl) Tryz.ntmps156 rfl (fun w0 M0=>?_)
 refine go ?_ ?_
 refine aT (cJ (fun H E=>∃(x21:List Rat),∃(b22:Option Nat),∃(c23:Nat),∃(n24:Nat),iU K x21=some r∧x21.length=n24∧H=[⟨some p0,1,24,1,1,[pO b22 n24 c23]⟩,⟨some p1,1,114,1,1,[pS aC.cod a1]⟩,⟨some p2,1,113,4,1,(aD.enc a2)⟩,hO cQ b22 c23 44 n24 x21]∧E=[]) ?_ (fun Jj28=>?_))
 ·rintro _ _ ⟨x21,b22,c23,n24,hF,q25,rfl,rfl⟩
  unfold iU at hF
  obtain rfl:=p9 hF
  exact zY (.inr rfl) Tryz.results156 .nil rfl [0,1,2,3] rfl (by decide) ⟨b22,c23,n24,q25,rfl,rfl⟩
 obtain⟨x21',hL,hRl27⟩:=bB hF
 refine jE (fun k a w=>∃(x14:List Rat),∃(x20:Int),∃(b15:Option Nat),∃(c16:Nat),∃(n17:Nat),bQ K a0 a1 a2 k x14 x20=some x21'∧x14.length=n17∧hs _ [⟨some p0,1,24,1,1,[pO b15 n17 c16]⟩,⟨some p1,1,114,1,1,[pS aC.cod a1]⟩,⟨some p2,1,113,4,1,(aD.enc a2)⟩,hO cQ b15 c16 44 n17 x14] [(0,.vc (pS cQ a0)),(1,.vc (pF 157 [pP (some p0) 0])),(3,.vc (pP (some p2) 0)),(9,.vc (pS aC.cod a1)),(10,.vc (pI .i64 (a1.length:Int))),(11,.vc (pI .i64 x20))] a w) K (fun a w ⟨_,_,_,_,_,hF,_,_⟩=>by cases hF) (fun k a w ⟨x14,x20,b15,c16,n17,hF,q18,hh⟩=>jI ?_ hh) (fun a w hh=>⟨a3,0,b2,c3,n4,hL,q5,iN [0,1,2,3] hh⟩)
 rw [bQ.eq_2] at hF
 refine go ?_ ?_
 refine aJ hF rfl (fun h29 hF=>?_) (fun h29 hF=>?_)
 ·refine go ?_ ?_
  refine aT ?_
  obtain⟨v30,h31,hF⟩:=bB hF
  refine go ?_ ?_
  refine aM rfl tyZ118q (fun b32=>?_)
  obtain⟨v33,h34,hF⟩:=bB hF
  refine go ?_ ?_
  refine aM rfl tyZ51q (fun b35=>?_)
  refine go ?_ ?_
  refine aT (go ?_ ?_)
  refine aJ hF rfl (fun h36 hF=>?_) (fun h36 hF=>?_)
  ·obtain⟨v37,h38,hF⟩:=bC hF fV
   obtain⟨v39,h40,hF⟩:=bB hF
   refine go ?_ ?_
   refine z7 (f:=157) (cs:=[pP (some p0) 0]) (pre:=[.vc (pI .i64 x20),.va (eQ v37)]) (xs:=[.tmp 27,.tmp 31]) [2,5] [0,1,3,4] rfl (oI h40 q18) ⟨rfl,rfl,rfl,trivial⟩ rfl rfl (by decide) ?_
   rintro _ _ ⟨b43,c44,n42,q45,rfl,rfl⟩
   obtain⟨v47,h48,hF⟩:=bB hF
   refine go ?_ ?_
   exact aK (fun a w hh=>⟨v39,v47,b43,c44,n42,hF,q45,iN [0,4,5,1] hh⟩)
  refine go ?_ ?_
  refine aJ hF rfl (fun h49 hF=>?_) (fun h49 hF=>?_)
  ·obtain⟨v50,h51,hF⟩:=bC hF fV
   obtain⟨v52,h53,hF⟩:=bB hF
   refine go ?_ ?_
   refine z7 (f:=157) (cs:=[pP (some p0) 0]) (pre:=[.vc (pI .i64 x20),.va (eQ v50)]) (xs:=[.tmp 36,.tmp 40]) [2,5] [0,1,3,4] rfl (oI h53 q18) ⟨rfl,rfl,rfl,trivial⟩ rfl rfl (by decide) ?_
   rintro _ _ ⟨b56,c57,n55,q58,rfl,rfl⟩
   obtain⟨v60,h61,hF⟩:=bB hF
   refine go ?_ ?_
   exact aK (fun a w hh=>⟨v52,v60,b56,c57,n55,hF,q58,iN [0,4,5,1] hh⟩)
  refine go ?_ ?_
  refine aJ hF rfl (fun h62 hF=>?_) (fun h62 hF=>?_)
  ·obtain⟨v63,h64,hF⟩:=bC hF fV
   obtain⟨v65,h66,hF⟩:=bC hF pD
   obtain⟨v67,h68,hF⟩:=bB hF
   refine go ?_ ?_
   refine z7 (f:=157) (cs:=[pP (some p0) 0]) (pre:=[.vc (pI .i64 x20),.va (eQ v65)]) (xs:=[.tmp 45,.tmp 50]) [2,5] [0,1,3,4] rfl (oI h68 q18) ⟨rfl,rfl,rfl,trivial⟩ rfl rfl (by decide) ?_
   rintro _ _ ⟨b71,c72,n70,q73,rfl,rfl⟩
   obtain⟨v75,h76,hF⟩:=bB hF
   refine go ?_ ?_
   exact aK (fun a w hh=>⟨v67,v75,b71,c72,n70,hF,q73,iN [0,4,5,1] hh⟩)
  obtain⟨v77,h78,hF⟩:=bB hF
  refine go ?_ ?_
  exact aK (fun a w hh=>⟨x14,v77,b15,c16,n17,hF,q18,iN [2,3,4,5] hh⟩)
 refine dJ ?_
 obtain rfl:=p9 hF
 exact qB Jj28 ⟨x14,b15,c16,n17,hRl27,q18,rfl,rfl⟩ [0,1,2,3]
def iP (K:Nat) (x40:List Nat) (x46:List (List Rat)):Option ((List Nat)×(List (List Rat))):=
 some (x40,x46)
def bR (K:Nat) (a0:List Rat) (a1:Int) (a2:List aC) (a3:aD):Nat→(List Nat)→(List (List Rat))→Int→Option ((List Nat)×(List (List Rat)))
 |0,_,_,_=>none
 |k+1,x27,x33,x39=>bif(decide (x39<(a2.length:Int))) then((bK a2 x39).bind fun v55=>(bK a3.rows v55.row).bind fun v58=>bif(v55.kind==0) then((eF K v58.j a0).bind fun v62=>(gA (x27,x33) a1 x39 v62).bind fun v64=>(aP (x39+1)).bind fun v79=>bR K a0 a1 a2 a3 k v64.1 v64.2 v79) else(bif(v55.kind==1) then((eF K v58.t a0).bind fun v82=>(gA (x27,x33) a1 x39 v82).bind fun v84=>(aP (x39+1)).bind fun v99=>bR K a0 a1 a2 a3 k v84.1 v84.2 v99) else(bif(v55.kind==2) then((eF K v58.t a0).bind fun v102=>(aAY v102).bind fun v104=>(gA (x27,x33) a1 x39 v104).bind fun v106=>(aP (x39+1)).bind fun v121=>bR K a0 a1 a2 a3 k v106.1 v106.2 v121) else((aP (x39+1)).bind fun v123=>bR K a0 a1 a2 a3 k x27 x33 v123)))) else(some (x27,x33))
def bY (K:Nat) (a0:List Rat) (a1:Int) (a2:List aC) (a3:aD) (a4:List Nat) (a5:List (List Rat)):Option ((List Nat)×(List (List Rat))):=
 (bR K a0 a1 a2 a3 K a4 a5 0).bind fun(x40,x46)=>iP K x40 x46
theorem fG {K:Nat} {a0:List Rat} {a1:Int} {a2:List aC} {a3:aD} {a4:List Nat} {a5:List (List Rat)} {r:(List Nat)×(List (List Rat))} (hF:bY K a0 a1 a2 a3 a4 a5=some r) {p0:Nat} {p1:Nat} {p2:Nat} {b3:Option Nat} {c4 n5:Nat} {g8:List vL} {N9:Nat} (q6:a4.length=n5) (q10:a5.length=N9) (q11:lH g8 a5) (q12:∀k∈a4,k<N9):CtO Tryz.prog 156 ([⟨some p0,1,62,1,1,[pO b3 n5 c4]⟩,⟨some p1,1,114,1,1,[pS aC.cod a2]⟩,⟨some p2,1,113,4,1,(aD.enc a3)⟩,hO (cH g8) b3 c4 24 n5 a4]++gZ cQ 44 g8 a5) [.vc (pS cQ a0),.vc (pF 159 [pP (some p0) 0,pM (cI.e a1)]),.vc (pP (some p1) 0),.vc (pP (some p2) 0)] (fun Ho q=>∃b1125 c1126 n1127 g1130 N1131,r.1.length=n1127∧r.2.length=N1131∧lH g1130 r.2∧(∀k∈r.1,k<N1131)∧Ho=([⟨some p0,1,62,1,1,[pO b1125 n1127 c1126]⟩,⟨some p1,1,114,1,1,[pS aC.cod a2]⟩,⟨some p2,1,113,4,1,(aD.enc a3)⟩,hO (cH g1130) b1125 c1126 24 n1127 r.1]++gZ cQ 44 g1130 r.2)∧q=.any):=by
 unfold bY at hF
 refine aI Tryz.func156 rfl (by kernel_rfl) Tryz.ntmps156 rfl (fun w0 M0=>?_)
 refine go ?_ ?_
 refine aT (cJ (fun H E=>∃(x40:List Nat),∃(x46:List (List Rat)),∃(b41:Option Nat),∃(c42:Nat),∃(n43:Nat),∃(g47:List vL),∃(N48:Nat),iP K x40 x46=some r∧x40.length=n43∧x46.length=N48∧lH g47 x46∧(∀k∈x40,k<N48)∧H=([⟨some p0,1,62,1,1,[pO b41 n43 c42]⟩,⟨some p1,1,114,1,1,[pS aC.cod a2]⟩,⟨some p2,1,113,4,1,(aD.enc a3)⟩,hO (cH g47) b41 c42 24 n43 x40]++gZ cQ 44 g47 x46)∧E=[]) ?_ (fun Jj53=>?_))
 ·rintro _ _ ⟨x40,x46,b41,c42,n43,g47,N48,hF,q44,q49,q50,q51,rfl,rfl⟩
  unfold iP at hF
  obtain rfl:=p9 hF
  exact zE (.inr rfl) Tryz.results156 .nil rfl 4 [0,1,2,3] rfl rfl (by decide) ⟨b41,c42,n43,g47,N48,q44,q49,q50,q51,rfl,rfl⟩
 obtain⟨⟨x40',x46'⟩,hL,hRl52⟩:=bB hF
 refine jE (fun k a w=>∃(x27:List Nat),∃(x33:List (List Rat)),∃(x39:Int),∃(b28:Option Nat),∃(c29:Nat),∃(n30:Nat),∃(g34:List vL),∃(N35:Nat),bR K a0 a1 a2 a3 k x27 x33 x39=some (x40',x46')∧x27.length=n30∧x33.length=N35∧lH g34 x33∧(∀k∈x27,k<N35)∧hs _ ([⟨some p0,1,62,1,1,[pO b28 n30 c29]⟩,⟨some p1,1,114,1,1,[pS aC.cod a2]⟩,⟨some p2,1,113,4,1,(aD.enc a3)⟩,hO (cH g34) b28 c29 24 n30 x27]++gZ cQ 44 g34 x33) [(0,.vc (pS cQ a0)),(1,.vc (pF 159 [pP (some p0) 0,pM (cI.e a1)])),(3,.vc (pP (some p2) 0)),(9,.vc (pS aC.cod a2)),(10,.vc (pI .i64 (a2.length:Int))),(11,.vc (pI .i64 x39))] a w) K (fun a w ⟨_,_,_,_,_,_,_,_,hF,_,_,_,_,_⟩=>by cases hF) (fun k a w ⟨x27,x33,x39,b28,c29,n30,g34,N35,hF,q31,q36,q37,q38,hh⟩=>jI ?_ hh) (fun a w hh=>⟨a4,a5,0,b3,c4,n5,g8,N9,hL,q6,q10,q11,q12,cL 4 [0,1,2,3] rfl rfl (by decide) (by exact⟨rfl,rfl,rfl,rfl,rfl,rfl,trivial⟩) hh⟩)
 rw [bR.eq_2] at hF
 refine go ?_ ?_
 refine aJ hF rfl (fun h54 hF=>?_) (fun h54 hF=>?_)
 ·refine go ?_ ?_
  refine aT ?_
  obtain⟨v55,h56,hF⟩:=bB hF
  refine go ?_ ?_
  refine aM rfl tyZ118q (fun b57=>?_)
  obtain⟨v58,h59,hF⟩:=bB hF
  refine go ?_ ?_
  refine aM rfl tyZ51q (fun b60=>?_)
  refine go ?_ ?_
  refine aT (go ?_ ?_)
  refine aJ hF rfl (fun h61 hF=>?_) (fun h61 hF=>?_)
  ·obtain⟨v62,h63,hF⟩:=bC hF fV
   obtain⟨v64,h65,hF⟩:=bB hF
   refine go ?_ ?_
   refine uO (f:=159) (cs:=[pP (some p0) 0,pM (cI.e a1)]) (pre:=[.vc (pI .i64 x39),.va (eQ v62)]) (xs:=[.tmp 27,.tmp 31]) 6 [2,5] [0,1,3,4] rfl (oG h65 q31 q36 q37 q38) ⟨rfl,rfl,rfl,trivial⟩ rfl rfl rfl (by decide) ?_
   rintro _ _ ⟨b70,c71,n69,g68,N74,q72,q75,q76,q77,rfl,rfl⟩
   refine rK (o9 [⟨some p0,1,62,1,1,[pO b70 n69 c71]⟩,hO (cH g68) b70 c71 24 n69 v64.1] (gZ cQ 44 g68 v64.2) [⟨some b60,1,51,18,1,(aA.enc v58)⟩,⟨some b57,1,118,2,1,(aC.enc v55)⟩,⟨some p1,1,114,1,1,[pS aC.cod a2]⟩,⟨some p2,1,113,4,1,(aD.enc a3)⟩]) ?_
   obtain⟨v79,h80,hF⟩:=bB hF
   refine go ?_ ?_
   exact aK (fun a w hh=>⟨v64.1,v64.2,v79,b70,c71,n69,g68,N74,hF,q72,q75,q76,q77,cL 6 [0,4,5,1] rfl rfl (by decide) (by exact⟨rfl,rfl,rfl,rfl,rfl,rfl,trivial⟩) hh⟩)
  refine go ?_ ?_
  refine aJ hF rfl (fun h81 hF=>?_) (fun h81 hF=>?_)
  ·obtain⟨v82,h83,hF⟩:=bC hF fV
   obtain⟨v84,h85,hF⟩:=bB hF
   refine go ?_ ?_
   refine uO (f:=159) (cs:=[pP (some p0) 0,pM (cI.e a1)]) (pre:=[.vc (pI .i64 x39),.va (eQ v82)]) (xs:=[.tmp 36,.tmp 40]) 6 [2,5] [0,1,3,4] rfl (oG h85 q31 q36 q37 q38) ⟨rfl,rfl,rfl,trivial⟩ rfl rfl rfl (by decide) ?_
   rintro _ _ ⟨b90,c91,n89,g88,N94,q92,q95,q96,q97,rfl,rfl⟩
   refine rK (o9 [⟨some p0,1,62,1,1,[pO b90 n89 c91]⟩,hO (cH g88) b90 c91 24 n89 v84.1] (gZ cQ 44 g88 v84.2) [⟨some b60,1,51,18,1,(aA.enc v58)⟩,⟨some b57,1,118,2,1,(aC.enc v55)⟩,⟨some p1,1,114,1,1,[pS aC.cod a2]⟩,⟨some p2,1,113,4,1,(aD.enc a3)⟩]) ?_
   obtain⟨v99,h100,hF⟩:=bB hF
   refine go ?_ ?_
   exact aK (fun a w hh=>⟨v84.1,v84.2,v99,b90,c91,n89,g88,N94,hF,q92,q95,q96,q97,cL 6 [0,4,5,1] rfl rfl (by decide) (by exact⟨rfl,rfl,rfl,rfl,rfl,rfl,trivial⟩) hh⟩)
  refine go ?_ ?_
  refine aJ hF rfl (fun h101 hF=>?_) (fun h101 hF=>?_)
  ·obtain⟨v102,h103,hF⟩:=bC hF fV
   obtain⟨v104,h105,hF⟩:=bC hF pD
   obtain⟨v106,h107,hF⟩:=bB hF
   refine go ?_ ?_
   refine uO (f:=159) (cs:=[pP (some p0) 0,pM (cI.e a1)]) (pre:=[.vc (pI .i64 x39),.va (eQ v104)]) (xs:=[.tmp 45,.tmp 50]) 6 [2,5] [0,1,3,4] rfl (oG h107 q31 q36 q37 q38) ⟨rfl,rfl,rfl,trivial⟩ rfl rfl rfl (by decide) ?_
   rintro _ _ ⟨b112,c113,n111,g110,N116,q114,q117,q118,q119,rfl,rfl⟩
   refine rK (o9 [⟨some p0,1,62,1,1,[pO b112 n111 c113]⟩,hO (cH g110) b112 c113 24 n111 v106.1] (gZ cQ 44 g110 v106.2) [⟨some b60,1,51,18,1,(aA.enc v58)⟩,⟨some b57,1,118,2,1,(aC.enc v55)⟩,⟨some p1,1,114,1,1,[pS aC.cod a2]⟩,⟨some p2,1,113,4,1,(aD.enc a3)⟩]) ?_
   obtain⟨v121,h122,hF⟩:=bB hF
   refine go ?_ ?_
   exact aK (fun a w hh=>⟨v106.1,v106.2,v121,b112,c113,n111,g110,N116,hF,q114,q117,q118,q119,cL 6 [0,4,5,1] rfl rfl (by decide) (by exact⟨rfl,rfl,rfl,rfl,rfl,rfl,trivial⟩) hh⟩)
  obtain⟨v123,h124,hF⟩:=bB hF
  refine go ?_ ?_
  exact aK (fun a w hh=>⟨x27,x33,v123,b28,c29,n30,g34,N35,hF,q31,q36,q37,q38,cL 6 [2,3,4,5] rfl rfl (by decide) (by exact⟨rfl,rfl,rfl,rfl,rfl,rfl,trivial⟩) hh⟩)
 refine dJ ?_
 obtain⟨rfl,rfl⟩:=sm2 hF
 exact oC Jj53 ⟨x27,x33,b28,c29,n30,g34,N35,hRl52,q31,q36,q37,q38,rfl,rfl⟩ 4 [0,1,2,3] rfl rfl trivial
end Go.Proofs.YtcjdedkdoagifaaGreat
