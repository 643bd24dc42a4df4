/- Texts of the proof, part 4: Q1. -/
import Derived.Test.YtcjdedkdoagifaaGreatZ3
set_option linter.unusedVariables false
set_option maxRecDepth 100000
namespace Go.Proofs.YtcjdedkdoagifaaGreat
structure aFj where
 inv:Rat
 load:Rat
 bound:Bool
 lo:Rat
 hi:Rat
noncomputable def aFj.enc (x:aFj):List CP:=(eQ x.inv)++(eQ x.load)++[pB x.bound]++(eQ x.lo)++(eQ x.hi)
noncomputable def aFj.cod:Cd aFj:=⟨17,aFj.enc,fun _=>rfl⟩
structure aT where
 inv:Rat
 load:Rat
 bound:Bool
 lo:Rat
 hi:Rat
noncomputable def aT.enc (x:aT):List CP:=(eQ x.inv)++(eQ x.load)++[pB x.bound]++(eQ x.lo)++(eQ x.hi)
noncomputable def aT.cod:Cd aT:=⟨17,aT.enc,fun _=>rfl⟩
structure aG where
 dof:Int
 k:Rat
noncomputable def aG.enc (x:aG):List CP:=[pI .i64 x.dof]++(eQ x.k)
noncomputable def aG.cod:Cd aG:=⟨5,aG.enc,fun _=>rfl⟩
structure aH where
 kind:Int
 a:Int
 b:Int
 edge:Int
 gap:Rat
 j:List aG
 t:List aG
 mu:Rat
 e:Rat
noncomputable def aH.enc (x:aH):List CP:=[pI .i64 x.kind]++[pI .i64 x.a]++[pI .i64 x.b]++[pI .i64 x.edge]++(eQ x.gap)++[pS aG.cod x.j]++[pS aG.cod x.t]++(eQ x.mu)++(eQ x.e)
noncomputable def aH.cod:Cd aH:=⟨18,aH.enc,fun _=>rfl⟩
structure aFM where
 dofs:List aT
 load:List Rat
 v:List Rat
 rows:List aH
noncomputable def aFM.enc (x:aFM):List CP:=[pS aT.cod x.dofs]++[pS cQ x.load]++[pS cQ x.v]++[pS aH.cod x.rows]
noncomputable def aFM.cod:Cd aFM:=⟨4,aFM.enc,fun _=>rfl⟩
structure aFs where
 row:Int
 kind:Int
noncomputable def aFs.enc (x:aFs):List CP:=[pI .i64 x.row]++[pI .i64 x.kind]
noncomputable def aFs.cod:Cd aFs:=⟨2,aFs.enc,fun _=>rfl⟩
structure aFP where
 n:Int
 rows:List (List Rat)
 basic:List Int
noncomputable def aFP.enc (x:aFP):List CP:=[pI .i64 x.n]++[pS (rC cQ) x.rows]++[pS cI x.basic]
noncomputable def aFP.cod:Cd aFP:=⟨3,aFP.enc,fun _=>rfl⟩
structure aFl where
 row:Int
 kind:Int
noncomputable def aFl.enc (x:aFl):List CP:=[pI .i64 x.row]++[pI .i64 x.kind]
noncomputable def aFl.cod:Cd aFl:=⟨2,aFl.enc,fun _=>rfl⟩
structure aJf where
 dofs:List aT
 load:List Rat
 v:List Rat
 rows:List aH
noncomputable def aJf.enc (x:aJf):List CP:=[pS aT.cod x.dofs]++[pS cQ x.load]++[pS cQ x.v]++[pS aH.cod x.rows]
noncomputable def aJf.cod:Cd aJf:=⟨4,aJf.enc,fun _=>rfl⟩
structure aIU where
 kind:Int
 a:Int
 b:Int
 edge:Int
 gap:Rat
 j:List aG
 t:List aG
 mu:Rat
 e:Rat
noncomputable def aIU.enc (x:aIU):List CP:=[pI .i64 x.kind]++[pI .i64 x.a]++[pI .i64 x.b]++[pI .i64 x.edge]++(eQ x.gap)++[pS aG.cod x.j]++[pS aG.cod x.t]++(eQ x.mu)++(eQ x.e)
noncomputable def aIU.cod:Cd aIU:=⟨18,aIU.enc,fun _=>rfl⟩
structure aJs where
 n:Rat
 f:Rat
noncomputable def aJs.enc (x:aJs):List CP:=(eQ x.n)++(eQ x.f)
noncomputable def aJs.cod:Cd aJs:=⟨8,aJs.enc,fun _=>rfl⟩
structure aIV where
 z:List Rat
 w:List Rat
 pivots:Int
noncomputable def aIV.enc (x:aIV):List CP:=[pS cQ x.z]++[pS cQ x.w]++[pI .i64 x.pivots]
noncomputable def aIV.cod:Cd aIV:=⟨3,aIV.enc,fun _=>rfl⟩
structure aJj where
 dof:Int
 k:Rat
noncomputable def aJj.enc (x:aJj):List CP:=[pI .i64 x.dof]++(eQ x.k)
noncomputable def aJj.cod:Cd aJj:=⟨5,aJj.enc,fun _=>rfl⟩
structure cN where
 z:List Rat
 w:List Rat
 pivots:Int
noncomputable def cN.enc (x:cN):List CP:=[pS cQ x.z]++[pS cQ x.w]++[pI .i64 x.pivots]
noncomputable def cN.cod:Cd cN:=⟨3,cN.enc,fun _=>rfl⟩
structure aO where
 n:Rat
 f:Rat
noncomputable def aO.enc (x:aO):List CP:=(eQ x.n)++(eQ x.f)
noncomputable def aO.cod:Cd aO:=⟨8,aO.enc,fun _=>rfl⟩
structure oU where
 n:Int
 rows:List (List Rat)
 basic:List Int
noncomputable def oU.enc (x:oU):List CP:=[pI .i64 x.n]++[pS (rC cQ) x.rows]++[pS cI x.basic]
noncomputable def oU.cod:Cd oU:=⟨3,oU.enc,fun _=>rfl⟩
structure bC where
 dofs:List aT
 load:List Rat
 v:List Rat
 rows:List aH
noncomputable def bC.enc (x:bC):List CP:=[pS aT.cod x.dofs]++[pS cQ x.load]++[pS cQ x.v]++[pS aH.cod x.rows]
noncomputable def bC.cod:Cd bC:=⟨4,bC.enc,fun _=>rfl⟩
structure bB where
 row:Int
 kind:Int
noncomputable def bB.enc (x:bB):List CP:=[pI .i64 x.row]++[pI .i64 x.kind]
noncomputable def bB.cod:Cd bB:=⟨2,bB.enc,fun _=>rfl⟩
structure aQ where
 dofs:List aT
 load:List Rat
 v:List Rat
 rows:List aH
noncomputable def aQ.enc (x:aQ):List CP:=[pS aT.cod x.dofs]++[pS cQ x.load]++[pS cQ x.v]++[pS aH.cod x.rows]
noncomputable def aQ.cod:Cd aQ:=⟨4,aQ.enc,fun _=>rfl⟩
structure aK where
 row:Int
 kind:Int
noncomputable def aK.enc (x:aK):List CP:=[pI .i64 x.row]++[pI .i64 x.kind]
noncomputable def aK.cod:Cd aK:=⟨2,aK.enc,fun _=>rfl⟩
theorem tyA108:TyA Tryz.prog 108 17:=mkA Tryz.underlying108 rfl (by kernel_rfl)
theorem tyA113:TyA Tryz.prog 113 4:=mkA Tryz.underlying113 rfl (by kernel_rfl)
theorem tyA118:TyA Tryz.prog 118 2:=mkA Tryz.underlying118 rfl (by kernel_rfl)
theorem tyA27:TyA Tryz.prog 27 4:=mkA Tryz.underlying27 rfl (by kernel_rfl)
theorem tyA51:TyA Tryz.prog 51 18:=mkA Tryz.underlying51 rfl (by kernel_rfl)
theorem tyA58:TyA Tryz.prog 58 8:=mkA Tryz.underlying58 rfl (by kernel_rfl)
theorem tyA68:TyA Tryz.prog 68 3:=mkA Tryz.underlying68 rfl (by kernel_rfl)
theorem tyA92:TyA Tryz.prog 92 5:=mkA Tryz.underlying92 rfl (by kernel_rfl)
theorem tyB108q:TyB Tryz.prog 108 [(0,4),(4,4),(8,1),(9,4),(13,4)] ((eQ 0)++(eQ 0)++[pB false]++(eQ 0)++(eQ 0)):=mkB (z:=.agg #[.bool false,.slice none 0 0,.bool false,.slice none 0 0,.bool false,.slice none 0 0,.bool false,.slice none 0 0,.bool false,.bool false,.slice none 0 0,.bool false,.slice none 0 0,.bool false,.slice none 0 0,.bool false,.slice none 0 0]) (by kernel_rfl) Tryz.underlying108 (by kernel_rfl) (fun M=>b0.app (b0.app (b0.app (b0.app (eQ0 M) (eQ0 M)) (show b0 M [pB false] [.bool false] from zU1)) (eQ0 M)) (eQ0 M))
theorem tyB113q:TyB Tryz.prog 113 [(0,1),(1,1),(2,1),(3,1)] ([pS aT.cod ([]:List aT)]++[pS cQ ([]:List Rat)]++[pS cQ ([]:List Rat)]++[pS aH.cod ([]:List aH)]):=mkB (z:=.agg #[.slice none 0 0,.slice none 0 0,.slice none 0 0,.slice none 0 0]) (by kernel_rfl) Tryz.underlying113 (by kernel_rfl) (fun M=>b0.app (b0.app (b0.app (show b0 M [pS aT.cod ([]:List aT)] [.slice none 0 0] from⟨dX aT.cod M,trivial⟩) (show b0 M [pS cQ ([]:List Rat)] [.slice none 0 0] from⟨dX cQ M,trivial⟩)) (show b0 M [pS cQ ([]:List Rat)] [.slice none 0 0] from⟨dX cQ M,trivial⟩)) (show b0 M [pS aH.cod ([]:List aH)] [.slice none 0 0] from⟨dX aH.cod M,trivial⟩))
theorem tyB118q:TyB Tryz.prog 118 [(0,1),(1,1)] ([pI .i64 0]++[pI .i64 0]):=mkB (z:=.agg #[.int .i64 0,.int .i64 0]) (by kernel_rfl) Tryz.underlying118 (by kernel_rfl) (fun M=>b0.app (show b0 M [pI .i64 0] [.int .i64 0] from zU1) (show b0 M [pI .i64 0] [.int .i64 0] from zU1))
theorem tyB151_o1_o2q:TyB Tryz.prog 151 [(0,1),(1,1),(2,1)] ([pI .i64 0]++[pO none 0 0]++[pO none 0 0]):=mkB (z:=.agg #[.int .i64 0,.slice none 0 0,.slice none 0 0]) (by kernel_rfl) Tryz.underlying151 (by kernel_rfl) (fun M=>b0.app (b0.app (show b0 M [pI .i64 0] [.int .i64 0] from zU1) (show b0 M [pO none 0 0] [.slice none 0 0] from⟨.inl rfl,trivial⟩)) (show b0 M [pO none 0 0] [.slice none 0 0] from⟨.inl rfl,trivial⟩))
theorem tyB154q:TyB Tryz.prog 154 [(0,1),(1,1)] ([pI .i64 0]++[pI .i64 0]):=mkB (z:=.agg #[.int .i64 0,.int .i64 0]) (by kernel_rfl) Tryz.underlying154 (by kernel_rfl) (fun M=>b0.app (show b0 M [pI .i64 0] [.int .i64 0] from zU1) (show b0 M [pI .i64 0] [.int .i64 0] from zU1))
theorem tyB27q:TyB Tryz.prog 27 [(0,1),(1,1),(2,1),(3,1)] ([pS aT.cod ([]:List aT)]++[pS cQ ([]:List Rat)]++[pS cQ ([]:List Rat)]++[pS aH.cod ([]:List aH)]):=mkB (z:=.agg #[.slice none 0 0,.slice none 0 0,.slice none 0 0,.slice none 0 0]) (by kernel_rfl) Tryz.underlying27 (by kernel_rfl) (fun M=>b0.app (b0.app (b0.app (show b0 M [pS aT.cod ([]:List aT)] [.slice none 0 0] from⟨dX aT.cod M,trivial⟩) (show b0 M [pS cQ ([]:List Rat)] [.slice none 0 0] from⟨dX cQ M,trivial⟩)) (show b0 M [pS cQ ([]:List Rat)] [.slice none 0 0] from⟨dX cQ M,trivial⟩)) (show b0 M [pS aH.cod ([]:List aH)] [.slice none 0 0] from⟨dX aH.cod M,trivial⟩))
theorem tyB44q:TyB Tryz.prog 44 [(0,2),(2,2)] (eQ 0):=mkB (z:=.agg #[.bool false,.slice none 0 0,.bool false,.slice none 0 0]) (by kernel_rfl) Tryz.underlying44 (by kernel_rfl) (fun M=>eQ0 M)
theorem tyB51q:TyB Tryz.prog 51 [(0,1),(1,1),(2,1),(3,1),(4,4),(8,1),(9,1),(10,4),(14,4)] ([pI .i64 0]++[pI .i64 0]++[pI .i64 0]++[pI .i64 0]++(eQ 0)++[pS aG.cod ([]:List aG)]++[pS aG.cod ([]:List aG)]++(eQ 0)++(eQ 0)):=mkB (z:=.agg #[.int .i64 0,.int .i64 0,.int .i64 0,.int .i64 0,.bool false,.slice none 0 0,.bool false,.slice none 0 0,.slice none 0 0,.slice none 0 0,.bool false,.slice none 0 0,.bool false,.slice none 0 0,.bool false,.slice none 0 0,.bool false,.slice none 0 0]) (by kernel_rfl) Tryz.underlying51 (by kernel_rfl) (fun M=>b0.app (b0.app (b0.app (b0.app (b0.app (b0.app (b0.app (b0.app (show b0 M [pI .i64 0] [.int .i64 0] from zU1) (show b0 M [pI .i64 0] [.int .i64 0] from zU1)) (show b0 M [pI .i64 0] [.int .i64 0] from zU1)) (show b0 M [pI .i64 0] [.int .i64 0] from zU1)) (eQ0 M)) (show b0 M [pS aG.cod ([]:List aG)] [.slice none 0 0] from⟨dX aG.cod M,trivial⟩)) (show b0 M [pS aG.cod ([]:List aG)] [.slice none 0 0] from⟨dX aG.cod M,trivial⟩)) (eQ0 M)) (eQ0 M))
theorem tyB58q:TyB Tryz.prog 58 [(0,4),(4,4)] ((eQ 0)++(eQ 0)):=mkB (z:=.agg #[.bool false,.slice none 0 0,.bool false,.slice none 0 0,.bool false,.slice none 0 0,.bool false,.slice none 0 0]) (by kernel_rfl) Tryz.underlying58 (by kernel_rfl) (fun M=>b0.app (eQ0 M) (eQ0 M))
theorem tyB68q:TyB Tryz.prog 68 [(0,1),(1,1),(2,1)] ([pS cQ ([]:List Rat)]++[pS cQ ([]:List Rat)]++[pI .i64 0]):=mkB (z:=.agg #[.slice none 0 0,.slice none 0 0,.int .i64 0]) (by kernel_rfl) Tryz.underlying68 (by kernel_rfl) (fun M=>b0.app (b0.app (show b0 M [pS cQ ([]:List Rat)] [.slice none 0 0] from⟨dX cQ M,trivial⟩) (show b0 M [pS cQ ([]:List Rat)] [.slice none 0 0] from⟨dX cQ M,trivial⟩)) (show b0 M [pI .i64 0] [.int .i64 0] from zU1))
theorem tyB92q:TyB Tryz.prog 92 [(0,1),(1,4)] ([pI .i64 0]++(eQ 0)):=mkB (z:=.agg #[.int .i64 0,.bool false,.slice none 0 0,.bool false,.slice none 0 0]) (by kernel_rfl) Tryz.underlying92 (by kernel_rfl) (fun M=>b0.app (show b0 M [pI .i64 0] [.int .i64 0] from zU1) (eQ0 M))
theorem tyF108_0:TyF Tryz.prog 108 0 0:=mkF (ft:=44) (k:=3) Tryz.underlying108 rfl rfl rfl (by kernel_rfl)
theorem tyF113_0:TyF Tryz.prog 113 0 0:=mkF (ft:=23) (k:=0) Tryz.underlying113 rfl rfl rfl (by kernel_rfl)
theorem tyF113_1:TyF Tryz.prog 113 1 1:=mkF (ft:=24) (k:=0) Tryz.underlying113 rfl rfl rfl (by kernel_rfl)
theorem tyF113_2:TyF Tryz.prog 113 2 2:=mkF (ft:=24) (k:=0) Tryz.underlying113 rfl rfl rfl (by kernel_rfl)
theorem tyF113_3:TyF Tryz.prog 113 3 3:=mkF (ft:=25) (k:=0) Tryz.underlying113 rfl rfl rfl (by kernel_rfl)
theorem tyF118_0:TyF Tryz.prog 118 0 0:=mkF (ft:=3) (k:=0) Tryz.underlying118 rfl rfl rfl (by kernel_rfl)
theorem tyF118_1:TyF Tryz.prog 118 1 1:=mkF (ft:=3) (k:=0) Tryz.underlying118 rfl rfl rfl (by kernel_rfl)
theorem tyF151_0:TyF Tryz.prog 151 0 0:=mkF (ft:=3) (k:=0) Tryz.underlying151 rfl rfl rfl (by kernel_rfl)
theorem tyF151_1:TyF Tryz.prog 151 1 1:=mkF (ft:=62) (k:=0) Tryz.underlying151 rfl rfl rfl (by kernel_rfl)
theorem tyF151_2:TyF Tryz.prog 151 2 2:=mkF (ft:=22) (k:=0) Tryz.underlying151 rfl rfl rfl (by kernel_rfl)
theorem tyF154_0:TyF Tryz.prog 154 0 0:=mkF (ft:=3) (k:=0) Tryz.underlying154 rfl rfl rfl (by kernel_rfl)
theorem tyF154_1:TyF Tryz.prog 154 1 1:=mkF (ft:=3) (k:=0) Tryz.underlying154 rfl rfl rfl (by kernel_rfl)
theorem tyF27_0:TyF Tryz.prog 27 0 0:=mkF (ft:=23) (k:=0) Tryz.underlying27 rfl rfl rfl (by kernel_rfl)
theorem tyF27_1:TyF Tryz.prog 27 1 1:=mkF (ft:=24) (k:=0) Tryz.underlying27 rfl rfl rfl (by kernel_rfl)
theorem tyF27_2:TyF Tryz.prog 27 2 2:=mkF (ft:=24) (k:=0) Tryz.underlying27 rfl rfl rfl (by kernel_rfl)
theorem tyF27_3:TyF Tryz.prog 27 3 3:=mkF (ft:=25) (k:=0) Tryz.underlying27 rfl rfl rfl (by kernel_rfl)
theorem tyF51_5:TyF Tryz.prog 51 5 8:=mkF (ft:=49) (k:=0) Tryz.underlying51 rfl rfl rfl (by kernel_rfl)
theorem tyF51_6:TyF Tryz.prog 51 6 9:=mkF (ft:=49) (k:=0) Tryz.underlying51 rfl rfl rfl (by kernel_rfl)
theorem tyF51_7:TyF Tryz.prog 51 7 10:=mkF (ft:=44) (k:=3) Tryz.underlying51 rfl rfl rfl (by kernel_rfl)
theorem tyF58_0:TyF Tryz.prog 58 0 0:=mkF (ft:=44) (k:=3) Tryz.underlying58 rfl rfl rfl (by kernel_rfl)
theorem tyF58_1:TyF Tryz.prog 58 1 4:=mkF (ft:=44) (k:=3) Tryz.underlying58 rfl rfl rfl (by kernel_rfl)
theorem tyF68_0:TyF Tryz.prog 68 0 0:=mkF (ft:=24) (k:=0) Tryz.underlying68 rfl rfl rfl (by kernel_rfl)
theorem tyF68_1:TyF Tryz.prog 68 1 1:=mkF (ft:=24) (k:=0) Tryz.underlying68 rfl rfl rfl (by kernel_rfl)
theorem tyF68_2:TyF Tryz.prog 68 2 2:=mkF (ft:=3) (k:=0) Tryz.underlying68 rfl rfl rfl (by kernel_rfl)
theorem tyF92_0:TyF Tryz.prog 92 0 0:=mkF (ft:=3) (k:=0) Tryz.underlying92 rfl rfl rfl (by kernel_rfl)
theorem tyF92_1:TyF Tryz.prog 92 1 1:=mkF (ft:=44) (k:=3) Tryz.underlying92 rfl rfl rfl (by kernel_rfl)
theorem tyO114:Ty1 Tryz.prog 114:=mk1 Tryz.underlying114 rfl (by kernel_rfl)
theorem tyO23:Ty1 Tryz.prog 23:=mk1 Tryz.underlying23 rfl (by kernel_rfl)
theorem tyO24:Ty1 Tryz.prog 24:=mk1 Tryz.underlying24 rfl (by kernel_rfl)
theorem tyO25:Ty1 Tryz.prog 25:=mk1 Tryz.underlying25 rfl (by kernel_rfl)
theorem tyO49:Ty1 Tryz.prog 49:=mk1 Tryz.underlying49 rfl (by kernel_rfl)
theorem tyO62:Ty1 Tryz.prog 62:=mk1 Tryz.underlying62 rfl (by kernel_rfl)
theorem tyQ118:TyQ Tryz.prog 118:=mkQ Tryz.underlying118 (by kernel_rfl) (by kernel_rfl) rfl (by decide) (by decide) rfl rfl Tryz.underlying3 Tryz.underlying3
theorem tyS114:TyS Tryz.prog 114 118 2 16:=mkS (z:=.agg #[.int .i64 0,.int .i64 0]) (k:=1) Tryz.underlying114 (by kernel_rfl) rfl
theorem tyS142:TyS Tryz.prog 142 154 2 16:=mkS (z:=.agg #[.int .i64 0,.int .i64 0]) (k:=1) Tryz.underlying142 (by kernel_rfl) rfl
theorem tyS23:TyS Tryz.prog 23 108 17 264:=mkS (z:=.agg #[.bool false,.slice none 0 0,.bool false,.slice none 0 0,.bool false,.slice none 0 0,.bool false,.slice none 0 0,.bool false,.bool false,.slice none 0 0,.bool false,.slice none 0 0,.bool false,.slice none 0 0,.bool false,.slice none 0 0]) (k:=16) Tryz.underlying23 (by kernel_rfl) rfl
theorem tyS24:TyS Tryz.prog 24 44 4 64:=mkS (z:=.agg #[.bool false,.slice none 0 0,.bool false,.slice none 0 0]) (k:=3) Tryz.underlying24 (by kernel_rfl) rfl
theorem tyS25:TyS Tryz.prog 25 51 18 272:=mkS (z:=.agg #[.int .i64 0,.int .i64 0,.int .i64 0,.int .i64 0,.bool false,.slice none 0 0,.bool false,.slice none 0 0,.slice none 0 0,.slice none 0 0,.bool false,.slice none 0 0,.bool false,.slice none 0 0,.bool false,.slice none 0 0,.bool false,.slice none 0 0]) (k:=17) Tryz.underlying25 (by kernel_rfl) rfl
theorem tyS29:TyS Tryz.prog 29 58 8 128:=mkS (z:=.agg #[.bool false,.slice none 0 0,.bool false,.slice none 0 0,.bool false,.slice none 0 0,.bool false,.slice none 0 0]) (k:=7) Tryz.underlying29 (by kernel_rfl) rfl
theorem tyS49:TyS Tryz.prog 49 92 5 72:=mkS (z:=.agg #[.int .i64 0,.bool false,.slice none 0 0,.bool false,.slice none 0 0]) (k:=4) Tryz.underlying49 (by kernel_rfl) rfl
theorem tyS62:TyS Tryz.prog 62 24 1 24:=mkS (z:=.slice none 0 0) (k:=0) Tryz.underlying62 (by kernel_rfl) rfl
theorem tyZ108q:TyZ Tryz.prog 108 ((eQ 0)++(eQ 0)++[pB false]++(eQ 0)++(eQ 0)):=mkZ (z:=.agg #[.bool false,.slice none 0 0,.bool false,.slice none 0 0,.bool false,.slice none 0 0,.bool false,.slice none 0 0,.bool false,.bool false,.slice none 0 0,.bool false,.slice none 0 0,.bool false,.slice none 0 0,.bool false,.slice none 0 0]) (k:=17) (by kernel_rfl) rfl (fun M=>b0.app (b0.app (b0.app (b0.app (eQ0 M) (eQ0 M)) (show b0 M [pB false] [.bool false] from zU1)) (eQ0 M)) (eQ0 M))
theorem tyZ113q:TyZ Tryz.prog 113 ([pS aT.cod ([]:List aT)]++[pS cQ ([]:List Rat)]++[pS cQ ([]:List Rat)]++[pS aH.cod ([]:List aH)]):=mkZ (z:=.agg #[.slice none 0 0,.slice none 0 0,.slice none 0 0,.slice none 0 0]) (k:=4) (by kernel_rfl) rfl (fun M=>b0.app (b0.app (b0.app (show b0 M [pS aT.cod ([]:List aT)] [.slice none 0 0] from⟨dX aT.cod M,trivial⟩) (show b0 M [pS cQ ([]:List Rat)] [.slice none 0 0] from⟨dX cQ M,trivial⟩)) (show b0 M [pS cQ ([]:List Rat)] [.slice none 0 0] from⟨dX cQ M,trivial⟩)) (show b0 M [pS aH.cod ([]:List aH)] [.slice none 0 0] from⟨dX aH.cod M,trivial⟩))
theorem tyZ114q:TyZ Tryz.prog 114 [pS aK.cod ([]:List aK)]:=mkZ (z:=.slice none 0 0) (k:=1) (by kernel_rfl) rfl (fun M=>show b0 M [pS aK.cod ([]:List aK)] [.slice none 0 0] from⟨dX aK.cod M,trivial⟩)
theorem tyZ118q:TyZ Tryz.prog 118 ([pI .i64 0]++[pI .i64 0]):=mkZ (z:=.agg #[.int .i64 0,.int .i64 0]) (k:=2) (by kernel_rfl) rfl (fun M=>b0.app (show b0 M [pI .i64 0] [.int .i64 0] from zU1) (show b0 M [pI .i64 0] [.int .i64 0] from zU1))
theorem tyZ24q:TyZ Tryz.prog 24 [pS cQ ([]:List Rat)]:=mkZ (z:=.slice none 0 0) (k:=1) (by kernel_rfl) rfl (fun M=>show b0 M [pS cQ ([]:List Rat)] [.slice none 0 0] from⟨dX cQ M,trivial⟩)
theorem tyZ24_oq:TyZ Tryz.prog 24 [pO none 0 0]:=mkZ (z:=.slice none 0 0) (k:=1) (by kernel_rfl) rfl (fun M=>show b0 M [pO none 0 0] [.slice none 0 0] from⟨.inl rfl,trivial⟩)
theorem tyZ27q:TyZ Tryz.prog 27 ([pS aT.cod ([]:List aT)]++[pS cQ ([]:List Rat)]++[pS cQ ([]:List Rat)]++[pS aH.cod ([]:List aH)]):=mkZ (z:=.agg #[.slice none 0 0,.slice none 0 0,.slice none 0 0,.slice none 0 0]) (k:=4) (by kernel_rfl) rfl (fun M=>b0.app (b0.app (b0.app (show b0 M [pS aT.cod ([]:List aT)] [.slice none 0 0] from⟨dX aT.cod M,trivial⟩) (show b0 M [pS cQ ([]:List Rat)] [.slice none 0 0] from⟨dX cQ M,trivial⟩)) (show b0 M [pS cQ ([]:List Rat)] [.slice none 0 0] from⟨dX cQ M,trivial⟩)) (show b0 M [pS aH.cod ([]:List aH)] [.slice none 0 0] from⟨dX aH.cod M,trivial⟩))
theorem tyZ27_o0_o1_o2_o3q:TyZ Tryz.prog 27 ([pO none 0 0]++[pO none 0 0]++[pO none 0 0]++[pO none 0 0]):=mkZ (z:=.agg #[.slice none 0 0,.slice none 0 0,.slice none 0 0,.slice none 0 0]) (k:=4) (by kernel_rfl) rfl (fun M=>b0.app (b0.app (b0.app (show b0 M [pO none 0 0] [.slice none 0 0] from⟨.inl rfl,trivial⟩) (show b0 M [pO none 0 0] [.slice none 0 0] from⟨.inl rfl,trivial⟩)) (show b0 M [pO none 0 0] [.slice none 0 0] from⟨.inl rfl,trivial⟩)) (show b0 M [pO none 0 0] [.slice none 0 0] from⟨.inl rfl,trivial⟩))
theorem tyZ3q:TyZ Tryz.prog 3 [pI .i64 0]:=mkZ (z:=.int .i64 0) (k:=1) (by kernel_rfl) rfl (fun M=>show b0 M [pI .i64 0] [.int .i64 0] from zU1)
theorem tyZ44q:TyZ Tryz.prog 44 (eQ 0):=mkZ (z:=.agg #[.bool false,.slice none 0 0,.bool false,.slice none 0 0]) (k:=4) (by kernel_rfl) rfl (fun M=>eQ0 M)
theorem tyZ51q:TyZ Tryz.prog 51 ([pI .i64 0]++[pI .i64 0]++[pI .i64 0]++[pI .i64 0]++(eQ 0)++[pS aG.cod ([]:List aG)]++[pS aG.cod ([]:List aG)]++(eQ 0)++(eQ 0)):=mkZ (z:=.agg #[.int .i64 0,.int .i64 0,.int .i64 0,.int .i64 0,.bool false,.slice none 0 0,.bool false,.slice none 0 0,.slice none 0 0,.slice none 0 0,.bool false,.slice none 0 0,.bool false,.slice none 0 0,.bool false,.slice none 0 0,.bool false,.slice none 0 0]) (k:=18) (by kernel_rfl) rfl (fun M=>b0.app (b0.app (b0.app (b0.app (b0.app (b0.app (b0.app (b0.app (show b0 M [pI .i64 0] [.int .i64 0] from zU1) (show b0 M [pI .i64 0] [.int .i64 0] from zU1)) (show b0 M [pI .i64 0] [.int .i64 0] from zU1)) (show b0 M [pI .i64 0] [.int .i64 0] from zU1)) (eQ0 M)) (show b0 M [pS aG.cod ([]:List aG)] [.slice none 0 0] from⟨dX aG.cod M,trivial⟩)) (show b0 M [pS aG.cod ([]:List aG)] [.slice none 0 0] from⟨dX aG.cod M,trivial⟩)) (eQ0 M)) (eQ0 M))
theorem tyZ58q:TyZ Tryz.prog 58 ((eQ 0)++(eQ 0)):=mkZ (z:=.agg #[.bool false,.slice none 0 0,.bool false,.slice none 0 0,.bool false,.slice none 0 0,.bool false,.slice none 0 0]) (k:=8) (by kernel_rfl) rfl (fun M=>b0.app (eQ0 M) (eQ0 M))
theorem tyZ62q:TyZ Tryz.prog 62 [pS (rC cQ) ([]:List (List Rat))]:=mkZ (z:=.slice none 0 0) (k:=1) (by kernel_rfl) rfl (fun M=>show b0 M [pS (rC cQ) ([]:List (List Rat))] [.slice none 0 0] from⟨dX (rC cQ) M,trivial⟩)
theorem tyZ68q:TyZ Tryz.prog 68 ([pS cQ ([]:List Rat)]++[pS cQ ([]:List Rat)]++[pI .i64 0]):=mkZ (z:=.agg #[.slice none 0 0,.slice none 0 0,.int .i64 0]) (k:=3) (by kernel_rfl) rfl (fun M=>b0.app (b0.app (show b0 M [pS cQ ([]:List Rat)] [.slice none 0 0] from⟨dX cQ M,trivial⟩) (show b0 M [pS cQ ([]:List Rat)] [.slice none 0 0] from⟨dX cQ M,trivial⟩)) (show b0 M [pI .i64 0] [.int .i64 0] from zU1))
theorem tyZ92q:TyZ Tryz.prog 92 ([pI .i64 0]++(eQ 0)):=mkZ (z:=.agg #[.int .i64 0,.bool false,.slice none 0 0,.bool false,.slice none 0 0]) (k:=5) (by kernel_rfl) rfl (fun M=>b0.app (show b0 M [pI .i64 0] [.int .i64 0] from zU1) (eQ0 M))
def k6 (a0:Int) (a1:Int):Option Int:=
 bif(decide (a0<0)) then((bW (a0+1)).bind fun v2=>(bW (-v2)).bind fun v4=>(vM v4 a1).bind fun v6=>some v6) else((vM a0 a1).bind fun v8=>some v8)
theorem uU {a0:Int} {a1:Int} {r:Int} (hF:k6 a0 a1=some r):Ct Tryz.prog 24 [.vc (pI .i64 a0),.vc (pI .i64 a1)] (.vc (pI .i64 r)):=by
 unfold k6 at hF
 refine bD Tryz.func24 rfl (by kernel_rfl) Tryz.ntmps24 rfl (fun w0 M0=>?_)
 refine aE (aF (aB (aN (.inr rfl)) ⟨bI _ _,trivial⟩ ?_))
 refine aC (aA (aE (aE (aF (aI ?_)))))
 refine aB (dQ rfl) ⟨rfl,bI _ _,trivial⟩ ?_
 refine aC (aA (bS rfl (fun h1=>?_) (fun h1=>?_)))
 ·have hF:=aV h1 hF
  refine aF (aI ?_)
  obtain⟨v2,h3,hF⟩:=aP hF
  refine aB (bO rfl h3) ⟨rfl,bI _ _,trivial⟩ ?_
  obtain⟨v4,h5,hF⟩:=aP hF
  refine aB (aFd rfl h5) zU1 ?_
  refine bH ?_
  refine aC (aA (aE (aF (aI ?_))))
  refine aI ?_
  obtain⟨v6,h7,hF⟩:=aP hF
  refine aB (rA rfl h7) zU2 ?_
  refine bH ?_
  refine aC (aA (a9 (a8 ?_)))
  obtain rfl:=bV hF
  exact aL (.inl rfl) Tryz.results24 (.tmp rfl .nil) rfl rfl
 have hF:=aX h1 hF
 refine bA (aA (aE (aF (aI ?_))))
 refine aI ?_
 obtain⟨v8,h9,hF⟩:=aP hF
 refine aB (rA rfl h9) zU2 ?_
 refine bH ?_
 refine aC (aA (a9 (a8 ?_)))
 obtain rfl:=bV hF
 exact aL (.inl rfl) Tryz.results24 (.tmp rfl .nil) rfl rfl
def cG (a0:List Int) (a1:Int) (a2:Int):Option Int:=
 bif(decide (a1<0)) then(some 0) else(bif(decide ((a0.length:Int)≤a1)) then(some 0) else((dC a0 a1).bind fun v3=>(k6 v3 a2).bind fun v5=>some v5))
theorem d7 {a0:List Int} {a1:Int} {a2:Int} {r:Int} (hF:cG a0 a1 a2=some r):Ct Tryz.prog 26 [.vc (pS cI a0),.vc (pI .i64 a1),.vc (pI .i64 a2)] (.vc (pI .i64 r)):=by
 unfold cG at hF
 refine bD Tryz.func26 rfl (by kernel_rfl) Tryz.ntmps26 rfl (fun w0 M0=>?_)
 refine aE (aF (aB (aN (.inr rfl)) ⟨bI _ _,trivial⟩ ?_))
 refine aC (aA (aE (aE (aF (aI ?_)))))
 refine aB (dQ rfl) ⟨rfl,bI _ _,trivial⟩ ?_
 refine aI ?_
 refine cP (fun h1=>?_) (fun h1=>?_)
 ·have hF:=aV h1 hF
  refine aM ?_
  refine aM ?_
  refine aM ?_
  refine aM ?_
  refine aB (bM rfl) ⟨rfl,cW _,trivial⟩ ?_
  refine aC (aA (iO rfl ?_))
  refine aE (aF (aB (aN (.inr rfl)) ⟨bI _ _,trivial⟩ ?_))
  refine aC (aA (a9 (a8 ?_)))
  obtain rfl:=bV hF
  exact aL (.inl rfl) Tryz.results26 (.tmp rfl .nil) rfl rfl
 have hF:=aX h1 hF
 refine aY (aN (.inl rfl)) zU1 ?_
 refine aY (aN (.inl rfl)) zU1 ?_
 refine aY (bX rfl tyS22) zU1 ?_
 refine aY (uP rfl) zU2 ?_
 refine aB (bN rfl) zU2 ?_
 refine aC (aA (bS rfl (fun h2=>?_) (fun h2=>?_)))
 ·have hF:=aV h2 hF
  refine aE (aF (aB (aN (.inr rfl)) ⟨bI _ _,trivial⟩ ?_))
  refine aC (aA (a9 (a8 ?_)))
  obtain rfl:=bV hF
  exact aL (.inl rfl) Tryz.results26 (.tmp rfl .nil) rfl rfl
 have hF:=aX h2 hF
 refine bA (aA (aE (aF (aI ?_))))
 refine aI ?_
 obtain⟨v3,h4,hF⟩:=aP hF
 refine aB (cO rfl tyS22 h4) zU2 ?_
 refine aB (cK 1 rfl rfl (.one tyO3)) zU1 ?_
 refine aI ?_
 obtain⟨v5,h6,hF⟩:=aP hF
 refine aB (aJ rfl (uU h6) rfl) zU2 ?_
 refine bH ?_
 refine aC (aA (a9 (a8 ?_)))
 obtain rfl:=bV hF
 exact aL (.inl rfl) Tryz.results26 (.tmp rfl .nil) rfl rfl
def oG (K:Nat) (x19:List aG):Option (List aG):=
 some x19
def eY (K:Nat) (a1:Int):Nat→(List aG)→Int→Int→Option (List aG)
 |0,_,_,_=>none
 |k+1,x11,x17,x18=>bif(decide (x18<a1)) then((vM x17 7).bind fun v28=>(dC [0,1,(-1),0,2,(-1),1] v28).bind fun v30=>(vW x17 7).bind fun v32=>bif(v30 != 0) then((vM v32 3).bind fun v35=>(bW (1+v35)).bind fun v37=>(y5 v30 v37).bind fun v39=>(qO x11 [(⟨x18,v39⟩:aG)]).bind fun x41=>(vW v32 3).bind fun v48=>(bW (x18+1)).bind fun v50=>eY K a1 k x41 v48 v50) else((vW v32 3).bind fun v52=>(bW (x18+1)).bind fun v54=>eY K a1 k x11 v52 v54)) else(some x11)
def eP (K:Nat) (a0:Int) (a1:Int):Option (List aG):=
 (eY K a1 K ([]:List aG) a0 0).bind fun x19=>oG K x19
theorem n9 {K:Nat} {a0:Int} {a1:Int} {r:List aG} (hF:eP K a0 a1=some r):Ct Tryz.prog 67 [.vc (pI .i64 a0),.vc (pI .i64 a1)] (.vc (pS aG.cod r)):=by
 unfold eP at hF
 refine bD Tryz.func67 rfl (by kernel_rfl) Tryz.ntmps67 rfl (fun w0 M0=>?_)
 refine aE (aF (aB (aN (.inr rfl)) ⟨dX aG.cod,trivial⟩ ?_))
 refine aC (aA (aE (aF (sB aG.cod 92 rfl ?_))))
 refine aC (aA (aE (aE (aF (aB (aN (.inr rfl)) ⟨bI _ _,trivial⟩ ?_)))))
 refine aC (aA (bR (cJ (fun H E=>∃(x19:List aG),∃(b20:Option Nat),∃(c21:Nat),∃(n22:Nat),oG K x19=some r∧x19.length=n22∧H=[hO aG.cod b20 c21 92 n22 x19]∧E=[(5,.vc (pO b20 n22 c21))]) ?_ (fun Jj26=>?_))))
 ·rintro _ _ ⟨x19,b20,c21,n22,hF,q23,rfl,rfl⟩
  unfold oG at hF
  refine aA (aE (aF (aI ?_)))
  refine bH ?_
  refine aC (aA (a9 (a8 (uB 0 [4,5,34] rfl q23 ⟨rfl,rfl,rfl,trivial⟩ rfl ?_))))
  obtain rfl:=bV hF
  exact aL (.inl rfl) Tryz.results67 (.tmp rfl .nil) rfl rfl
 obtain⟨x19',hL,hRl25⟩:=aP hF
 refine gB (fun k a w=>∃(x11:List aG),∃(x17:Int),∃(x18:Int),∃(b12:Option Nat),∃(c13:Nat),∃(n14:Nat),eY K a1 k x11 x17 x18=some x19'∧x11.length=n14∧hs _ [hO aG.cod b12 c13 92 n14 x11] [(0,.vc (pI .i64 x17)),(1,.vc (pI .i64 a1)),(5,.vc (pO b12 n14 c13)),(6,.vc (pI .i64 x18))] a w) K (fun a w ⟨_,_,_,_,_,_,hF,_,_⟩=>by cases hF) (fun k a w ⟨x11,x17,x18,b12,c13,n14,hF,q15,hh⟩=>gE ?_ hh) (fun a w hh=>⟨([]:List aG),a0,0,none,0,0,hL,rfl,bF [0] rfl (by decide) (by exact⟨rfl,rfl,rfl,rfl,trivial⟩) hh⟩)
 rw [eY.eq_2] at hF
 refine aE (aE (aF (aI ?_)))
 refine aI ?_
 refine aB (dQ rfl) zU2 ?_
 refine aC (aA (bS rfl (fun h27=>?_) (fun h27=>?_)))
 ·have hF:=aV h27 hF
  refine bA (aA (aE (bR (aE (aF (aB (iJ (C:=cI) (xs:=[.const (.int .i64 (0)),.const (.int .i64 (1)),.const (.int .i64 (-1)),.const (.int .i64 (0)),.const (.int .i64 (2)),.const (.int .i64 (-1)),.const (.int .i64 (1))]) (ps:=[.vc (pI .i64 0),.vc (pI .i64 1),.vc (pI .i64 (-1)),.vc (pI .i64 0),.vc (pI .i64 2),.vc (pI .i64 (-1)),.vc (pI .i64 1)]) (zs:=[0,1,(-1),0,2,(-1),1]) rfl tyS22 rfl ⟨⟨trivial,rfl⟩,⟨trivial,rfl⟩,⟨trivial,rfl⟩,⟨trivial,rfl⟩,⟨trivial,rfl⟩,⟨trivial,rfl⟩,⟨trivial,rfl⟩,trivial⟩ rfl) ⟨bI _ _,bI _ _,bI _ _,bI _ _,bI _ _,bI _ _,bI _ _,trivial⟩ ?_))))))
  refine aI ?_
  obtain⟨v28,h29,hF⟩:=aP hF
  refine aB (rA rfl h29) ⟨rfl,bI _ _,trivial⟩ ?_
  obtain⟨v30,h31,hF⟩:=aP hF
  refine aB (cO rfl tyS22 h31) zU2 ?_
  refine aB (cK 1 rfl rfl (.one tyO3)) zU1 ?_
  refine bH ?_
  refine aC (aA (aE (aF (aI ?_))))
  obtain⟨v32,h33,hF⟩:=aP hF
  refine aB (sF rfl h33) ⟨rfl,bI _ _,trivial⟩ ?_
  refine bH ?_
  refine aC (aA (aE (aE (aF (aI ?_)))))
  refine aB (s7 rfl) ⟨rfl,bI _ _,trivial⟩ ?_
  refine aC (aA (bS rfl (fun h34=>?_) (fun h34=>?_)))
  ·have hF:=aV h34 hF
   refine aF (aI ?_)
   refine aI ?_
   refine aI ?_
   refine aI ?_
   obtain⟨v35,h36,hF⟩:=aP hF
   refine aB (rA rfl h36) ⟨rfl,bI _ _,trivial⟩ ?_
   obtain⟨v37,h38,hF⟩:=aP hF
   refine aB (bO rfl h38) ⟨bI _ _,rfl,trivial⟩ ?_
   obtain⟨v39,h40,hF⟩:=aP hF
   refine aB (aJ rfl (bY h40) rfl) zU2 ?_
   refine aB (cZ (is:=[0,1]) (xs:=[.tmp 23,.tmp 28]) (ps:=[.vc (pI .i64 x18),.va (eQ v39)]) rfl tyB92q rfl rfl ⟨trivial,trivial,trivial⟩ rfl) zU2 ?_
   refine aB (iJ (C:=aG.cod) (xs:=[.tmp 29]) (ps:=[.va ([pI .i64 x18]++(eQ v39))]) (zs:=[(⟨x18,v39⟩:aG)]) rfl tyS49 rfl ⟨⟨trivial,rfl⟩,trivial⟩ rfl) zU1 ?_
   obtain⟨x41,h42,hF⟩:=aP hF
   refine jD 0 rfl tyS49 rfl rfl q15 rfl rfl h42 (fun b43 c44 H45 e46=>?_)
   cases e46
   refine bH ?_
   refine aC (aA (aF (aI ?_)))
   obtain⟨v48,h49,hF⟩:=aP hF
   refine aB (sF rfl h49) ⟨rfl,bI _ _,trivial⟩ ?_
   refine bH ?_
   refine aC (bJ (aA (aF (aI ?_))))
   obtain⟨v50,h51,hF⟩:=aP hF
   refine aB (bO rfl h51) ⟨rfl,bI _ _,trivial⟩ ?_
   refine bH ?_
   refine aC ?_
   exact bL (fun a w hh=>⟨x41,v48,v50,b43,c44,(n14+[(⟨x18,v39⟩:aG)].length),hF,(cL h42 q15),bF [0] rfl (by decide) (by exact⟨rfl,rfl,rfl,rfl,trivial⟩) hh⟩)
  have hF:=aX h34 hF
  refine bA (aA (aF (aI ?_)))
  obtain⟨v52,h53,hF⟩:=aP hF
  refine aB (sF rfl h53) ⟨rfl,bI _ _,trivial⟩ ?_
  refine bH ?_
  refine aC (bJ (aA (aF (aI ?_))))
  obtain⟨v54,h55,hF⟩:=aP hF
  refine aB (bO rfl h55) ⟨rfl,bI _ _,trivial⟩ ?_
  refine bH ?_
  refine aC ?_
  exact bL (fun a w hh=>⟨x11,v52,v54,b12,c13,n14,hF,q15,bF [0] rfl (by decide) (by exact⟨rfl,rfl,rfl,rfl,trivial⟩) hh⟩)
 have hF:=aX h27 hF
 refine dI ?_
 obtain rfl:=bV hF
 exact bU Jj26 ⟨x11,b12,c13,n14,hRl25,q15,rfl,rfl⟩ [0] rfl zU1
def k5 (K:Nat) (x75:List Rat) (x81:List aT) (x93:List Rat) (x114:List aH):Option bC:=
 some (⟨x81,x75,x93,x114⟩:bC)
def fK (K:Nat) (x107:List aH) (x113:Int) (v129:Int) (recl120:(List aH)→Int→Option (List aH)) (x159:aH):Option (List aH):=
 (vU x159.mu).bind fun v161=>bif(v161==0) then((qO x107 [(⟨x159.kind,x159.a,x159.b,x159.edge,x159.gap,x159.j,[],0,x159.e⟩:aH)]).bind fun x164=>(bW (x113+1)).bind fun v171=>recl120 x164 v171) else((vM v129 5).bind fun v173=>bif(v173==0) then((qO x107 [(⟨x159.kind,x159.a,x159.b,x159.edge,x159.gap,x159.j,[],0,x159.e⟩:aH)]).bind fun x176=>(bW (x113+1)).bind fun v183=>recl120 x176 v183) else((qO x107 [x159]).bind fun x185=>(bW (x113+1)).bind fun v192=>recl120 x185 v192))
def dV (K:Nat) (a0:List Int) (a1:Bool) (v4:Int):Nat→(List aH)→Int→Option (List aH)
 |0,_,_=>none
 |k+1,x107,x113=>(cG a0 8 5).bind fun v122=>bif(decide (x113<v122)) then((bW (3*x113)).bind fun v125=>(bW (9+v125)).bind fun v127=>(cG a0 v127 1099511627776).bind fun v129=>(eP K v129 v4).bind fun v131=>(bW (3*x113)).bind fun v133=>(bW (10+v133)).bind fun v135=>(cG a0 v135 1099511627776).bind fun v137=>(eP K v137 v4).bind fun v139=>(bW (3*x113)).bind fun v141=>(bW (11+v141)).bind fun v143=>(cG a0 v143 5).bind fun v145=>(bW (3*x113)).bind fun v147=>(bW (11+v147)).bind fun v149=>(cG a0 v149 3).bind fun v151=>(bW (1+v151)).bind fun v153=>(y5 v145 v153).bind fun v155=>bif(!a1) then((bW (v4-1)).bind fun v195=>(eP K v129 v195).bind fun v197=>fK K x107 x113 v129 (dV K a0 a1 v4 k) (⟨0,0,x113,0,0,v197,v139,v155,0⟩:aH)) else(fK K x107 x113 v129 (dV K a0 a1 v4 k) (⟨0,0,x113,0,0,v131,v139,v155,0⟩:aH))) else(some x107)
def jV (K:Nat) (a0:List Int) (a1:Bool) (v4:Int) (x75:List Rat) (x81:List aT) (x93:List Rat):Option bC:=
 (dV K a0 a1 v4 K ([]:List aH) 0).bind fun x114=>k5 K x75 x81 x93 x114
def nK (K:Nat) (x69:List Rat) (x75:List Rat) (x81:List aT) (x235:List aH):Option bC:=
 some (⟨x81,x75,x69,x235⟩:bC)
def gT (K:Nat) (x228:List aH) (x234:Int) (v250:Int) (v252:List aG) (v260:List aG) (v276:Rat) (recl241:(List aH)→Int→Option (List aH)):Option (List aH):=
 (vU v276).bind fun v281=>bif(v281==0) then((qO x228 [(⟨0,0,x234,0,0,v252,[],0,0⟩:aH)]).bind fun x284=>(bW (x234+1)).bind fun v291=>recl241 x284 v291) else((vM v250 5).bind fun v293=>bif(v293==0) then((qO x228 [(⟨0,0,x234,0,0,v252,[],0,0⟩:aH)]).bind fun x296=>(bW (x234+1)).bind fun v303=>recl241 x296 v303) else((qO x228 [(⟨0,0,x234,0,0,v252,v260,v276,0⟩:aH)]).bind fun x305=>(bW (x234+1)).bind fun v312=>recl241 x305 v312))
def eO (K:Nat) (a0:List Int) (v4:Int):Nat→(List aH)→Int→Option (List aH)
 |0,_,_=>none
 |k+1,x228,x234=>(cG a0 8 5).bind fun v243=>bif(decide (x234<v243)) then((bW (3*x234)).bind fun v246=>(bW (9+v246)).bind fun v248=>(cG a0 v248 1099511627776).bind fun v250=>(eP K v250 v4).bind fun v252=>(bW (3*x234)).bind fun v254=>(bW (10+v254)).bind fun v256=>(cG a0 v256 1099511627776).bind fun v258=>(eP K v258 v4).bind fun v260=>(bW (3*x234)).bind fun v262=>(bW (11+v262)).bind fun v264=>(cG a0 v264 5).bind fun v266=>(bW (3*x234)).bind fun v268=>(bW (11+v268)).bind fun v270=>(cG a0 v270 3).bind fun v272=>(bW (1+v272)).bind fun v274=>(y5 v266 v274).bind fun v276=>gT K x228 x234 v250 v252 v260 v276 (eO K a0 v4 k)) else(some x228)
def nP (K:Nat) (a0:List Int) (v4:Int) (x69:List Rat) (x75:List Rat) (x81:List aT):Option bC:=
 (eO K a0 v4 K ([]:List aH) 0).bind fun x235=>nK K x69 x75 x81 x235
def jU (K:Nat) (a0:List Int) (a1:Bool) (v4:Int) (x69:List Rat) (x75:List Rat) (x81:List aT):Option bC:=
 (cG a0 5 3).bind fun v89=>bif(decide (0<v89)) then(bif(!a1) then((bW (v4-1)).bind fun v202=>(cG a0 6 9).bind fun v204=>(bW (v204-4)).bind fun v206=>(cG a0 7 3).bind fun v208=>(bW (1+v208)).bind fun v210=>(y5 v206 v210).bind fun v212=>(dC x69 v202).bind fun v214=>(qC x69 v202 v212).bind fun x216=>jV K a0 a1 v4 x75 x81 x216) else(jV K a0 a1 v4 x75 x81 x69)) else(nP K a0 v4 x69 x75 x81)
def iG (K:Nat) (a0:List Int) (v4:Int):Nat→(List Rat)→(List Rat)→(List aT)→Int→Option ((List Rat)×(List Rat)×(List aT))
 |0,_,_,_,_=>none
 |k+1,x50,x56,x62,x68=>bif(decide (x68<v4)) then((bW (1+x68)).bind fun v315=>(cG a0 v315 1073741824).bind fun v317=>(vM v317 3).bind fun v321=>(bW (1+v321)).bind fun v323=>(vW v317 3).bind fun v325=>(vM v325 4).bind fun v327=>(bW (1+v327)).bind fun v329=>(y5 v323 v329).bind fun v331=>(qO x62 [(⟨v331,0,false,0,0⟩:aT)]).bind fun x333=>(vW v317 12).bind fun v342=>(vM v342 13).bind fun v344=>(bW (v344-6)).bind fun v346=>(vW v317 156).bind fun v348=>(vM v348 3).bind fun v350=>(bW (1+v350)).bind fun v352=>(y5 v346 v352).bind fun v354=>(qO x56 [v354]).bind fun x356=>(qO x50 [0]).bind fun x363=>(bW (x68+1)).bind fun v370=>iG K a0 v4 k x363 x356 x333 v370) else(some (x50,x56,x62))
def kY (K:Nat) (a0:List Int) (a1:Bool):Option bC:=
 (cG a0 0 4).bind fun v2=>(bW (1+v2)).bind fun v4=>(iG K a0 v4 K ([]:List Rat) ([]:List Rat) ([]:List aT) 0).bind fun(x69,x75,x81)=>jU K a0 a1 v4 x69 x75 x81
theorem aAx {K:Nat} {a0:List Int} {a1:Bool} {r:bC} (hF:kY K a0 a1=some r):Ct Tryz.prog 16 [.vc (pS cI a0),.vc (pB a1)] (.va (bC.enc r)):=by
 unfold kY at hF
 refine bD Tryz.func16 rfl (by kernel_rfl) Tryz.ntmps16 rfl (fun w0 M0=>?_)
 refine aE (aF (bP rfl tyZ27q (fun b1=>?_)))
 refine aC (aA (aE (aF (aI ?_))))
 obtain⟨v2,h3,hF⟩:=aP hF
 refine aB (aJ rfl (d7 h3) rfl) ⟨rfl,bI _ _,bI _ _,trivial⟩ ?_
 obtain⟨v4,h5,hF⟩:=aP hF
 refine aB (bO rfl h5) ⟨bI _ _,rfl,trivial⟩ ?_
 refine bH ?_
 refine aC (aA (aE (aF (aBN aT.cod 108 ?_))))
 refine aBN cQ 44 ?_
 refine aBN cQ 44 ?_
 refine aBN aH.cod 51 ?_
 refine bP rfl tyZ27_o0_o1_o2_o3q (fun b30=>?_)
 refine aC (aA (aE (aE (aF (aB (aN (.inr rfl)) ⟨bI _ _,trivial⟩ ?_)))))
 refine aC (aA (bR (cJ (fun H E=>∃(x69:List Rat),∃(x75:List Rat),∃(x81:List aT),∃(b70:Option Nat),∃(c71:Nat),∃(n72:Nat),∃(b76:Option Nat),∃(c77:Nat),∃(n78:Nat),∃(b82:Option Nat),∃(c83:Nat),∃(n84:Nat),jU K a0 a1 v4 x69 x75 x81=some r∧x69.length=n72∧x75.length=n78∧x81.length=n84∧H=[⟨some b30,1,27,4,1,([pO b82 n84 c83]++[pO b76 n78 c77]++[pO b70 n72 c71]++[pO none 0 0])⟩,hO aH.cod none 0 51 0 ([]:List aH),hO cQ b70 c71 44 n72 x69,hO cQ b76 c77 44 n78 x75,hO aT.cod b82 c83 108 n84 x81,⟨some b1,1,27,4,1,([pS aT.cod ([]:List aT)]++[pS cQ ([]:List Rat)]++[pS cQ ([]:List Rat)]++[pS aH.cod ([]:List aH)])⟩]∧E=[(0,.vc (pS cI a0)),(1,.vc (pB a1)),(4,.vc (pP (some b1) 0)),(5,.vc (pI .i64 v4)),(6,.vc (pP (some b30) 0))]) ?_ (fun Jj88=>?_))))
 ·rintro _ _ ⟨x69,x75,x81,b70,c71,n72,b76,c77,n78,b82,c83,n84,hF,q73,q79,q85,rfl,rfl⟩
  unfold jU at hF
  refine aA (aE (aF (aI ?_)))
  obtain⟨v89,h90,hF⟩:=aP hF
  refine aB (aJ rfl (d7 h90) rfl) ⟨rfl,bI _ _,bI _ _,trivial⟩ ?_
  refine aB (rV rfl) ⟨rfl,bI _ _,trivial⟩ ?_
  refine aI ?_
  refine cP (fun h91=>?_) (fun h91=>?_)
  ·have hF:=aV h91 hF
   refine aY (aN (.inl rfl)) zU1 ?_
   refine aY (hU rfl) zU1 ?_
   refine aB (bM rfl) zU2 ?_
   refine bH ?_
   refine aC (aA (aE (uH (fun H E=>∃(x93:List Rat),jV K a0 a1 v4 x75 x81 x93=some r∧x93.length=n72∧H=[⟨some b30,1,27,4,1,([pO b82 n84 c83]++[pO b76 n78 c77]++[pO b70 n72 c71]++[pO none 0 0])⟩,hO aH.cod none 0 51 0 ([]:List aH),hO cQ b70 c71 44 n72 x93,hO cQ b76 c77 44 n78 x75,hO aT.cod b82 c83 108 n84 x81,⟨some b1,1,27,4,1,([pS aT.cod ([]:List aT)]++[pS cQ ([]:List Rat)]++[pS cQ ([]:List Rat)]++[pS aH.cod ([]:List aH)])⟩]∧E=[(0,.vc (pS cI a0)),(4,.vc (pP (some b1) 0)),(5,.vc (pI .i64 v4)),(6,.vc (pP (some b30) 0)),(9,.vc (pB (!a1)))]) ?_ (fun Jj99=>?_))))
   ·rintro _ _ ⟨x93,hF,q97,rfl,rfl⟩
    unfold jV at hF
    refine aE (aE (aF (aB (aN (.inr rfl)) ⟨bI _ _,trivial⟩ ?_)))
    refine aC (aA (bR (cJ (fun H E=>∃(x114:List aH),∃(b115:Option Nat),∃(c116:Nat),∃(n117:Nat),k5 K x75 x81 x93 x114=some r∧x114.length=n117∧H=[⟨some b30,1,27,4,1,([pO b82 n84 c83]++[pO b76 n78 c77]++[pO b70 n72 c71]++[pO b115 n117 c116])⟩,hO aH.cod b115 c116 51 n117 x114,hO cQ b70 c71 44 n72 x93,hO cQ b76 c77 44 n78 x75,hO aT.cod b82 c83 108 n84 x81,⟨some b1,1,27,4,1,([pS aT.cod ([]:List aT)]++[pS cQ ([]:List Rat)]++[pS cQ ([]:List Rat)]++[pS aH.cod ([]:List aH)])⟩]∧E=[(4,.vc (pP (some b1) 0)),(6,.vc (pP (some b30) 0))]) ?_ (fun Jj121=>?_))))
    ·rintro _ _ ⟨x114,b115,c116,n117,hF,q118,rfl,rfl⟩
     unfold k5 at hF
     refine aA (aE (aF (uT 4 0 0 rfl q85 rfl rfl rfl rfl rfl ?_)))
     refine uT 3 0 1 rfl q79 rfl rfl rfl rfl rfl ?_
     refine uT 2 0 2 rfl q97 rfl rfl rfl rfl rfl ?_
     refine uT 1 0 3 rfl q118 rfl rfl rfl rfl rfl ?_
     refine aB (bK 0 4 rfl rfl rfl rfl (.agg tyA27)) zU1 ?_
     refine bG (dO 1 rfl rfl rfl tyA27.s) zU2 ?_
     refine aC (aA (a9 (a8 ?_)))
     obtain rfl:=bV hF
     exact aL (.inl rfl) Tryz.results16 (bQ 1 4 rfl rfl rfl rfl (.agg tyA27) .nil) rfl rfl
    obtain⟨x114',hL,hRl120⟩:=aP hF
    refine gB (fun k a w=>∃(x107:List aH),∃(x113:Int),∃(b108:Option Nat),∃(c109:Nat),∃(n110:Nat),dV K a0 a1 v4 k x107 x113=some x114'∧x107.length=n110∧hs _ [⟨some b30,1,27,4,1,([pO b82 n84 c83]++[pO b76 n78 c77]++[pO b70 n72 c71]++[pO b108 n110 c109])⟩,hO aH.cod b108 c109 51 n110 x107,hO cQ b70 c71 44 n72 x93,hO cQ b76 c77 44 n78 x75,hO aT.cod b82 c83 108 n84 x81,⟨some b1,1,27,4,1,([pS aT.cod ([]:List aT)]++[pS cQ ([]:List Rat)]++[pS cQ ([]:List Rat)]++[pS aH.cod ([]:List aH)])⟩] [(0,.vc (pS cI a0)),(4,.vc (pP (some b1) 0)),(5,.vc (pI .i64 v4)),(6,.vc (pP (some b30) 0)),(9,.vc (pB (!a1))),(10,.vc (pI .i64 x113))] a w) K (fun a w ⟨_,_,_,_,_,hF,_,_⟩=>by cases hF) (fun k a w ⟨x107,x113,b108,c109,n110,hF,q111,hh⟩=>gE ?_ hh) (fun a w hh=>⟨([]:List aH),0,none,0,0,hL,rfl,bF [0,1,2,3,4,5] rfl (by decide) (by exact⟨rfl,rfl,rfl,rfl,rfl,rfl,trivial⟩) hh⟩)
    rw [dV.eq_2] at hF
    refine aE (aE (aF (aI ?_)))
    refine aI ?_
    obtain⟨v122,h123,hF⟩:=aP hF
    refine aB (aJ rfl (d7 h123) rfl) ⟨rfl,bI _ _,bI _ _,trivial⟩ ?_
    refine aB (dQ rfl) zU2 ?_
    refine aC (aA (bS rfl (fun h124=>?_) (fun h124=>?_)))
    ·have hF:=aV h124 hF
     refine bA (aA (aE (bR (aE (aF (aI ?_))))))
     refine aI ?_
     obtain⟨v125,h126,hF⟩:=aP hF
     refine aB (pL rfl h126) ⟨bI _ _,rfl,trivial⟩ ?_
     obtain⟨v127,h128,hF⟩:=aP hF
     refine aB (bO rfl h128) ⟨bI _ _,rfl,trivial⟩ ?_
     obtain⟨v129,h130,hF⟩:=aP hF
     refine aB (aJ rfl (d7 h130) rfl) ⟨rfl,rfl,bI _ _,trivial⟩ ?_
     refine bH ?_
     refine aC (aA (aE (aF (aI ?_))))
     refine aI ?_
     obtain⟨v131,h132,hF⟩:=aP hF
     refine aB (aJ rfl (n9 h132) rfl) zU2 ?_
     refine aI ?_
     refine aI ?_
     obtain⟨v133,h134,hF⟩:=aP hF
     refine aB (pL rfl h134) ⟨bI _ _,rfl,trivial⟩ ?_
     obtain⟨v135,h136,hF⟩:=aP hF
     refine aB (bO rfl h136) ⟨bI _ _,rfl,trivial⟩ ?_
     obtain⟨v137,h138,hF⟩:=aP hF
     refine aB (aJ rfl (d7 h138) rfl) ⟨rfl,rfl,bI _ _,trivial⟩ ?_
     refine aI ?_
     obtain⟨v139,h140,hF⟩:=aP hF
     refine aB (aJ rfl (n9 h140) rfl) zU2 ?_
     refine aI ?_
     refine aI ?_
     obtain⟨v141,h142,hF⟩:=aP hF
     refine aB (pL rfl h142) ⟨bI _ _,rfl,trivial⟩ ?_
     obtain⟨v143,h144,hF⟩:=aP hF
     refine aB (bO rfl h144) ⟨bI _ _,rfl,trivial⟩ ?_
     obtain⟨v145,h146,hF⟩:=aP hF
     refine aB (aJ rfl (d7 h146) rfl) ⟨rfl,rfl,bI _ _,trivial⟩ ?_
     refine aI ?_
     refine aI ?_
     obtain⟨v147,h148,hF⟩:=aP hF
     refine aB (pL rfl h148) ⟨bI _ _,rfl,trivial⟩ ?_
     obtain⟨v149,h150,hF⟩:=aP hF
     refine aB (bO rfl h150) ⟨bI _ _,rfl,trivial⟩ ?_
     obtain⟨v151,h152,hF⟩:=aP hF
     refine aB (aJ rfl (d7 h152) rfl) ⟨rfl,rfl,bI _ _,trivial⟩ ?_
     obtain⟨v153,h154,hF⟩:=aP hF
     refine aB (bO rfl h154) ⟨bI _ _,rfl,trivial⟩ ?_
     obtain⟨v155,h156,hF⟩:=aP hF
     refine aB (aJ rfl (bY h156) rfl) zU2 ?_
     refine aI ?_
     refine aB (cZ (is:=[5,6,7,2]) (xs:=[.tmp 92,.tmp 99,.tmp 111,.tmp 112]) (ps:=[.vc (pS aG.cod v131),.vc (pS aG.cod v139),.va (eQ v155),.vc (pI .i64 x113)]) rfl tyB51q rfl rfl ⟨trivial,trivial,trivial,trivial,trivial⟩ rfl) ⟨rfl,rfl,rfl,rfl,trivial⟩ ?_
     refine bP rfl tyZ51q (fun b157=>?_)
     refine bG (dO 0 rfl rfl rfl tyA51.s) zU2 ?_
     refine aC (aA (aE (uH (fun H E=>∃(x159:aH),fK K x107 x113 v129 (dV K a0 a1 v4 k) x159=some x114'∧H=[⟨some b157,1,51,18,1,(aH.enc x159)⟩,⟨some b30,1,27,4,1,([pO b82 n84 c83]++[pO b76 n78 c77]++[pO b70 n72 c71]++[pO b108 n110 c109])⟩,hO aH.cod b108 c109 51 n110 x107,hO cQ b70 c71 44 n72 x93,hO cQ b76 c77 44 n78 x75,hO aT.cod b82 c83 108 n84 x81,⟨some b1,1,27,4,1,([pS aT.cod ([]:List aT)]++[pS cQ ([]:List Rat)]++[pS cQ ([]:List Rat)]++[pS aH.cod ([]:List aH)])⟩]∧E=[(0,.vc (pS cI a0)),(4,.vc (pP (some b1) 0)),(5,.vc (pI .i64 v4)),(6,.vc (pP (some b30) 0)),(9,.vc (pB (!a1))),(10,.vc (pI .i64 x113)),(11,.vc (pI .i64 v129)),(12,.vc (pP (some b157) 0))]) ?_ (fun Jj160=>?_))))
     ·rintro _ _ ⟨x159,hF,rfl,rfl⟩
      unfold fK at hF
      refine aE (aE (aF (aB (bE (off:=0) (k:=10) rfl tyF51_7) zU1 ?_)))
      refine aB (bK 0 4 rfl rfl rfl rfl (.agg tyA44)) zU1 ?_
      obtain⟨v161,h162,hF⟩:=aP hF
      refine aB (aJ rfl (l4 h162) rfl) zU1 ?_
      refine aB (gR rfl) ⟨rfl,bI _ _,trivial⟩ ?_
      refine aI ?_
      refine cP (fun h163=>?_) (fun h163=>?_)
      ·have hF:=aV h163 hF
       refine aM ?_
       refine aM ?_
       refine aM ?_
       refine aB (bM rfl) ⟨rfl,cW _,trivial⟩ ?_
       refine aC (aA (iO rfl ?_))
       refine aE (aF (aB (bE (off:=0) (k:=9) rfl tyF51_6) zU1 ?_))
       refine bG (dO 0 rfl rfl rfl tyO49.s) ⟨rfl,dX aG.cod,trivial⟩ ?_
       refine aC (aA (aF (aB (cZ (is:=[]) (xs:=[]) (ps:=[]) rfl tyB44q rfl rfl trivial rfl) trivial ?_)))
       refine aB (bE (off:=0) (k:=10) rfl tyF51_7) zU1 ?_
       refine bG (dO 0 rfl rfl rfl tyA44.s) zU2 ?_
       refine aC (aA (aF (aB (bE (off:=0) (k:=3) rfl tyF27_3) zU1 ?_)))
       refine aB (bK 1 1 rfl rfl rfl rfl (.one tyO25)) zU1 ?_
       refine aB (bK 0 18 rfl rfl rfl rfl (.agg tyA51)) zU1 ?_
       refine aB (iJ (C:=aH.cod) (xs:=[.tmp 134]) (ps:=[.va ([pI .i64 x159.kind]++[pI .i64 x159.a]++[pI .i64 x159.b]++[pI .i64 x159.edge]++(eQ x159.gap)++[pS aG.cod x159.j]++[pS aG.cod []]++(eQ 0)++(eQ x159.e))]) (zs:=[(⟨x159.kind,x159.a,x159.b,x159.edge,x159.gap,x159.j,[],0,x159.e⟩:aH)]) rfl tyS25 rfl ⟨⟨trivial,rfl⟩,trivial⟩ rfl) zU1 ?_
       obtain⟨x164,h165,hF⟩:=aP hF
       refine jD 2 rfl tyS25 rfl rfl q111 rfl rfl h165 (fun b166 c167 H168 e169=>?_)
       cases e169
       refine aB (bE (off:=0) (k:=3) rfl tyF27_3) zU1 ?_
       refine bG (dO 1 rfl rfl rfl tyO25.s) zU2 ?_
       refine aC (bJ (aA (aF (aI ?_))))
       obtain⟨v171,h172,hF⟩:=aP hF
       refine aB (bO rfl h172) ⟨rfl,bI _ _,trivial⟩ ?_
       refine bH ?_
       refine aC ?_
       exact bL (fun a w hh=>⟨x164,v171,b166,c167,(n110+[(⟨x159.kind,x159.a,x159.b,x159.edge,x159.gap,x159.j,[],0,x159.e⟩:aH)].length),hF,(cL h165 q111),bF [1,2,3,4,5,6] rfl (by decide) (by exact⟨rfl,rfl,rfl,rfl,rfl,rfl,trivial⟩) hh⟩)
      have hF:=aX h163 hF
      refine aY (aN (.inl rfl)) zU1 ?_
      obtain⟨v173,h174,hF⟩:=aP hF
      refine aY (rA rfl h174) ⟨rfl,bI _ _,trivial⟩ ?_
      refine aY (gR rfl) ⟨rfl,bI _ _,trivial⟩ ?_
      refine aB (bN rfl) zU2 ?_
      refine aC (aA (bS rfl (fun h175=>?_) (fun h175=>?_)))
      ·have hF:=aV h175 hF
       refine aE (aF (aB (bE (off:=0) (k:=9) rfl tyF51_6) zU1 ?_))
       refine bG (dO 0 rfl rfl rfl tyO49.s) ⟨rfl,dX aG.cod,trivial⟩ ?_
       refine aC (aA (aF (aB (cZ (is:=[]) (xs:=[]) (ps:=[]) rfl tyB44q rfl rfl trivial rfl) trivial ?_)))
       refine aB (bE (off:=0) (k:=10) rfl tyF51_7) zU1 ?_
       refine bG (dO 0 rfl rfl rfl tyA44.s) zU2 ?_
       refine aC (aA (aF (aB (bE (off:=0) (k:=3) rfl tyF27_3) zU1 ?_)))
       refine aB (bK 1 1 rfl rfl rfl rfl (.one tyO25)) zU1 ?_
       refine aB (bK 0 18 rfl rfl rfl rfl (.agg tyA51)) zU1 ?_
       refine aB (iJ (C:=aH.cod) (xs:=[.tmp 134]) (ps:=[.va ([pI .i64 x159.kind]++[pI .i64 x159.a]++[pI .i64 x159.b]++[pI .i64 x159.edge]++(eQ x159.gap)++[pS aG.cod x159.j]++[pS aG.cod []]++(eQ 0)++(eQ x159.e))]) (zs:=[(⟨x159.kind,x159.a,x159.b,x159.edge,x159.gap,x159.j,[],0,x159.e⟩:aH)]) rfl tyS25 rfl ⟨⟨trivial,rfl⟩,trivial⟩ rfl) zU1 ?_
       obtain⟨x176,h177,hF⟩:=aP hF
       refine jD 2 rfl tyS25 rfl rfl q111 rfl rfl h177 (fun b178 c179 H180 e181=>?_)
       cases e181
       refine aB (bE (off:=0) (k:=3) rfl tyF27_3) zU1 ?_
       refine bG (dO 1 rfl rfl rfl tyO25.s) zU2 ?_
       refine aC (bJ (aA (aF (aI ?_))))
       obtain⟨v183,h184,hF⟩:=aP hF
       refine aB (bO rfl h184) ⟨rfl,bI _ _,trivial⟩ ?_
       refine bH ?_
       refine aC ?_
       exact bL (fun a w hh=>⟨x176,v183,b178,c179,(n110+[(⟨x159.kind,x159.a,x159.b,x159.edge,x159.gap,x159.j,[],0,x159.e⟩:aH)].length),hF,(cL h177 q111),bF [1,2,3,4,5,6] rfl (by decide) (by exact⟨rfl,rfl,rfl,rfl,rfl,rfl,trivial⟩) hh⟩)
      have hF:=aX h175 hF
      refine bA (aA (aF (aB (bE (off:=0) (k:=3) rfl tyF27_3) zU1 ?_)))
      refine aB (bK 1 1 rfl rfl rfl rfl (.one tyO25)) zU1 ?_
      refine aB (bK 0 18 rfl rfl rfl rfl (.agg tyA51)) zU1 ?_
      refine aB (iJ (C:=aH.cod) (xs:=[.tmp 134]) (ps:=[.va (aH.enc x159)]) (zs:=[x159]) rfl tyS25 rfl ⟨⟨trivial,rfl⟩,trivial⟩ rfl) zU1 ?_
      obtain⟨x185,h186,hF⟩:=aP hF
      refine jD 2 rfl tyS25 rfl rfl q111 rfl rfl h186 (fun b187 c188 H189 e190=>?_)
      cases e190
      refine aB (bE (off:=0) (k:=3) rfl tyF27_3) zU1 ?_
      refine bG (dO 1 rfl rfl rfl tyO25.s) zU2 ?_
      refine aC (bJ (aA (aF (aI ?_))))
      obtain⟨v192,h193,hF⟩:=aP hF
      refine aB (bO rfl h193) ⟨rfl,bI _ _,trivial⟩ ?_
      refine bH ?_
      refine aC ?_
      exact bL (fun a w hh=>⟨x185,v192,b187,c188,(n110+[x159].length),hF,(cL h186 q111),bF [1,2,3,4,5,6] rfl (by decide) (by exact⟨rfl,rfl,rfl,rfl,rfl,rfl,trivial⟩) hh⟩)
     refine aE (aF (aI ?_))
     refine aC (aA (bS rfl (fun h194=>?_) (fun h194=>?_)))
     ·have hF:=aV h194 hF
      refine aF (aI ?_)
      refine aI ?_
      obtain⟨v195,h196,hF⟩:=aP hF
      refine aB (eM rfl h196) ⟨rfl,bI _ _,trivial⟩ ?_
      obtain⟨v197,h198,hF⟩:=aP hF
      refine aB (aJ rfl (n9 h198) rfl) zU2 ?_
      refine aB (bE (off:=0) (k:=8) rfl tyF51_5) zU1 ?_
      refine bG (dO 0 rfl rfl rfl tyO49.s) zU2 ?_
      refine aC ?_
      exact bU Jj160 ⟨(⟨0,0,x113,0,0,v197,v139,v155,0⟩:aH),hF,rfl,rfl⟩ [0,1,2,3,4,5,6] rfl ⟨rfl,rfl,rfl,rfl,rfl,rfl,rfl,rfl,trivial⟩
     have hF:=aX h194 hF
     refine bA ?_
     exact bU Jj160 ⟨(⟨0,0,x113,0,0,v131,v139,v155,0⟩:aH),hF,rfl,rfl⟩ [0,1,2,3,4,5,6] rfl ⟨rfl,rfl,rfl,rfl,rfl,rfl,rfl,rfl,trivial⟩
    have hF:=aX h124 hF
    refine dI ?_
    obtain rfl:=bV hF
    exact bU Jj121 ⟨x107,b108,c109,n110,hRl120,q111,rfl,rfl⟩ [0,1,2,3,4,5] rfl zU2
   refine aE (aF (aI ?_))
   refine aC (aA (bS rfl (fun h199=>?_) (fun h199=>?_)))
   ·have hF:=aV h199 hF
    obtain⟨v202,h203,hF⟩:=aP hF
    obtain⟨v204,h205,hF⟩:=aP hF
    obtain⟨v206,h207,hF⟩:=aP hF
    obtain⟨v208,h209,hF⟩:=aP hF
    obtain⟨v210,h211,hF⟩:=aP hF
    obtain⟨v212,h213,hF⟩:=aP hF
    obtain⟨v214,h215,hF⟩:=aP hF
    refine bT [0,1,0,4,0,16,48,0,176,432,1008,2047,4095] 12 1 [.v (.vc (pP (some b30) 2)),.v (.vc (pO b70 n72 c71)),.v (.vc (pI .i64 v4)),.v (.vc (pI .i64 v202)),.v (.vc (pS cI a0)),.v (.vc (pI .i64 v204)),.v (.vc (pI .i64 v206)),.v (.vc (pS cI a0)),.v (.vc (pI .i64 v208)),.v (.vc (pI .i64 v210)),.v (.va (eQ v212)),.v (.vc (pE b70 v202 cQ.n 0))] aU ⟨d0 (bE (off:=0) (k:=2) rfl tyF27_2) zU1,d0 (bK 0 1 rfl rfl rfl rfl (.one tyO24)) zU1,d0 (aN (.inl rfl)) zU1,d0 (eM rfl h203) ⟨rfl,bI _ _,trivial⟩,d0 (aN (.inl rfl)) zU1,d0 (aJ rfl (d7 h205) rfl) ⟨rfl,bI _ _,bI _ _,trivial⟩,d0 (eM rfl h207) ⟨rfl,bI _ _,trivial⟩,d0 (aN (.inl rfl)) zU1,d0 (aJ rfl (d7 h209) rfl) ⟨rfl,bI _ _,bI _ _,trivial⟩,d0 (bO rfl h211) ⟨bI _ _,rfl,trivial⟩,d0 (aJ rfl (bY h213) rfl) zU2,d0 (cS (C:=cQ) 2 rfl tyS24 rfl q73 (aS h215).1 (aS h215).2.1) zU2,trivial⟩ (fun bs201 G200=>?_)
    obtain⟨x216,h217,hF⟩:=aP hF
    refine bG (fW 2 rfl rfl h215 h217 tyA44.s) zU2 ?_
    refine aC ?_
    exact bU Jj99 ⟨x216,hF,(cE h217 q73),rfl,rfl⟩ [0,1,2,3,4,5] rfl ⟨rfl,rfl,rfl,rfl,rfl,trivial⟩
   have hF:=aX h199 hF
   refine bA ?_
   exact bU Jj99 ⟨x69,hF,q73,rfl,rfl⟩ [0,1,2,3,4,5] rfl ⟨rfl,rfl,rfl,rfl,rfl,trivial⟩
  have hF:=aX h91 hF
  refine aM ?_
  refine aM ?_
  refine aB (bN rfl) ⟨rfl,cW _,trivial⟩ ?_
  refine bH ?_
  refine aC (aA (aE (uH (fun H E=>nP K a0 v4 x69 x75 x81=some r∧H=[⟨some b30,1,27,4,1,([pO b82 n84 c83]++[pO b76 n78 c77]++[pO b70 n72 c71]++[pO none 0 0])⟩,hO aH.cod none 0 51 0 ([]:List aH),hO cQ b70 c71 44 n72 x69,hO cQ b76 c77 44 n78 x75,hO aT.cod b82 c83 108 n84 x81,⟨some b1,1,27,4,1,([pS aT.cod ([]:List aT)]++[pS cQ ([]:List Rat)]++[pS cQ ([]:List Rat)]++[pS aH.cod ([]:List aH)])⟩]∧E=[(0,.vc (pS cI a0)),(4,.vc (pP (some b1) 0)),(5,.vc (pI .i64 v4)),(6,.vc (pP (some b30) 0)),(9,.vc (pB false))]) ?_ (fun Jj220=>?_))))
  ·rintro _ _ ⟨hF,rfl,rfl⟩
   unfold nP at hF
   refine aE (aE (aF (aB (aN (.inr rfl)) ⟨bI _ _,trivial⟩ ?_)))
   refine aC (aA (bR (cJ (fun H E=>∃(x235:List aH),∃(b236:Option Nat),∃(c237:Nat),∃(n238:Nat),nK K x69 x75 x81 x235=some r∧x235.length=n238∧H=[⟨some b30,1,27,4,1,([pO b82 n84 c83]++[pO b76 n78 c77]++[pO b70 n72 c71]++[pO b236 n238 c237])⟩,hO aH.cod b236 c237 51 n238 x235,hO cQ b70 c71 44 n72 x69,hO cQ b76 c77 44 n78 x75,hO aT.cod b82 c83 108 n84 x81,⟨some b1,1,27,4,1,([pS aT.cod ([]:List aT)]++[pS cQ ([]:List Rat)]++[pS cQ ([]:List Rat)]++[pS aH.cod ([]:List aH)])⟩]∧E=[(4,.vc (pP (some b1) 0)),(6,.vc (pP (some b30) 0))]) ?_ (fun Jj242=>?_))))
   ·rintro _ _ ⟨x235,b236,c237,n238,hF,q239,rfl,rfl⟩
    unfold nK at hF
    refine aA (aE (aF (uT 4 0 0 rfl q85 rfl rfl rfl rfl rfl ?_)))
    refine uT 3 0 1 rfl q79 rfl rfl rfl rfl rfl ?_
    refine uT 2 0 2 rfl q73 rfl rfl rfl rfl rfl ?_
    refine uT 1 0 3 rfl q239 rfl rfl rfl rfl rfl ?_
    refine aB (bK 0 4 rfl rfl rfl rfl (.agg tyA27)) zU1 ?_
    refine bG (dO 1 rfl rfl rfl tyA27.s) zU2 ?_
    refine aC (aA (a9 (a8 ?_)))
    obtain rfl:=bV hF
    exact aL (.inl rfl) Tryz.results16 (bQ 1 4 rfl rfl rfl rfl (.agg tyA27) .nil) rfl rfl
   obtain⟨x235',hL,hRl241⟩:=aP hF
   refine gB (fun k a w=>∃(x228:List aH),∃(x234:Int),∃(b229:Option Nat),∃(c230:Nat),∃(n231:Nat),eO K a0 v4 k x228 x234=some x235'∧x228.length=n231∧hs _ [⟨some b30,1,27,4,1,([pO b82 n84 c83]++[pO b76 n78 c77]++[pO b70 n72 c71]++[pO b229 n231 c230])⟩,hO aH.cod b229 c230 51 n231 x228,hO cQ b70 c71 44 n72 x69,hO cQ b76 c77 44 n78 x75,hO aT.cod b82 c83 108 n84 x81,⟨some b1,1,27,4,1,([pS aT.cod ([]:List aT)]++[pS cQ ([]:List Rat)]++[pS cQ ([]:List Rat)]++[pS aH.cod ([]:List aH)])⟩] [(0,.vc (pS cI a0)),(4,.vc (pP (some b1) 0)),(5,.vc (pI .i64 v4)),(6,.vc (pP (some b30) 0)),(9,.vc (pB false)),(10,.vc (pI .i64 x234))] a w) K (fun a w ⟨_,_,_,_,_,hF,_,_⟩=>by cases hF) (fun k a w ⟨x228,x234,b229,c230,n231,hF,q232,hh⟩=>gE ?_ hh) (fun a w hh=>⟨([]:List aH),0,none,0,0,hL,rfl,bF [0,1,2,3,4,5] rfl (by decide) (by exact⟨rfl,rfl,rfl,rfl,rfl,rfl,trivial⟩) hh⟩)
   rw [eO.eq_2] at hF
   refine aE (aE (aF (aI ?_)))
   refine aI ?_
   obtain⟨v243,h244,hF⟩:=aP hF
   refine aB (aJ rfl (d7 h244) rfl) ⟨rfl,bI _ _,bI _ _,trivial⟩ ?_
   refine aB (dQ rfl) zU2 ?_
   refine aC (aA (bS rfl (fun h245=>?_) (fun h245=>?_)))
   ·have hF:=aV h245 hF
    refine bA (aA (aE (bR (aE (aF (aI ?_))))))
    refine aI ?_
    obtain⟨v246,h247,hF⟩:=aP hF
    refine aB (pL rfl h247) ⟨bI _ _,rfl,trivial⟩ ?_
    obtain⟨v248,h249,hF⟩:=aP hF
    refine aB (bO rfl h249) ⟨bI _ _,rfl,trivial⟩ ?_
    obtain⟨v250,h251,hF⟩:=aP hF
    refine aB (aJ rfl (d7 h251) rfl) ⟨rfl,rfl,bI _ _,trivial⟩ ?_
    refine bH ?_
    refine aC (aA (aE (aF (aI ?_))))
    refine aI ?_
    obtain⟨v252,h253,hF⟩:=aP hF
    refine aB (aJ rfl (n9 h253) rfl) zU2 ?_
    refine aI ?_
    refine aI ?_
    obtain⟨v254,h255,hF⟩:=aP hF
    refine aB (pL rfl h255) ⟨bI _ _,rfl,trivial⟩ ?_
    obtain⟨v256,h257,hF⟩:=aP hF
    refine aB (bO rfl h257) ⟨bI _ _,rfl,trivial⟩ ?_
    obtain⟨v258,h259,hF⟩:=aP hF
    refine aB (aJ rfl (d7 h259) rfl) ⟨rfl,rfl,bI _ _,trivial⟩ ?_
    refine aI ?_
    obtain⟨v260,h261,hF⟩:=aP hF
    refine aB (aJ rfl (n9 h261) rfl) zU2 ?_
    refine aI ?_
    refine aI ?_
    obtain⟨v262,h263,hF⟩:=aP hF
    refine aB (pL rfl h263) ⟨bI _ _,rfl,trivial⟩ ?_
    obtain⟨v264,h265,hF⟩:=aP hF
    refine aB (bO rfl h265) ⟨bI _ _,rfl,trivial⟩ ?_
    obtain⟨v266,h267,hF⟩:=aP hF
    refine aB (aJ rfl (d7 h267) rfl) ⟨rfl,rfl,bI _ _,trivial⟩ ?_
    refine aI ?_
    refine aI ?_
    obtain⟨v268,h269,hF⟩:=aP hF
    refine aB (pL rfl h269) ⟨bI _ _,rfl,trivial⟩ ?_
    obtain⟨v270,h271,hF⟩:=aP hF
    refine aB (bO rfl h271) ⟨bI _ _,rfl,trivial⟩ ?_
    obtain⟨v272,h273,hF⟩:=aP hF
    refine aB (aJ rfl (d7 h273) rfl) ⟨rfl,rfl,bI _ _,trivial⟩ ?_
    obtain⟨v274,h275,hF⟩:=aP hF
    refine aB (bO rfl h275) ⟨bI _ _,rfl,trivial⟩ ?_
    obtain⟨v276,h277,hF⟩:=aP hF
    refine aB (aJ rfl (bY h277) rfl) zU2 ?_
    refine aI ?_
    refine aB (cZ (is:=[5,6,7,2]) (xs:=[.tmp 92,.tmp 99,.tmp 111,.tmp 112]) (ps:=[.vc (pS aG.cod v252),.vc (pS aG.cod v260),.va (eQ v276),.vc (pI .i64 x234)]) rfl tyB51q rfl rfl ⟨trivial,trivial,trivial,trivial,trivial⟩ rfl) ⟨rfl,rfl,rfl,rfl,trivial⟩ ?_
    refine bP rfl tyZ51q (fun b278=>?_)
    refine bG (dO 0 rfl rfl rfl tyA51.s) zU2 ?_
    refine aC (aA (aE (uH (fun H E=>gT K x228 x234 v250 v252 v260 v276 (eO K a0 v4 k)=some x235'∧H=[⟨some b278,1,51,18,1,([pI .i64 0]++[pI .i64 0]++[pI .i64 x234]++[pI .i64 0]++(eQ 0)++[pS aG.cod v252]++[pS aG.cod v260]++(eQ v276)++(eQ 0))⟩,⟨some b30,1,27,4,1,([pO b82 n84 c83]++[pO b76 n78 c77]++[pO b70 n72 c71]++[pO b229 n231 c230])⟩,hO aH.cod b229 c230 51 n231 x228,hO cQ b70 c71 44 n72 x69,hO cQ b76 c77 44 n78 x75,hO aT.cod b82 c83 108 n84 x81,⟨some b1,1,27,4,1,([pS aT.cod ([]:List aT)]++[pS cQ ([]:List Rat)]++[pS cQ ([]:List Rat)]++[pS aH.cod ([]:List aH)])⟩]∧E=[(0,.vc (pS cI a0)),(4,.vc (pP (some b1) 0)),(5,.vc (pI .i64 v4)),(6,.vc (pP (some b30) 0)),(9,.vc (pB false)),(10,.vc (pI .i64 x234)),(11,.vc (pI .i64 v250)),(12,.vc (pP (some b278) 0))]) ?_ (fun Jj280=>?_))))
    ·rintro _ _ ⟨hF,rfl,rfl⟩
     unfold gT at hF
     refine aE (aE (aF (aB (bE (off:=0) (k:=10) rfl tyF51_7) zU1 ?_)))
     refine aB (bK 0 4 rfl rfl rfl rfl (.agg tyA44)) zU1 ?_
     obtain⟨v281,h282,hF⟩:=aP hF
     refine aB (aJ rfl (l4 h282) rfl) zU1 ?_
     refine aB (gR rfl) ⟨rfl,bI _ _,trivial⟩ ?_
     refine aI ?_
     refine cP (fun h283=>?_) (fun h283=>?_)
     ·have hF:=aV h283 hF
      refine aM ?_
      refine aM ?_
      refine aM ?_
      refine aB (bM rfl) ⟨rfl,cW _,trivial⟩ ?_
      refine aC (aA (iO rfl ?_))
      refine aE (aF (aB (bE (off:=0) (k:=9) rfl tyF51_6) zU1 ?_))
      refine bG (dO 0 rfl rfl rfl tyO49.s) ⟨rfl,dX aG.cod,trivial⟩ ?_
      refine aC (aA (aF (aB (cZ (is:=[]) (xs:=[]) (ps:=[]) rfl tyB44q rfl rfl trivial rfl) trivial ?_)))
      refine aB (bE (off:=0) (k:=10) rfl tyF51_7) zU1 ?_
      refine bG (dO 0 rfl rfl rfl tyA44.s) zU2 ?_
      refine aC (aA (aF (aB (bE (off:=0) (k:=3) rfl tyF27_3) zU1 ?_)))
      refine aB (bK 1 1 rfl rfl rfl rfl (.one tyO25)) zU1 ?_
      refine aB (bK 0 18 rfl rfl rfl rfl (.agg tyA51)) zU1 ?_
      refine aB (iJ (C:=aH.cod) (xs:=[.tmp 134]) (ps:=[.va ([pI .i64 0]++[pI .i64 0]++[pI .i64 x234]++[pI .i64 0]++(eQ 0)++[pS aG.cod v252]++[pS aG.cod []]++(eQ 0)++(eQ 0))]) (zs:=[(⟨0,0,x234,0,0,v252,[],0,0⟩:aH)]) rfl tyS25 rfl ⟨⟨trivial,rfl⟩,trivial⟩ rfl) zU1 ?_
      obtain⟨x284,h285,hF⟩:=aP hF
      refine jD 2 rfl tyS25 rfl rfl q232 rfl rfl h285 (fun b286 c287 H288 e289=>?_)
      cases e289
      refine aB (bE (off:=0) (k:=3) rfl tyF27_3) zU1 ?_
      refine bG (dO 1 rfl rfl rfl tyO25.s) zU2 ?_
      refine aC (bJ (aA (aF (aI ?_))))
      obtain⟨v291,h292,hF⟩:=aP hF
      refine aB (bO rfl h292) ⟨rfl,bI _ _,trivial⟩ ?_
      refine bH ?_
      refine aC ?_
      exact bL (fun a w hh=>⟨x284,v291,b286,c287,(n231+[(⟨0,0,x234,0,0,v252,[],0,0⟩:aH)].length),hF,(cL h285 q232),bF [1,2,3,4,5,6] rfl (by decide) (by exact⟨rfl,rfl,rfl,rfl,rfl,rfl,trivial⟩) hh⟩)
     have hF:=aX h283 hF
     refine aY (aN (.inl rfl)) zU1 ?_
     obtain⟨v293,h294,hF⟩:=aP hF
     refine aY (rA rfl h294) ⟨rfl,bI _ _,trivial⟩ ?_
     refine aY (gR rfl) ⟨rfl,bI _ _,trivial⟩ ?_
     refine aB (bN rfl) zU2 ?_
     refine aC (aA (bS rfl (fun h295=>?_) (fun h295=>?_)))
     ·have hF:=aV h295 hF
      refine aE (aF (aB (bE (off:=0) (k:=9) rfl tyF51_6) zU1 ?_))
      refine bG (dO 0 rfl rfl rfl tyO49.s) ⟨rfl,dX aG.cod,trivial⟩ ?_
      refine aC (aA (aF (aB (cZ (is:=[]) (xs:=[]) (ps:=[]) rfl tyB44q rfl rfl trivial rfl) trivial ?_)))
      refine aB (bE (off:=0) (k:=10) rfl tyF51_7) zU1 ?_
      refine bG (dO 0 rfl rfl rfl tyA44.s) zU2 ?_
      refine aC (aA (aF (aB (bE (off:=0) (k:=3) rfl tyF27_3) zU1 ?_)))
      refine aB (bK 1 1 rfl rfl rfl rfl (.one tyO25)) zU1 ?_
      refine aB (bK 0 18 rfl rfl rfl rfl (.agg tyA51)) zU1 ?_
      refine aB (iJ (C:=aH.cod) (xs:=[.tmp 134]) (ps:=[.va ([pI .i64 0]++[pI .i64 0]++[pI .i64 x234]++[pI .i64 0]++(eQ 0)++[pS aG.cod v252]++[pS aG.cod []]++(eQ 0)++(eQ 0))]) (zs:=[(⟨0,0,x234,0,0,v252,[],0,0⟩:aH)]) rfl tyS25 rfl ⟨⟨trivial,rfl⟩,trivial⟩ rfl) zU1 ?_
      obtain⟨x296,h297,hF⟩:=aP hF
      refine jD 2 rfl tyS25 rfl rfl q232 rfl rfl h297 (fun b298 c299 H300 e301=>?_)
      cases e301
      refine aB (bE (off:=0) (k:=3) rfl tyF27_3) zU1 ?_
      refine bG (dO 1 rfl rfl rfl tyO25.s) zU2 ?_
      refine aC (bJ (aA (aF (aI ?_))))
      obtain⟨v303,h304,hF⟩:=aP hF
      refine aB (bO rfl h304) ⟨rfl,bI _ _,trivial⟩ ?_
      refine bH ?_
      refine aC ?_
      exact bL (fun a w hh=>⟨x296,v303,b298,c299,(n231+[(⟨0,0,x234,0,0,v252,[],0,0⟩:aH)].length),hF,(cL h297 q232),bF [1,2,3,4,5,6] rfl (by decide) (by exact⟨rfl,rfl,rfl,rfl,rfl,rfl,trivial⟩) hh⟩)
     have hF:=aX h295 hF
     refine bA (aA (aF (aB (bE (off:=0) (k:=3) rfl tyF27_3) zU1 ?_)))
     refine aB (bK 1 1 rfl rfl rfl rfl (.one tyO25)) zU1 ?_
     refine aB (bK 0 18 rfl rfl rfl rfl (.agg tyA51)) zU1 ?_
     refine aB (iJ (C:=aH.cod) (xs:=[.tmp 134]) (ps:=[.va ([pI .i64 0]++[pI .i64 0]++[pI .i64 x234]++[pI .i64 0]++(eQ 0)++[pS aG.cod v252]++[pS aG.cod v260]++(eQ v276)++(eQ 0))]) (zs:=[(⟨0,0,x234,0,0,v252,v260,v276,0⟩:aH)]) rfl tyS25 rfl ⟨⟨trivial,rfl⟩,trivial⟩ rfl) zU1 ?_
     obtain⟨x305,h306,hF⟩:=aP hF
     refine jD 2 rfl tyS25 rfl rfl q232 rfl rfl h306 (fun b307 c308 H309 e310=>?_)
     cases e310
     refine aB (bE (off:=0) (k:=3) rfl tyF27_3) zU1 ?_
     refine bG (dO 1 rfl rfl rfl tyO25.s) zU2 ?_
     refine aC (bJ (aA (aF (aI ?_))))
     obtain⟨v312,h313,hF⟩:=aP hF
     refine aB (bO rfl h313) ⟨rfl,bI _ _,trivial⟩ ?_
     refine bH ?_
     refine aC ?_
     exact bL (fun a w hh=>⟨x305,v312,b307,c308,(n231+[(⟨0,0,x234,0,0,v252,v260,v276,0⟩:aH)].length),hF,(cL h306 q232),bF [1,2,3,4,5,6] rfl (by decide) (by exact⟨rfl,rfl,rfl,rfl,rfl,rfl,trivial⟩) hh⟩)
    refine aE (aF (aI ?_))
    refine aC (aA (sT rfl ?_))
    refine bA ?_
    exact bU Jj280 ⟨hF,rfl,rfl⟩ [0,1,2,3,4,5,6] rfl ⟨rfl,rfl,rfl,rfl,rfl,rfl,rfl,rfl,trivial⟩
   have hF:=aX h245 hF
   refine dI ?_
   obtain rfl:=bV hF
   exact bU Jj242 ⟨x228,b229,c230,n231,hRl241,q232,rfl,rfl⟩ [0,1,2,3,4,5] rfl zU2
  refine aE (aF (aI ?_))
  refine aC (aA (sT rfl ?_))
  refine bA ?_
  exact bU Jj220 ⟨hF,rfl,rfl⟩ [0,1,2,3,4,5] rfl ⟨rfl,rfl,rfl,rfl,rfl,trivial⟩
 obtain⟨⟨x69',x75',x81'⟩,hL,hRl87⟩:=aP hF
 refine gB (fun k a w=>∃(x50:List Rat),∃(x56:List Rat),∃(x62:List aT),∃(x68:Int),∃(b51:Option Nat),∃(c52:Nat),∃(n53:Nat),∃(b57:Option Nat),∃(c58:Nat),∃(n59:Nat),∃(b63:Option Nat),∃(c64:Nat),∃(n65:Nat),iG K a0 v4 k x50 x56 x62 x68=some (x69',x75',x81')∧x50.length=n53∧x56.length=n59∧x62.length=n65∧hs _ [⟨some b30,1,27,4,1,([pO b63 n65 c64]++[pO b57 n59 c58]++[pO b51 n53 c52]++[pO none 0 0])⟩,hO aH.cod none 0 51 0 ([]:List aH),hO cQ b51 c52 44 n53 x50,hO cQ b57 c58 44 n59 x56,hO aT.cod b63 c64 108 n65 x62,⟨some b1,1,27,4,1,([pS aT.cod ([]:List aT)]++[pS cQ ([]:List Rat)]++[pS cQ ([]:List Rat)]++[pS aH.cod ([]:List aH)])⟩] [(0,.vc (pS cI a0)),(1,.vc (pB a1)),(4,.vc (pP (some b1) 0)),(5,.vc (pI .i64 v4)),(6,.vc (pP (some b30) 0)),(7,.vc (pI .i64 x68))] a w) K (fun a w ⟨_,_,_,_,_,_,_,_,_,_,_,_,_,hF,_,_,_,_⟩=>by cases hF) (fun k a w ⟨x50,x56,x62,x68,b51,c52,n53,b57,c58,n59,b63,c64,n65,hF,q54,q60,q66,hh⟩=>gE ?_ hh) (fun a w hh=>⟨([]:List Rat),([]:List Rat),([]:List aT),0,none,0,0,none,0,0,none,0,0,hL,rfl,rfl,rfl,bF [0,1,2,3,4,5] rfl (by decide) (by exact⟨rfl,rfl,rfl,rfl,rfl,rfl,trivial⟩) hh⟩)
 rw [iG.eq_2] at hF
 refine aE (aE (aF (aI ?_)))
 refine aI ?_
 refine aB (dQ rfl) zU2 ?_
 refine aC (aA (bS rfl (fun h314=>?_) (fun h314=>?_)))
 ·have hF:=aV h314 hF
  refine bA (aA (aE (bR (aE (aF (aI ?_))))))
  refine aI ?_
  obtain⟨v315,h316,hF⟩:=aP hF
  refine aB (bO rfl h316) ⟨bI _ _,rfl,trivial⟩ ?_
  obtain⟨v317,h318,hF⟩:=aP hF
  refine aB (aJ rfl (d7 h318) rfl) ⟨rfl,rfl,bI _ _,trivial⟩ ?_
  refine bH ?_
  refine aC (aA (aE ?_))
  obtain⟨v321,h322,hF⟩:=aP hF
  obtain⟨v323,h324,hF⟩:=aP hF
  obtain⟨v325,h326,hF⟩:=aP hF
  obtain⟨v327,h328,hF⟩:=aP hF
  obtain⟨v329,h330,hF⟩:=aP hF
  obtain⟨v331,h332,hF⟩:=aP hF
  refine bT [0,1,0,4,12,0,32,96,224,508,1020,2044,4095,8191,16383] 12 3 [.v (.vc (pP (some b30) 0)),.v (.vc (pO b63 n65 c64)),.v (.vc (pI .i64 v317)),.v (.vc (pI .i64 v321)),.v (.vc (pI .i64 v323)),.v (.vc (pI .i64 v317)),.v (.vc (pI .i64 v325)),.v (.vc (pI .i64 v327)),.v (.vc (pI .i64 v329)),.v (.va (eQ v331)),.v (.va ((eQ v331)++(eQ 0)++[pB false]++(eQ 0)++(eQ 0))),.v (.vc (pS aT.cod [(⟨v331,0,false,0,0⟩:aT)]))] aU ⟨d0 (bE (off:=0) (k:=0) rfl tyF27_0) zU1,d0 (bK 0 1 rfl rfl rfl rfl (.one tyO23)) zU1,d0 (aN (.inl rfl)) zU1,d0 (rA rfl h322) ⟨rfl,bI _ _,trivial⟩,d0 (bO rfl h324) ⟨bI _ _,rfl,trivial⟩,d0 (aN (.inl rfl)) zU1,d0 (sF rfl h326) ⟨rfl,bI _ _,trivial⟩,d0 (rA rfl h328) ⟨rfl,bI _ _,trivial⟩,d0 (bO rfl h330) ⟨bI _ _,rfl,trivial⟩,d0 (aJ rfl (bY h332) rfl) zU2,d0 (cZ (is:=[0]) (xs:=[.tmp 34]) (ps:=[.va (eQ v331)]) rfl tyB108q rfl rfl ⟨trivial,trivial⟩ rfl) zU1,d0 (iJ (C:=aT.cod) (xs:=[.tmp 35]) (ps:=[.va ((eQ v331)++(eQ 0)++[pB false]++(eQ 0)++(eQ 0))]) (zs:=[(⟨v331,0,false,0,0⟩:aT)]) rfl tyS23 rfl ⟨⟨trivial,rfl⟩,trivial⟩ rfl) zU1,trivial⟩ (fun bs320 G319=>?_)
  obtain⟨x333,h334,hF⟩:=aP hF
  refine jD 4 rfl tyS23 rfl rfl q66 rfl rfl h334 (fun b335 c336 H337 e338=>?_)
  cases e338
  refine aB (bE (off:=0) (k:=0) rfl tyF27_0) zU1 ?_
  refine bG (dO 0 rfl rfl rfl tyO23.s) zU2 ?_
  refine aC (aA (aE ?_))
  obtain⟨v342,h343,hF⟩:=aP hF
  obtain⟨v344,h345,hF⟩:=aP hF
  obtain⟨v346,h347,hF⟩:=aP hF
  obtain⟨v348,h349,hF⟩:=aP hF
  obtain⟨v350,h351,hF⟩:=aP hF
  obtain⟨v352,h353,hF⟩:=aP hF
  obtain⟨v354,h355,hF⟩:=aP hF
  refine bT [0,1,0,4,12,28,0,64,192,448,1020,2044,4095,8191,16383] 12 3 [.v (.vc (pP (some b30) 1)),.v (.vc (pO b57 n59 c58)),.v (.vc (pI .i64 v317)),.v (.vc (pI .i64 v342)),.v (.vc (pI .i64 v344)),.v (.vc (pI .i64 v346)),.v (.vc (pI .i64 v317)),.v (.vc (pI .i64 v348)),.v (.vc (pI .i64 v350)),.v (.vc (pI .i64 v352)),.v (.va (eQ v354)),.v (.vc (pS cQ [v354]))] aU ⟨d0 (bE (off:=0) (k:=1) rfl tyF27_1) zU1,d0 (bK 0 1 rfl rfl rfl rfl (.one tyO24)) zU1,d0 (aN (.inl rfl)) zU1,d0 (sF rfl h343) ⟨rfl,bI _ _,trivial⟩,d0 (rA rfl h345) ⟨rfl,bI _ _,trivial⟩,d0 (eM rfl h347) ⟨rfl,bI _ _,trivial⟩,d0 (aN (.inl rfl)) zU1,d0 (sF rfl h349) ⟨rfl,bI _ _,trivial⟩,d0 (rA rfl h351) ⟨rfl,bI _ _,trivial⟩,d0 (bO rfl h353) ⟨bI _ _,rfl,trivial⟩,d0 (aJ rfl (bY h355) rfl) zU2,d0 (iJ (C:=cQ) (xs:=[.tmp 49]) (ps:=[.va (eQ v354)]) (zs:=[v354]) rfl tyS24 rfl ⟨⟨trivial,rfl⟩,trivial⟩ rfl) zU1,trivial⟩ (fun bs341 G340=>?_)
  obtain⟨x356,h357,hF⟩:=aP hF
  refine jD 3 rfl tyS24 rfl rfl q60 rfl rfl h357 (fun b358 c359 H360 e361=>?_)
  cases e361
  refine aB (bE (off:=0) (k:=1) rfl tyF27_1) zU1 ?_
  refine bG (dO 0 rfl rfl rfl tyO24.s) zU2 ?_
  refine aC (aA (aF (aB (bE (off:=0) (k:=2) rfl tyF27_2) zU1 ?_)))
  refine aB (bK 0 1 rfl rfl rfl rfl (.one tyO24)) zU1 ?_
  refine aB (cZ (is:=[]) (xs:=[]) (ps:=[]) rfl tyB44q rfl rfl trivial rfl) trivial ?_
  refine aB (iJ (C:=cQ) (xs:=[.tmp 55]) (ps:=[.va (eQ 0)]) (zs:=[0]) rfl tyS24 rfl ⟨⟨trivial,rfl⟩,trivial⟩ rfl) zU1 ?_
  obtain⟨x363,h364,hF⟩:=aP hF
  refine jD 2 rfl tyS24 rfl rfl q54 rfl rfl h364 (fun b365 c366 H367 e368=>?_)
  cases e368
  refine aB (bE (off:=0) (k:=2) rfl tyF27_2) zU1 ?_
  refine bG (dO 0 rfl rfl rfl tyO24.s) zU2 ?_
  refine aC (bJ (aA (aF (aI ?_))))
  obtain⟨v370,h371,hF⟩:=aP hF
  refine aB (bO rfl h371) ⟨rfl,bI _ _,trivial⟩ ?_
  refine bH ?_
  refine aC ?_
  exact bL (fun a w hh=>⟨x363,x356,x333,v370,b365,c366,(n53+[0].length),b358,c359,(n59+[v354].length),b335,c336,(n65+[(⟨v331,0,false,0,0⟩:aT)].length),hF,(cL h364 q54),(cL h357 q60),(cL h334 q66),bF [0,1,2,3,4,5] rfl (by decide) (by exact⟨rfl,rfl,rfl,rfl,rfl,rfl,trivial⟩) hh⟩)
 have hF:=aX h314 hF
 refine dI ?_
 obtain⟨rfl,rfl,rfl⟩:=sm3 hF
 exact bU Jj88 ⟨x50,x56,x62,b51,c52,n53,b57,c58,n59,b63,c64,n65,hRl87,q54,q60,q66,rfl,rfl⟩ [0,1,2,3,4,5] rfl ⟨rfl,rfl,rfl,rfl,rfl,trivial⟩
def sS (K:Nat):Option Bool:=
 some true
def p7 (K:Nat) (a0:List Rat):Nat→Int→Option (LR Bool Unit)
 |0,_=>none
 |k+1,x2=>bif(decide (x2<(a0.length:Int))) then((dC a0 x2).bind fun v6=>(aAq v6).bind fun v9=>bif(!v9) then(some (.ret false)) else((bW (x2+1)).bind fun v12=>p7 K a0 k v12)) else(some (.go ()))
def sM (K:Nat) (a0:List Rat):Option Bool:=
 (p7 K a0 K 0).bind fun o=>match o with| .ret r=>some r| .go _=>sS K
theorem vY {K:Nat} {a0:List Rat} {r:Bool} (hF:sM K a0=some r):Ct Tryz.prog 150 [.vc (pS cQ a0)] (.vc (pB r)):=by
 unfold sM at hF
 refine bD Tryz.func150 rfl (by kernel_rfl) Tryz.ntmps150 rfl (fun w0 M0=>?_)
 refine aE (aF (aB (aN (.inr rfl)) ⟨cW _,trivial⟩ ?_))
 refine aC (aA (aE (aE (aF (aI ?_)))))
 refine aB (bX rfl tyS24) zU1 ?_
 refine aB (aN (.inl rfl)) ⟨bI _ _,trivial⟩ ?_
 refine aC (aA (bR (cJ (fun H E=>sS K=some r∧H=[]∧E=[]) ?_ (fun Jj4=>?_))))
 ·rintro _ _ ⟨hF,rfl,rfl⟩
  unfold sS at hF
  refine aA (aE (aF (aB (aN (.inr rfl)) ⟨cW _,trivial⟩ ?_)))
  refine aC (aA (a9 (a8 ?_)))
  obtain rfl:=bV hF
  exact aL (.inl rfl) Tryz.results150 (.tmp rfl .nil) rfl rfl
 obtain⟨ol3,hL,hRl3⟩:=aP hF
 refine gB (fun k a w=>∃(x2:Int),p7 K a0 k x2=some ol3∧hs _ [] [(5,.vc (pS cQ a0)),(6,.vc (pI .i64 (a0.length:Int))),(7,.vc (pI .i64 x2))] a w) K (fun a w ⟨_,hF,_⟩=>by cases hF) (fun k a w ⟨x2,hF,hh⟩=>gE ?_ hh) (fun a w hh=>⟨0,hL,bF [] rfl (by decide) (by exact⟨rfl,rfl,rfl,trivial⟩) hh⟩)
 rw [p7.eq_2] at hF
 refine aE (aF (aB (dQ rfl) zU2 ?_))
 refine aC (aA (aE (bS rfl (fun h5=>?_) (fun h5=>?_))))
 ·have hF:=aV h5 hF
  refine bA (aA (aE (bR (aE (aF ?_)))))
  obtain⟨v6,h7,hF⟩:=aP hF
  refine aB (cO rfl tyS24 h7) zU2 ?_
  refine aB (cK 4 rfl rfl (.agg tyA44)) zU1 ?_
  refine bP rfl tyZ44q (fun b8=>?_)
  refine bG (dO 0 rfl rfl rfl tyA44.s) zU2 ?_
  refine aC (aA (aE (aF (aB (bK 0 4 rfl rfl rfl rfl (.agg tyA44)) zU1 ?_))))
  obtain⟨v9,h10,hF⟩:=aP hF
  refine aB (aJ rfl (qJ h10) rfl) zU1 ?_
  refine aB (hU rfl) zU1 ?_
  refine aC (aA (bS rfl (fun h11=>?_) (fun h11=>?_)))
  ·have hF:=aV h11 hF
   refine aE (aF (aB (aN (.inr rfl)) ⟨cW _,trivial⟩ ?_))
   refine aC (aA (a9 (a8 ?_)))
   obtain rfl:=bV hF
   obtain rfl:=bV hRl3
   exact aL (.inl rfl) Tryz.results150 (.tmp rfl .nil) rfl rfl
  have hF:=aX h11 hF
  refine bA (bJ (aA (aF ?_)))
  obtain⟨v12,h13,hF⟩:=aP hF
  refine aB (bO rfl h13) ⟨rfl,bI _ _,trivial⟩ ?_
  refine aI ?_
  refine aC ?_
  exact bL (fun a w hh=>⟨v12,hF,bF [] rfl (by decide) (by exact⟨rfl,rfl,rfl,trivial⟩) hh⟩)
 have hF:=aX h5 hF
 refine dI ?_
 obtain rfl:=bV hF
 exact bU Jj4 ⟨hRl3,rfl,rfl⟩ [] rfl trivial
def r5 (K:Nat):Option Bool:=
 some true
def pJ (K:Nat) (a0:List (List Rat)) (a1:List Rat):Nat→Int→Option (LR Bool Unit)
 |0,_=>none
 |k+1,x7=>bif(decide (x7<(a0.length:Int))) then((dC a0 x7).bind fun v11=>bif((v11.length:Int) != (a1.length:Int)) then(some (.ret false)) else((sM K v11).bind fun v14=>bif(!v14) then(some (.ret false)) else((bW (x7+1)).bind fun v17=>pJ K a0 a1 k v17))) else(some (.go ()))
def tW (K:Nat) (a0:List (List Rat)) (a1:List Rat):Option Bool:=
 bif((a0.length:Int) != (a1.length:Int)) then(some false) else(bif(decide (32<(a0.length:Int))) then(some false) else((sM K a1).bind fun v3=>bif(!v3) then(some false) else((pJ K a0 a1 K 0).bind fun o=>match o with| .ret r=>some r| .go _=>r5 K)))
theorem aAw {K:Nat} {a0:List (List Rat)} {a1:List Rat} {r:Bool} (hF:tW K a0 a1=some r):Ct Tryz.prog 108 [.vc (pS (rC cQ) a0),.vc (pS cQ a1)] (.vc (pB r)):=by
 unfold tW at hF
 refine bD Tryz.func108 rfl (by kernel_rfl) Tryz.ntmps108 rfl (fun w0 M0=>?_)
 refine aE (aF (aB (aN (.inr rfl)) ⟨cW _,trivial⟩ ?_))
 refine aC (aA (aE (aE (aF (aI ?_)))))
 refine aB (bX rfl tyS62) zU1 ?_
 refine aI ?_
 refine aB (bX rfl tyS24) zU1 ?_
 refine aB (s7 rfl) zU2 ?_
 refine aI ?_
 refine cP (fun h1=>?_) (fun h1=>?_)
 ·have hF:=aV h1 hF
  refine aM ?_
  refine aM ?_
  refine aM ?_
  refine aB (bM rfl) ⟨rfl,cW _,trivial⟩ ?_
  refine aI ?_
  refine aM ?_
  refine aM ?_
  refine aM ?_
  refine aB (bM rfl) ⟨rfl,cW _,trivial⟩ ?_
  refine aC (aA (iO rfl ?_))
  refine aE (aF (aB (aN (.inr rfl)) ⟨cW _,trivial⟩ ?_))
  refine aC (aA (a9 (a8 ?_)))
  obtain rfl:=bV hF
  exact aL (.inl rfl) Tryz.results108 (.tmp rfl .nil) rfl rfl
 have hF:=aX h1 hF
 refine aY (aN (.inl rfl)) zU1 ?_
 refine aY (bX rfl tyS62) zU1 ?_
 refine aY (rV rfl) ⟨rfl,bI _ _,trivial⟩ ?_
 refine aB (bN rfl) zU2 ?_
 refine aI ?_
 refine cP (fun h2=>?_) (fun h2=>?_)
 ·have hF:=aV h2 hF
  refine aM ?_
  refine aM ?_
  refine aM ?_
  refine aB (bM rfl) ⟨rfl,cW _,trivial⟩ ?_
  refine aC (aA (iO rfl ?_))
  refine aE (aF (aB (aN (.inr rfl)) ⟨cW _,trivial⟩ ?_))
  refine aC (aA (a9 (a8 ?_)))
  obtain rfl:=bV hF
  exact aL (.inl rfl) Tryz.results108 (.tmp rfl .nil) rfl rfl
 have hF:=aX h2 hF
 refine aY (aN (.inl rfl)) zU1 ?_
 obtain⟨v3,h4,hF⟩:=aP hF
 refine aY (aJ rfl (vY h4) rfl) zU1 ?_
 refine aY (hU rfl) zU1 ?_
 refine aB (bN rfl) zU2 ?_
 refine aC (aA (bS rfl (fun h5=>?_) (fun h5=>?_)))
 ·have hF:=aV h5 hF
  refine aE (aF (aB (aN (.inr rfl)) ⟨cW _,trivial⟩ ?_))
  refine aC (aA (a9 (a8 ?_)))
  obtain rfl:=bV hF
  exact aL (.inl rfl) Tryz.results108 (.tmp rfl .nil) rfl rfl
 have hF:=aX h5 hF
 refine bA (aA (aE (aE (aF (aI ?_)))))
 refine aB (bX rfl tyS62) zU1 ?_
 refine aB (aN (.inl rfl)) ⟨bI _ _,trivial⟩ ?_
 refine aC (aA (bR (cJ (fun H E=>r5 K=some r∧H=[]∧E=[]) ?_ (fun Jj9=>?_))))
 ·rintro _ _ ⟨hF,rfl,rfl⟩
  unfold r5 at hF
  refine aA (aE (aF (aB (aN (.inr rfl)) ⟨cW _,trivial⟩ ?_)))
  refine aC (aA (a9 (a8 ?_)))
  obtain rfl:=bV hF
  exact aL (.inl rfl) Tryz.results108 (.tmp rfl .nil) rfl rfl
 obtain⟨ol8,hL,hRl8⟩:=aP hF
 refine gB (fun k a w=>∃(x7:Int),pJ K a0 a1 k x7=some ol8∧hs _ [] [(1,.vc (pS cQ a1)),(22,.vc (pS (rC cQ) a0)),(23,.vc (pI .i64 (a0.length:Int))),(24,.vc (pI .i64 x7))] a w) K (fun a w ⟨_,hF,_⟩=>by cases hF) (fun k a w ⟨x7,hF,hh⟩=>gE ?_ hh) (fun a w hh=>⟨0,hL,bF [] rfl (by decide) (by exact⟨rfl,rfl,rfl,rfl,trivial⟩) hh⟩)
 rw [pJ.eq_2] at hF
 refine aE (aF (aB (dQ rfl) zU2 ?_))
 refine aC (aA (aE (bS rfl (fun h10=>?_) (fun h10=>?_))))
 ·have hF:=aV h10 hF
  refine bA (aA (aE (bR (aE (aF ?_)))))
  obtain⟨v11,h12,hF⟩:=aP hF
  refine aB (cO rfl tyS62 h12) zU2 ?_
  refine aB (cK 1 rfl rfl (.one tyO24)) zU1 ?_
  refine bH ?_
  refine aC (aA (aE (aF (aI ?_))))
  refine aB (bX rfl tyS24) zU1 ?_
  refine aI ?_
  refine aB (bX rfl tyS24) zU1 ?_
  refine aB (s7 rfl) zU2 ?_
  refine aI ?_
  refine cP (fun h13=>?_) (fun h13=>?_)
  ·have hF:=aV h13 hF
   refine aM ?_
   refine aM ?_
   refine aM ?_
   refine aB (bM rfl) ⟨rfl,cW _,trivial⟩ ?_
   refine aC (aA (iO rfl ?_))
   refine aE (aF (aB (aN (.inr rfl)) ⟨cW _,trivial⟩ ?_))
   refine aC (aA (a9 (a8 ?_)))
   obtain rfl:=bV hF
   obtain rfl:=bV hRl8
   exact aL (.inl rfl) Tryz.results108 (.tmp rfl .nil) rfl rfl
  have hF:=aX h13 hF
  refine aY (aN (.inl rfl)) zU1 ?_
  obtain⟨v14,h15,hF⟩:=aP hF
  refine aY (aJ rfl (vY h15) rfl) zU1 ?_
  refine aY (hU rfl) zU1 ?_
  refine aB (bN rfl) zU2 ?_
  refine aC (aA (bS rfl (fun h16=>?_) (fun h16=>?_)))
  ·have hF:=aV h16 hF
   refine aE (aF (aB (aN (.inr rfl)) ⟨cW _,trivial⟩ ?_))
   refine aC (aA (a9 (a8 ?_)))
   obtain rfl:=bV hF
   obtain rfl:=bV hRl8
   exact aL (.inl rfl) Tryz.results108 (.tmp rfl .nil) rfl rfl
  have hF:=aX h16 hF
  refine bA (bJ (aA (aF ?_)))
  obtain⟨v17,h18,hF⟩:=aP hF
  refine aB (bO rfl h18) ⟨rfl,bI _ _,trivial⟩ ?_
  refine aI ?_
  refine aC ?_
  exact bL (fun a w hh=>⟨v17,hF,bF [] rfl (by decide) (by exact⟨rfl,rfl,rfl,rfl,trivial⟩) hh⟩)
 have hF:=aX h10 hF
 refine dI ?_
 obtain rfl:=bV hF
 exact bU Jj9 ⟨hRl8,rfl,rfl⟩ [] rfl trivial
def qL (K:Nat):Option Bool:=
 some false
def nA (K:Nat) (a0:List Rat):Nat→Int→Option (LR Bool Unit)
 |0,_=>none
 |k+1,x2=>bif(decide (x2<(a0.length:Int))) then((dC a0 x2).bind fun v6=>(vU v6).bind fun v9=>bif(decide (v9<0)) then(some (.ret true)) else((bW (x2+1)).bind fun v12=>nA K a0 k v12)) else(some (.go ()))
def r4 (K:Nat) (a0:List Rat):Option Bool:=
 (nA K a0 K 0).bind fun o=>match o with| .ret r=>some r| .go _=>qL K
theorem yG {K:Nat} {a0:List Rat} {r:Bool} (hF:r4 K a0=some r):Ct Tryz.prog 110 [.vc (pS cQ a0)] (.vc (pB r)):=by
 unfold r4 at hF
 refine bD Tryz.func110 rfl (by kernel_rfl) Tryz.ntmps110 rfl (fun w0 M0=>?_)
 refine aE (aF (aB (aN (.inr rfl)) ⟨cW _,trivial⟩ ?_))
 refine aC (aA (aE (aE (aF (aI ?_)))))
 refine aB (bX rfl tyS24) zU1 ?_
 refine aB (aN (.inl rfl)) ⟨bI _ _,trivial⟩ ?_
 refine aC (aA (bR (cJ (fun H E=>qL K=some r∧H=[]∧E=[]) ?_ (fun Jj4=>?_))))
 ·rintro _ _ ⟨hF,rfl,rfl⟩
  unfold qL at hF
  refine aA (aE (aF (aB (aN (.inr rfl)) ⟨cW _,trivial⟩ ?_)))
  refine aC (aA (a9 (a8 ?_)))
  obtain rfl:=bV hF
  exact aL (.inl rfl) Tryz.results110 (.tmp rfl .nil) rfl rfl
 obtain⟨ol3,hL,hRl3⟩:=aP hF
 refine gB (fun k a w=>∃(x2:Int),nA K a0 k x2=some ol3∧hs _ [] [(5,.vc (pS cQ a0)),(6,.vc (pI .i64 (a0.length:Int))),(7,.vc (pI .i64 x2))] a w) K (fun a w ⟨_,hF,_⟩=>by cases hF) (fun k a w ⟨x2,hF,hh⟩=>gE ?_ hh) (fun a w hh=>⟨0,hL,bF [] rfl (by decide) (by exact⟨rfl,rfl,rfl,trivial⟩) hh⟩)
 rw [nA.eq_2] at hF
 refine aE (aF (aB (dQ rfl) zU2 ?_))
 refine aC (aA (aE (bS rfl (fun h5=>?_) (fun h5=>?_))))
 ·have hF:=aV h5 hF
  refine bA (aA (aE (bR (aE (aF ?_)))))
  obtain⟨v6,h7,hF⟩:=aP hF
  refine aB (cO rfl tyS24 h7) zU2 ?_
  refine aB (cK 4 rfl rfl (.agg tyA44)) zU1 ?_
  refine bP rfl tyZ44q (fun b8=>?_)
  refine bG (dO 0 rfl rfl rfl tyA44.s) zU2 ?_
  refine aC (aA (aE (aF (aB (bK 0 4 rfl rfl rfl rfl (.agg tyA44)) zU1 ?_))))
  obtain⟨v9,h10,hF⟩:=aP hF
  refine aB (aJ rfl (iM h10) rfl) zU1 ?_
  refine aB (dQ rfl) ⟨rfl,bI _ _,trivial⟩ ?_
  refine aC (aA (bS rfl (fun h11=>?_) (fun h11=>?_)))
  ·have hF:=aV h11 hF
   refine aE (aF (aB (aN (.inr rfl)) ⟨cW _,trivial⟩ ?_))
   refine aC (aA (a9 (a8 ?_)))
   obtain rfl:=bV hF
   obtain rfl:=bV hRl3
   exact aL (.inl rfl) Tryz.results110 (.tmp rfl .nil) rfl rfl
  have hF:=aX h11 hF
  refine bA (bJ (aA (aF ?_)))
  obtain⟨v12,h13,hF⟩:=aP hF
  refine aB (bO rfl h13) ⟨rfl,bI _ _,trivial⟩ ?_
  refine aI ?_
  refine aC ?_
  exact bL (fun a w hh=>⟨v12,hF,bF [] rfl (by decide) (by exact⟨rfl,rfl,rfl,trivial⟩) hh⟩)
 have hF:=aX h5 hF
 refine dI ?_
 obtain rfl:=bV hF
 exact bU Jj4 ⟨hRl3,rfl,rfl⟩ [] rfl trivial
def pN (K:Nat) (a1:List Rat) (x59:List Int) (x65:List Nat) (x71:List (List Rat)):Option (Int×(List Nat)×(List Int)×(List (List Rat))):=
 some ((a1.length:Int),x65,x59,x71)
def oM (K:Nat) (a1:List Rat) (x40:List Int) (x46:List Nat) (x52:List (List Rat)) (x58:Int) (recl77:(List Int)→(List Nat)→(List (List Rat))→Int→Option ((List Int)×(List Nat)×(List (List Rat)))) (x110:List Rat):Option ((List Int)×(List Nat)×(List (List Rat))):=
 (bW (2*(a1.length:Int))).bind fun v118=>(y5 (-1) 1).bind fun v120=>(dC x110 v118).bind fun v122=>(qC x110 v118 v120).bind fun x124=>(bW (2*(a1.length:Int))).bind fun v127=>(bW (v127+1)).bind fun v129=>(dC a1 x58).bind fun v131=>(dC x124 v129).bind fun v133=>(qC x124 v129 v131).bind fun x135=>(qO x46 [x52.length]).bind fun x139=>(qO x40 [x58]).bind fun x146=>(bW (x58+1)).bind fun v153=>recl77 x146 x139 (x52++[x135]) v153
def lR (K:Nat) (a0:List (List Rat)) (a1:List Rat) (x58:Int):Nat→(List Rat)→Int→Option (List Rat)
 |0,_,_=>none
 |k+1,x103,x109=>bif(decide (x109<(a1.length:Int))) then((bW ((a1.length:Int)+x109)).bind fun v156=>(dC a0 x58).bind fun v158=>(dC v158 x109).bind fun v160=>(aBw v160).bind fun v162=>(dC x103 v156).bind fun v164=>(qC x103 v156 v162).bind fun x166=>(bW (x109+1)).bind fun v169=>lR K a0 a1 x58 k x166 v169) else(some x103)
def kA (K:Nat) (a0:List (List Rat)) (a1:List Rat):Nat→(List Int)→(List Nat)→(List (List Rat))→Int→Option ((List Int)×(List Nat)×(List (List Rat)))
 |0,_,_,_,_=>none
 |k+1,x40,x46,x52,x58=>bif(decide (x58<(a1.length:Int))) then((bW (2*(a1.length:Int))).bind fun v80=>(bW (v80+2)).bind fun v82=>(vK v82 0).bind fun x84=>(y5 1 1).bind fun v89=>(dC x84 x58).bind fun v91=>(qC x84 x58 v89).bind fun x93=>(lR K a0 a1 x58 K x93 0).bind fun x110=>oM K a1 x40 x46 x52 x58 (kA K a0 a1 k) x110) else(some (x40,x46,x52))
def r8 (K:Nat) (a0:List (List Rat)) (a1:List Rat):Option (Int×(List Nat)×(List Int)×(List (List Rat))):=
 (kA K a0 a1 K ([]:List Int) ([]:List Nat) ([]:List (List Rat)) 0).bind fun(x59,x65,x71)=>pN K a1 x59 x65 x71
theorem x0 {K:Nat} {a0:List (List Rat)} {a1:List Rat} {r:Int×(List Nat)×(List Int)×(List (List Rat))} (hF:r8 K a0 a1=some r):CtO Tryz.prog 109 [] [.vc (pS (rC cQ) a0),.vc (pS cQ a1)] (fun Ho q=>∃b1171 b1175 c1176 n1177 b1180 c1181 n1182 g1185 N1186,r.2.1.length=n1177∧r.2.2.1.length=n1182∧r.2.2.2.length=N1186∧l9 g1185 r.2.2.2∧(∀k∈r.2.1,k<N1186)∧Ho=([⟨some b1171,1,151,3,1,([pI .i64 r.1]++[pO b1175 n1177 c1176]++[pO b1180 n1182 c1181])⟩,hO (cH g1185) b1175 c1176 24 n1177 r.2.1,hO cI b1180 c1181 3 n1182 r.2.2.1]++jC cQ 44 g1185 r.2.2.2)∧q=.vc (pP (some b1171) 0)):=by
 unfold r8 at hF
 refine bD Tryz.func109 rfl (by kernel_rfl) Tryz.ntmps109 rfl (fun w0 M0=>?_)
 refine aE (aF (aB (aN (p:=.any) (.inr rfl)) ⟨fun _=>trivial,trivial⟩ ?_))
 refine aC (aA (aE (aF (aI ?_))))
 refine aB (bX rfl tyS24) zU1 ?_
 refine bH ?_
 refine aC (aA (aE (aF (aI ?_))))
 refine aJA cQ 44 ?_
 refine aBN (cH ([]:List vB)) 24 ?_
 refine aBN cI 3 ?_
 refine aB (cZ (is:=[0]) (xs:=[.tmp 12]) (ps:=[.vc (pI .i64 (a1.length:Int))]) rfl tyB151_o1_o2q rfl rfl ⟨trivial,trivial⟩ rfl) zU1 ?_
 refine cY rfl rfl trivial (fun b20=>?_)
 refine bH ?_
 refine aC (aA (aE (aE (aF (aI ?_)))))
 refine aB (aN (.inl rfl)) ⟨bI _ _,trivial⟩ ?_
 refine aC (aA (bR (cJ (fun H E=>∃(x59:List Int),∃(x65:List Nat),∃(x71:List (List Rat)),∃(b60:Option Nat),∃(c61:Nat),∃(n62:Nat),∃(b66:Option Nat),∃(c67:Nat),∃(n68:Nat),∃(g72:List vB),∃(N73:Nat),pN K a1 x59 x65 x71=some r∧x59.length=n62∧x65.length=n68∧x71.length=N73∧l9 g72 x71∧(∀k∈x65,k<N73)∧H=([⟨some b20,1,151,3,1,([pI .i64 (a1.length:Int)]++[pO b66 n68 c67]++[pO b60 n62 c61])⟩,hO cI b60 c61 3 n62 x59,hO (cH g72) b66 c67 24 n68 x65]++jC cQ 44 g72 x71)∧E=[(6,.vc (pP (some b20) 0))]) ?_ (fun Jj78=>?_))))
 ·rintro _ _ ⟨x59,x65,x71,b60,c61,n62,b66,c67,n68,g72,N73,hF,q63,q69,q74,q75,q76,rfl,rfl⟩
  unfold pN at hF
  refine aA (aE (aF (aI ?_)))
  refine bH ?_
  refine aC (aA (a9 (a8 ?_)))
  obtain rfl:=bV hF
  exact yH (.inl rfl) Tryz.results109 (.tmp rfl .nil) rfl 3 [0,2,1] rfl rfl (by decide) ⟨b20,b66,c67,n68,b60,c61,n62,g72,N73,q69,q63,q74,q75,q76,rfl,rfl⟩
 obtain⟨⟨x59',x65',x71'⟩,hL,hRl77⟩:=aP hF
 refine gB (fun k a w=>∃(x40:List Int),∃(x46:List Nat),∃(x52:List (List Rat)),∃(x58:Int),∃(b41:Option Nat),∃(c42:Nat),∃(n43:Nat),∃(b47:Option Nat),∃(c48:Nat),∃(n49:Nat),∃(g53:List vB),∃(N54:Nat),kA K a0 a1 k x40 x46 x52 x58=some (x59',x65',x71')∧x40.length=n43∧x46.length=n49∧x52.length=N54∧l9 g53 x52∧(∀k∈x46,k<N54)∧hs _ ([⟨some b20,1,151,3,1,([pI .i64 (a1.length:Int)]++[pO b47 n49 c48]++[pO b41 n43 c42])⟩,hO cI b41 c42 3 n43 x40,hO (cH g53) b47 c48 24 n49 x46]++jC cQ 44 g53 x52) [(0,.vc (pS (rC cQ) a0)),(1,.vc (pS cQ a1)),(5,.vc (pI .i64 (a1.length:Int))),(6,.vc (pP (some b20) 0)),(15,.vc (pI .i64 (a1.length:Int))),(16,.vc (pI .i64 x58))] a w) K (fun a w ⟨_,_,_,_,_,_,_,_,_,_,_,_,hF,_,_,_,_,_,_⟩=>by cases hF) (fun k a w ⟨x40,x46,x52,x58,b41,c42,n43,b47,c48,n49,g53,N54,hF,q44,q50,q55,q56,q57,hh⟩=>gE ?_ hh) (fun a w hh=>⟨([]:List Int),([]:List Nat),([]:List (List Rat)),0,none,0,0,none,0,0,([]:List vB),0,hL,rfl,rfl,(rfl),aDz,(by simp),dM 3 [0,1,2] rfl rfl (by decide) (by exact⟨rfl,rfl,rfl,rfl,rfl,rfl,trivial⟩) hh⟩)
 rw [kA.eq_2] at hF
 refine aE (aF (aB (dQ rfl) zU2 ?_))
 refine aC (aA (aE (bS rfl (fun h79=>?_) (fun h79=>?_))))
 ·have hF:=aV h79 hF
  refine bA (aA (aE (bR (aE (aF (aI ?_))))))
  refine bH ?_
  refine aC (aA (aE (aF (aI ?_))))
  obtain⟨v80,h81,hF⟩:=aP hF
  refine aB (pL rfl h81) ⟨bI _ _,rfl,trivial⟩ ?_
  obtain⟨v82,h83,hF⟩:=aP hF
  refine aB (bO rfl h83) ⟨rfl,bI _ _,trivial⟩ ?_
  obtain⟨x84,h85,hF⟩:=aP hF
  refine r6 (C:=cQ) rfl tyS24 rfl tyZ44q rfl h85 (fun b86=>?_)
  refine bH ?_
  refine aC (aA (aE (aF (aI ?_))))
  refine aI ?_
  obtain⟨v89,h90,hF⟩:=aP hF
  refine aB (aJ rfl (xS h90) rfl) ⟨bI _ _,bI _ _,trivial⟩ ?_
  obtain⟨v91,h92,hF⟩:=aP hF
  refine aB (cS (C:=cQ) 0 rfl tyS24 rfl rfl (aS h92).1 (aS h92).2.1) zU2 ?_
  obtain⟨x93,h94,hF⟩:=aP hF
  refine bG (fW 0 rfl rfl h92 h94 tyA44.s) zU2 ?_
  refine aC (aA (aE (aE (aF (aI ?_)))))
  refine aB (aN (.inl rfl)) ⟨bI _ _,trivial⟩ ?_
  refine aC (aA (bR (cJ (fun H E=>∃(x110:List Rat),oM K a1 x40 x46 x52 x58 (kA K a0 a1 k) x110=some (x59',x65',x71')∧x110.length=x84.length∧H=([hO cQ b86 x84.length 44 x84.length x110,⟨some b20,1,151,3,1,([pI .i64 (a1.length:Int)]++[pO b47 n49 c48]++[pO b41 n43 c42])⟩,hO cI b41 c42 3 n43 x40,hO (cH g53) b47 c48 24 n49 x46]++jC cQ 44 g53 x52)∧E=[(0,.vc (pS (rC cQ) a0)),(1,.vc (pS cQ a1)),(5,.vc (pI .i64 (a1.length:Int))),(6,.vc (pP (some b20) 0)),(7,.vc (pI .i64 x58)),(8,.vc (pO b86 x84.length x84.length)),(15,.vc (pI .i64 (a1.length:Int))),(16,.vc (pI .i64 x58))]) ?_ (fun Jj117=>?_))))
  ·rintro _ _ ⟨x110,hF,q114,rfl,rfl⟩
   unfold oM at hF
   refine aA (aE (aF (aI ?_)))
   refine aI ?_
   obtain⟨v118,h119,hF⟩:=aP hF
   refine aB (pL rfl h119) ⟨bI _ _,rfl,trivial⟩ ?_
   obtain⟨v120,h121,hF⟩:=aP hF
   refine aB (aJ rfl (xS h121) rfl) ⟨bI _ _,bI _ _,trivial⟩ ?_
   obtain⟨v122,h123,hF⟩:=aP hF
   refine aB (cS (C:=cQ) 0 rfl tyS24 rfl q114 (aS h123).1 (aS h123).2.1) zU2 ?_
   obtain⟨x124,h125,hF⟩:=aP hF
   refine bG (fW 0 rfl rfl h123 h125 tyA44.s) zU2 ?_
   refine aC (aA (aE (aF (aI ?_))))
   refine aI ?_
   obtain⟨v127,h128,hF⟩:=aP hF
   refine aB (pL rfl h128) ⟨bI _ _,rfl,trivial⟩ ?_
   obtain⟨v129,h130,hF⟩:=aP hF
   refine aB (bO rfl h130) ⟨rfl,bI _ _,trivial⟩ ?_
   refine aI ?_
   refine aI ?_
   obtain⟨v131,h132,hF⟩:=aP hF
   refine aB (cO rfl tyS24 h132) zU2 ?_
   refine aB (cK 4 rfl rfl (.agg tyA44)) zU1 ?_
   obtain⟨v133,h134,hF⟩:=aP hF
   refine aB (cS (C:=cQ) 0 rfl tyS24 rfl (cE h125 q114) (aS h134).1 (aS h134).2.1) zU2 ?_
   obtain⟨x135,h136,hF⟩:=aP hF
   refine bG (fW 0 rfl rfl h134 h136 tyA44.s) zU2 ?_
   refine aC (aA (aE (aF (aI ?_))))
   refine aI ?_
   refine aB (oK rfl) zU1 ?_
   refine aB (bE (off:=0) (k:=1) rfl tyF151_1) zU1 ?_
   refine aB (bK 1 1 rfl rfl rfl rfl (.one tyO62)) zU1 ?_
   refine aI ?_
   refine aB (aLQ (rs:=x52) rfl tyS62 q56.1 (show([hO cQ b86 x84.length 44 x84.length x135,⟨some b20,1,151,3,1,([pI .i64 (a1.length:Int)]++[pO b47 n49 c48]++[pO b41 n43 c42])⟩,hO cI b41 c42 3 n43 x40,hO (cH (g53++[(b86,x84.length,x84.length)])) b47 c48 24 n49 x46]++jC cQ 44 g53 x52)=([hO cQ b86 x84.length 44 x84.length x135,⟨some b20,1,151,3,1,([pI .i64 (a1.length:Int)]++[pO b47 n49 c48]++[pO b41 n43 c42])⟩,hO cI b41 c42 3 n43 x40,hO (cH g53) b47 c48 24 n49 x46]++jC cQ 44 g53 x52) from by rw [aFZ (N:=x52.length) (b86,x84.length,x84.length) q56.1 (aEs q55 q57)])) zU1 ?_
   refine aCC (g:=(b86,x84.length,x84.length)) 0 4 rfl rfl rfl q56 ?_
   refine aKn 8 rfl (aIA (N:=x52.length) (b86,x84.length,x84.length) q56.1) ?_
   obtain⟨x139,h140,hF⟩:=aP hF
   refine jD 2 rfl tyS62 rfl rfl q50 rfl rfl h140 (fun b141 c142 H143 e144=>?_)
   cases e144
   refine aB (oK rfl) zU1 ?_
   refine aB (bE (off:=0) (k:=1) rfl tyF151_1) zU1 ?_
   refine bG (dO 0 rfl rfl rfl tyO62.s) zU2 ?_
   refine aC (aA (aF (aI ?_)))
   refine aI ?_
   refine aB (oK rfl) zU1 ?_
   refine aB (bE (off:=0) (k:=2) rfl tyF151_2) zU1 ?_
   refine aB (bK 0 1 rfl rfl rfl rfl (.one tyO22)) zU1 ?_
   refine aI ?_
   refine aB (iJ (C:=cI) (xs:=[.tmp 74]) (ps:=[.vc (pI .i64 x58)]) (zs:=[x58]) rfl tyS22 rfl ⟨⟨trivial,rfl⟩,trivial⟩ rfl) zU1 ?_
   obtain⟨x146,h147,hF⟩:=aP hF
   refine jD 1 rfl tyS22 rfl rfl q44 rfl rfl h147 (fun b148 c149 H150 e151=>?_)
   cases e151
   refine aB (oK rfl) zU1 ?_
   refine aB (bE (off:=0) (k:=2) rfl tyF151_2) zU1 ?_
   refine bG (dO 0 rfl rfl rfl tyO22.s) zU2 ?_
   refine aC (bJ (aA (aF ?_)))
   obtain⟨v153,h154,hF⟩:=aP hF
   refine aB (bO rfl h154) ⟨rfl,bI _ _,trivial⟩ ?_
   refine aI ?_
   refine aC ?_
   exact bL (fun a w hh=>⟨x146,x139,(x52++[x135]),v153,b148,c149,(n43+[x58].length),b141,c142,(n49+[x52.length].length),(g53++[(b86,x84.length,x84.length)]),(N54+1),hF,(cL h147 q44),(cL h140 q50),(aDd q55),(yL q56 (cE h136 (cE h125 q114))),(aKE q57 q55 h140),dM 3 [0,1,2] rfl rfl (by decide) (by exact⟨rfl,rfl,rfl,rfl,rfl,rfl,trivial⟩) hh⟩)
  obtain⟨x110',hL,hRl116⟩:=aP hF
  refine gB (fun k a w=>∃(x103:List Rat),∃(x109:Int),lR K a0 a1 x58 k x103 x109=some x110'∧x103.length=x84.length∧hs _ ([hO cQ b86 x84.length 44 x84.length x103,⟨some b20,1,151,3,1,([pI .i64 (a1.length:Int)]++[pO b47 n49 c48]++[pO b41 n43 c42])⟩,hO cI b41 c42 3 n43 x40,hO (cH g53) b47 c48 24 n49 x46]++jC cQ 44 g53 x52) [(0,.vc (pS (rC cQ) a0)),(1,.vc (pS cQ a1)),(5,.vc (pI .i64 (a1.length:Int))),(6,.vc (pP (some b20) 0)),(7,.vc (pI .i64 x58)),(8,.vc (pO b86 x84.length x84.length)),(15,.vc (pI .i64 (a1.length:Int))),(16,.vc (pI .i64 x58)),(27,.vc (pI .i64 (a1.length:Int))),(28,.vc (pI .i64 x109))] a w) K (fun a w ⟨_,_,hF,_,_⟩=>by cases hF) (fun k a w ⟨x103,x109,hF,q107,hh⟩=>gE ?_ hh) (fun a w hh=>⟨x93,0,hL,(cE h94 rfl),dM 4 [0,1,2,3] rfl rfl (by decide) (by exact⟨rfl,rfl,rfl,rfl,rfl,rfl,rfl,rfl,rfl,rfl,trivial⟩) hh⟩)
  rw [lR.eq_2] at hF
  refine aE (aF (aB (dQ rfl) zU2 ?_))
  refine aC (aA (aE (bS rfl (fun h155=>?_) (fun h155=>?_))))
  ·have hF:=aV h155 hF
   refine bA (aA (aE (bR (aE (aF (aI ?_))))))
   refine bH ?_
   refine aC (aA (aF (aI ?_)))
   refine aI ?_
   refine aI ?_
   obtain⟨v156,h157,hF⟩:=aP hF
   refine aB (bO rfl h157) zU2 ?_
   refine aI ?_
   refine aI ?_
   obtain⟨v158,h159,hF⟩:=aP hF
   refine aB (cO rfl tyS62 h159) zU2 ?_
   refine aB (cK 1 rfl rfl (.one tyO24)) zU1 ?_
   refine aI ?_
   obtain⟨v160,h161,hF⟩:=aP hF
   refine aB (cO rfl tyS24 h161) zU2 ?_
   refine aB (cK 4 rfl rfl (.agg tyA44)) zU1 ?_
   obtain⟨v162,h163,hF⟩:=aP hF
   refine aB (aJ rfl (qM h163) rfl) zU1 ?_
   obtain⟨v164,h165,hF⟩:=aP hF
   refine aB (cS (C:=cQ) 0 rfl tyS24 rfl q107 (aS h165).1 (aS h165).2.1) zU2 ?_
   obtain⟨x166,h167,hF⟩:=aP hF
   refine bG (fW 0 rfl rfl h165 h167 tyA44.s) zU2 ?_
   refine aC (bJ (aA (aF ?_)))
   obtain⟨v169,h170,hF⟩:=aP hF
   refine aB (bO rfl h170) ⟨rfl,bI _ _,trivial⟩ ?_
   refine aI ?_
   refine aC ?_
   exact bL (fun a w hh=>⟨x166,v169,hF,(cE h167 q107),dM 4 [0,1,2,3] rfl rfl (by decide) (by exact⟨rfl,rfl,rfl,rfl,rfl,rfl,rfl,rfl,rfl,rfl,trivial⟩) hh⟩)
  have hF:=aX h155 hF
  refine dI ?_
  obtain rfl:=bV hF
  exact o7 Jj117 ⟨x103,hRl116,q107,rfl,rfl⟩ 4 [0,1,2,3] rfl rfl ⟨rfl,rfl,rfl,rfl,rfl,rfl,rfl,rfl,trivial⟩
 have hF:=aX h79 hF
 refine dI ?_
 obtain⟨rfl,rfl,rfl⟩:=sm3 hF
 exact o7 Jj78 ⟨x40,x46,x52,b41,c42,n43,b47,c48,n49,g53,N54,hRl77,q44,q50,q55,q56,q57,rfl,rfl⟩ 3 [0,1,2] rfl rfl zU1
def kU (K:Nat) (x69:List Rat) (x75:List Rat):Option cN:=
 some (⟨x75,x69,0⟩:cN)
def eF (K:Nat) (a0:Int) (a1:List Nat) (a2:List Int) (a3:List (List Rat)):Nat→(List Rat)→(List Rat)→Int→Option ((List Rat)×(List Rat))
 |0,_,_,_=>none
 |k+1,x56,x62,x68=>bif(decide (x68<(a2.length:Int))) then((dC a2 x68).bind fun v84=>(dC a1 x68).bind fun v88=>(bW (2*a0)).bind fun v90=>(bW (v90+1)).bind fun v92=>(dC (a3.getD v88 []) v92).bind fun v94=>bif(decide (v84<a0)) then((dC x56 v84).bind fun v97=>(qC x56 v84 v94).bind fun x99=>(bW (x68+1)).bind fun v102=>eF K a0 a1 a2 a3 k x99 x62 v102) else((bW (2*a0)).bind fun v104=>bif(decide (v84<v104)) then((bW (v84-a0)).bind fun v109=>(dC x62 v109).bind fun v111=>(qC x62 v109 v94).bind fun x113=>(bW (x68+1)).bind fun v116=>eF K a0 a1 a2 a3 k x56 x113 v116) else((bW (x68+1)).bind fun v118=>eF K a0 a1 a2 a3 k x56 x62 v118))) else(some (x56,x62))
def jT (K:Nat) (a0:Int) (a1:List Nat) (a2:List Int) (a3:List (List Rat)):Option cN:=
 (vK a0 0).bind fun x23=>(vK a0 0).bind fun x27=>(eF K a0 a1 a2 a3 K x27 x23 0).bind fun(x69,x75)=>kU K x69 x75
theorem qH {K:Nat} {a0:Int} {a1:List Nat} {a2:List Int} {a3:List (List Rat)} {r:cN} (hF:jT K a0 a1 a2 a3=some r) {p0:Nat} {b4:Option Nat} {c5 n6:Nat} {b9:Option Nat} {c10 n11:Nat} {g14:List vB} {N15:Nat} (q7:a1.length=n6) (q12:a2.length=n11) (q16:a3.length=N15) (q17:l9 g14 a3) (q18:∀k∈a1,k<N15):CtO Tryz.prog 111 ([⟨some p0,1,151,3,1,([pI .i64 a0]++[pO b4 n6 c5]++[pO b9 n11 c10])⟩,hO (cH g14) b4 c5 24 n6 a1,hO cI b9 c10 3 n11 a2]++jC cQ 44 g14 a3) [.vc (pP (some p0) 0)] (fun Ho q=>Ho=([⟨some p0,1,151,3,1,([pI .i64 a0]++[pO b4 n6 c5]++[pO b9 n11 c10])⟩,hO (cH g14) b4 c5 24 n6 a1,hO cI b9 c10 3 n11 a2]++jC cQ 44 g14 a3)∧q=.va (cN.enc r)):=by
 unfold jT at hF
 refine bD Tryz.func111 rfl (by kernel_rfl) Tryz.ntmps111 rfl (fun w0 M0=>?_)
 refine aE (aF (bP rfl tyZ68q (fun b20=>?_)))
 refine aC (aA (aE ?_))
 obtain⟨x23,h24,hF⟩:=aP hF
 obtain⟨x27,h28,hF⟩:=aP hF
 refine nJ (HsM [(0,fun G21=>([⟨some b20,1,68,3,1,([pS cQ ([]:List Rat)]++[pS cQ ([]:List Rat)]++[pI .i64 0])⟩,⟨some p0,1,151,3,1,([pI .i64 a0]++[pO b4 n6 c5]++[pO b9 n11 c10])⟩,hO (cH g14) b4 c5 24 n6 a1,hO cI b9 c10 3 n11 a2]++jC cQ 44 g14 a3)),(1,fun G21=>([hO cQ ((G21 4).1) x23.length 44 x23.length x23,⟨some b20,1,68,3,1,([pS cQ ([]:List Rat)]++[pS cQ ([]:List Rat)]++[pI .i64 0])⟩,⟨some p0,1,151,3,1,([pI .i64 a0]++[pO b4 n6 c5]++[pO b9 n11 c10])⟩,hO (cH g14) b4 c5 24 n6 a1,hO cI b9 c10 3 n11 a2]++jC cQ 44 g14 a3)),(2,fun G21=>([hO cQ ((G21 9).1) x27.length 44 x27.length x27,⟨some b20,1,68,3,1,([pS cQ ([]:List Rat)]++[pS cQ ([]:List Rat)]++[pI .i64 0])⟩,⟨some p0,1,151,3,1,([pI .i64 a0]++[pO b4 n6 c5]++[pO b9 n11 c10])⟩,hO (cH g14) b4 c5 24 n6 a1,hO cI b9 c10 3 n11 a2]++jC cQ 44 g14 a3)),(3,fun G21=>([hO cQ ((G21 9).1) x27.length 44 x27.length x27,hO cQ ((G21 4).1) x23.length 44 x23.length x23,⟨some b20,1,68,3,1,([pS cQ ([]:List Rat)]++[pS cQ ([]:List Rat)]++[pI .i64 0])⟩,⟨some p0,1,151,3,1,([pI .i64 a0]++[pO b4 n6 c5]++[pO b9 n11 c10])⟩,hO (cH g14) b4 c5 24 n6 a1,hO cI b9 c10 3 n11 a2]++jC cQ 44 g14 a3)),(7,fun G21=>([hO cQ (dB (G21 10).2) x27.length 44 x27.length x27,hO cQ ((G21 10).1) x23.length 44 x23.length x23,⟨some b20,1,68,3,1,([pS cQ ([]:List Rat)]++[pS cQ ([]:List Rat)]++[pI .i64 0])⟩,⟨some p0,1,151,3,1,([pI .i64 a0]++[pO b4 n6 c5]++[pO b9 n11 c10])⟩,hO (cH g14) b4 c5 24 n6 a1,hO cI b9 c10 3 n11 a2]++jC cQ 44 g14 a3))]) [4,9,10] [0,1,3,7,15,0,32,96,224,480,1023,0,4095] 12 1 [.v (.vc (pP (some p0) 0)),.v (.vc (pP (some p0) 0)),.v (.vc (pP (some p0) 0)),.v (.vc (pI .i64 a0)),.g (fun b _=>.vc (pO b x23.length x23.length)),.v (.vc (pP (some p0) 0)),.v (.vc (pP (some p0) 0)),.v (.vc (pP (some p0) 0)),.v (.vc (pI .i64 a0)),.g (fun b _=>.vc (pO b x27.length x27.length)),.g (fun b c=>.va ([pO b x23.length x23.length]++[pO (dB c) x27.length x27.length]++[pI .i64 0])),.a 68 ([pS cQ ([]:List Rat)]++[pS cQ ([]:List Rat)]++[pI .i64 0])] aU ⟨⟨rfl,.run (L:=[0,2]) ⟨fun G21 A=>aN (.inl rfl),fun G21 A=>aN (.inl rfl),trivial⟩ (fun G21=>zU1)⟩,⟨rfl,.run (L:=[0,2]) ⟨fun G21 A=>oK rfl,fun G21 A=>oK rfl,trivial⟩ (fun G21=>zU1)⟩,⟨rfl,.run (L:=[0,2]) ⟨fun G21 A=>bE (off:=0) (k:=0) rfl tyF151_0,fun G21 A=>bE (off:=0) (k:=0) rfl tyF151_0,trivial⟩ (fun G21=>zU1)⟩,⟨rfl,.run (L:=[0,2]) ⟨fun G21 A=>bK 1 1 rfl rfl rfl rfl (.one tyO3),fun G21 A=>bK 2 1 rfl rfl rfl rfl (.one tyO3),trivial⟩ (fun G21=>zU1)⟩,⟨rfl,.hvy [0,2] ⟨fun G21 A=>iZ (C:=cQ) rfl tyS24 rfl tyZ44q h24,fun G21 A=>rK (R:=jC cQ 44 g14 a3) [1,0,2,3,4,5] (iZ (C:=cQ) rfl tyS24 rfl tyZ44q h24) (fun b_ c_=>⟨[hO cQ (b_) x23.length 44 x23.length x23,hO cQ ((G21 9).1) x27.length 44 x27.length x27,⟨some b20,1,68,3,1,([pS cQ ([]:List Rat)]++[pS cQ ([]:List Rat)]++[pI .i64 0])⟩,⟨some p0,1,151,3,1,([pI .i64 a0]++[pO b4 n6 c5]++[pO b9 n11 c10])⟩,hO (cH g14) b4 c5 24 n6 a1,hO cI b9 c10 3 n11 a2],_,rfl,rfl,rfl⟩),trivial⟩ (fun G21=>zU1)⟩,⟨rfl,.run (L:=[0,1]) ⟨fun G21 A=>aN (.inl rfl),fun G21 A=>aN (.inl rfl),trivial⟩ (fun G21=>zU1)⟩,⟨rfl,.run (L:=[0,1]) ⟨fun G21 A=>oK rfl,fun G21 A=>oK rfl,trivial⟩ (fun G21=>zU1)⟩,⟨rfl,.run (L:=[0,1]) ⟨fun G21 A=>bE (off:=0) (k:=0) rfl tyF151_0,fun G21 A=>bE (off:=0) (k:=0) rfl tyF151_0,trivial⟩ (fun G21=>zU1)⟩,⟨rfl,.run (L:=[0,1]) ⟨fun G21 A=>bK 1 1 rfl rfl rfl rfl (.one tyO3),fun G21 A=>bK 2 1 rfl rfl rfl rfl (.one tyO3),trivial⟩ (fun G21=>zU1)⟩,⟨rfl,.hvy [0,1] ⟨fun G21 A=>iZ (C:=cQ) rfl tyS24 rfl tyZ44q h28,fun G21 A=>iZ (C:=cQ) rfl tyS24 rfl tyZ44q h28,trivial⟩ (fun G21=>zU1)⟩,⟨rfl,.hvy [3] ⟨fun G21 A=>aKT (Post:=fun b_ x_=>([hO cQ x_ x27.length 44 x27.length x27,hO cQ b_ x23.length 44 x23.length x23,⟨some b20,1,68,3,1,([pS cQ ([]:List Rat)]++[pS cQ ([]:List Rat)]++[pI .i64 0])⟩,⟨some p0,1,151,3,1,([pI .i64 a0]++[pO b4 n6 c5]++[pO b9 n11 c10])⟩,hO (cH g14) b4 c5 24 n6 a1,hO cI b9 c10 3 n11 a2]++jC cQ 44 g14 a3)++A) (out:=fun b_ x_=>.va ([pO b_ x23.length x23.length]++[pO x_ x27.length x27.length]++[pI .i64 0])) ((G21 4).1) ((G21 9).1) (cZ (is:=[0,1]) (xs:=[.tmp 11,.tmp 16]) (ps:=[.vc (pO ((G21 4).1) x23.length x23.length),.vc (pO ((G21 9).1) x27.length x27.length)]) rfl tyB68q rfl rfl ⟨trivial,trivial,trivial⟩ rfl),trivial⟩ (fun G21=>zU2)⟩,⟨rfl,.alc tyZ68q⟩,trivial⟩ (fun bs22 G21=>?_)
 refine bG (dO 0 rfl rfl rfl tyA68.s) zU2 ?_
 refine aC (aA (aE (aE (aF (aI ?_)))))
 refine aB (oK rfl) zU1 ?_
 refine aB (bE (off:=0) (k:=2) rfl tyF151_2) zU1 ?_
 refine aB (bK 4 1 rfl rfl rfl rfl (.one tyO22)) zU1 ?_
 refine aB (aB1 (C:=cI) (xs:=a2) (T:=3) rfl tyS22 q12) zU1 ?_
 refine aB (aN (.inl rfl)) ⟨bI _ _,trivial⟩ ?_
 refine aC (aA (bR (cJ (fun H E=>∃(x69:List Rat),∃(x75:List Rat),kU K x69 x75=some r∧x69.length=x27.length∧x75.length=x23.length∧H=([⟨some (bs22 11),1,68,3,1,([pO ((G21 10).1) x23.length x23.length]++[pO (dB (G21 10).2) x27.length x27.length]++[pI .i64 0])⟩,hO cQ (dB (G21 10).2) x27.length 44 x27.length x69,hO cQ ((G21 10).1) x23.length 44 x23.length x75,⟨some b20,1,68,3,1,([pS cQ ([]:List Rat)]++[pS cQ ([]:List Rat)]++[pI .i64 0])⟩,⟨some p0,1,151,3,1,([pI .i64 a0]++[pO b4 n6 c5]++[pO b9 n11 c10])⟩,hO (cH g14) b4 c5 24 n6 a1,hO cI b9 c10 3 n11 a2]++jC cQ 44 g14 a3)∧E=[(2,.vc (pP (some b20) 0)),(3,.vc (pP (some (bs22 11)) 0))]) ?_ (fun Jj82=>?_))))
 ·rintro _ _ ⟨x69,x75,hF,q73,q79,rfl,rfl⟩
  unfold kU at hF
  refine aA (aE (aF (uT 2 0 0 rfl q79 rfl rfl rfl rfl rfl ?_)))
  refine uT 1 0 1 rfl q73 rfl rfl rfl rfl rfl ?_
  refine aB (bK 0 3 rfl rfl rfl rfl (.agg tyA68)) zU1 ?_
  refine bG (dO 1 rfl rfl rfl tyA68.s) zU2 ?_
  refine aC (aA (a9 (a8 ?_)))
  obtain rfl:=bV hF
  exact yH (.inl rfl) Tryz.results111 (bQ 1 3 rfl rfl rfl rfl (.agg tyA68) .nil) rfl 5 [2,3,4] rfl rfl (by decide) ⟨rfl,rfl⟩
 obtain⟨⟨x69',x75'⟩,hL,hRl81⟩:=aP hF
 refine gB (fun k a w=>∃(x56:List Rat),∃(x62:List Rat),∃(x68:Int),eF K a0 a1 a2 a3 k x56 x62 x68=some (x69',x75')∧x56.length=x27.length∧x62.length=x23.length∧hs _ ([⟨some (bs22 11),1,68,3,1,([pO ((G21 10).1) x23.length x23.length]++[pO (dB (G21 10).2) x27.length x27.length]++[pI .i64 0])⟩,hO cQ (dB (G21 10).2) x27.length 44 x27.length x56,hO cQ ((G21 10).1) x23.length 44 x23.length x62,⟨some b20,1,68,3,1,([pS cQ ([]:List Rat)]++[pS cQ ([]:List Rat)]++[pI .i64 0])⟩,⟨some p0,1,151,3,1,([pI .i64 a0]++[pO b4 n6 c5]++[pO b9 n11 c10])⟩,hO (cH g14) b4 c5 24 n6 a1,hO cI b9 c10 3 n11 a2]++jC cQ 44 g14 a3) [(0,.vc (pP (some p0) 0)),(2,.vc (pP (some b20) 0)),(3,.vc (pP (some (bs22 11)) 0)),(21,.vc (pO b9 n11 c10)),(22,.vc (pI .i64 (a2.length:Int))),(23,.vc (pI .i64 x68))] a w) K (fun a w ⟨_,_,_,hF,_,_,_⟩=>by cases hF) (fun k a w ⟨x56,x62,x68,hF,q60,q66,hh⟩=>gE ?_ hh) (fun a w hh=>⟨x27,x23,0,hL,rfl,rfl,dM 7 [0,1,2,3,4,5,6] rfl rfl (by decide) (by exact⟨rfl,rfl,rfl,rfl,rfl,rfl,trivial⟩) hh⟩)
 rw [eF.eq_2] at hF
 refine aE (aF (aB (dQ rfl) zU2 ?_))
 refine aC (aA (aE (bS rfl (fun h83=>?_) (fun h83=>?_))))
 ·have hF:=aV h83 hF
  refine bA (aA (aE (bR (aE (aF (aI ?_))))))
  obtain⟨v84,h85,hF⟩:=aP hF
  refine aB (cS (C:=cI) 6 rfl tyS22 rfl q12 (aS h85).1 (aS h85).2.1) zU2 ?_
  refine aB (g9 (k:=1) 6 rfl rfl h85 rfl (.one tyO3) rfl) zU1 ?_
  refine bH ?_
  refine bH ?_
  refine aC (aA (aE ?_))
  obtain⟨v88,h89,hF⟩:=aP hF
  obtain⟨v90,h91,hF⟩:=aP hF
  obtain⟨v92,h93,hF⟩:=aP hF
  obtain⟨v94,h95,hF⟩:=aP hF
  refine bT [0,1,3,7,0,31,63,0,128,384,896,1920,3968,8191,16383,0,65535] 16 1 [.v (.vc (pP (some p0) 0)),.v (.vc (pP (some p0) 0)),.v (.vc (pP (some p0) 1)),.v (.vc (pO b4 n6 c5)),.v (.vc (pI .i64 x68)),.v (.vc (pE b4 x68 (cH g14).n 0)),.v (.vc (pO (kC g14 v88).1 (kC g14 v88).2.1 (kC g14 v88).2.2)),.v (.vc (pP (some p0) 0)),.v (.vc (pP (some p0) 0)),.v (.vc (pP (some p0) 0)),.v (.vc (pI .i64 a0)),.v (.vc (pI .i64 v90)),.v (.vc (pI .i64 v92)),.v (.vc (pE (kC g14 v88).1 v92 cQ.n 0)),.v (.va (eQ v94)),.a 44 (eQ 0)] aU ⟨d0 (aN (.inl rfl)) zU1,d0 (oK rfl) zU1,d0 (bE (off:=0) (k:=1) rfl tyF151_1) zU1,d0 (bK 4 1 rfl rfl rfl rfl (.one tyO62)) zU1,d0 (aN (.inl rfl)) zU1,d0 (cS (C:=(cH g14)) 5 rfl tyS62 rfl q7 (aS h89).1 (aS h89).2.1) zU2,d0 (g9 (C:=(cH g14)) (k:=1) 5 rfl rfl h89 rfl (.one tyO24) rfl) zU1,d0 (aN (.inl rfl)) zU1,d0 (oK rfl) zU1,d0 (bE (off:=0) (k:=0) rfl tyF151_0) zU1,d0 (bK 4 1 rfl rfl rfl rfl (.one tyO3)) zU1,d0 (pL rfl h91) ⟨bI _ _,rfl,trivial⟩,d0 (bO rfl h93) ⟨rfl,bI _ _,trivial⟩,d0 (cS (7+v88) rfl tyS24 (lB 7 rfl q17 q16 (q18 _ (cC h89))) (mC q17 q16 (q18 _ (cC h89))) (aS h95).1 (aS h95).2.1) zU2,d0 (g9 (k:=4) (7+v88) rfl (lB 7 rfl q17 q16 (q18 _ (cC h89))) h95 rfl (.agg tyA44) rfl) zU1,⟨rfl,.alc tyZ44q⟩,trivial⟩ (fun bs87 G86=>?_)
  refine bG (dO 0 rfl rfl rfl tyA44.s) zU2 ?_
  refine aC (aA (bR (aE (aF (aI ?_)))))
  refine aI ?_
  refine aB (oK rfl) zU1 ?_
  refine aB (bE (off:=0) (k:=0) rfl tyF151_0) zU1 ?_
  refine aB (bK 5 1 rfl rfl rfl rfl (.one tyO3)) zU1 ?_
  refine aB (dQ rfl) zU2 ?_
  refine bH ?_
  refine aC (aA (bS rfl (fun h96=>?_) (fun h96=>?_)))
  ·have hF:=aV h96 hF
   refine aF (aB (bE (off:=0) (k:=1) rfl tyF68_1) zU1 ?_)
   refine aB (bK 1 1 rfl rfl rfl rfl (.one tyO24)) zU1 ?_
   refine aI ?_
   refine aB (bK 0 4 rfl rfl rfl rfl (.agg tyA44)) zU1 ?_
   obtain⟨v97,h98,hF⟩:=aP hF
   refine aB (cS (C:=cQ) 2 rfl tyS24 rfl q60 (aS h98).1 (aS h98).2.1) zU2 ?_
   obtain⟨x99,h100,hF⟩:=aP hF
   refine bG (fW 2 rfl rfl h98 h100 tyA44.s) zU2 ?_
   refine aC (bJ (bJ (aA (aF ?_))))
   obtain⟨v102,h103,hF⟩:=aP hF
   refine aB (bO rfl h103) ⟨rfl,bI _ _,trivial⟩ ?_
   refine aI ?_
   refine aC ?_
   exact bL (fun a w hh=>⟨x99,x62,v102,hF,(cE h100 q60),q66,dM 8 [1,2,3,4,5,6,7] rfl rfl (by decide) (by exact⟨rfl,rfl,rfl,rfl,rfl,rfl,trivial⟩) hh⟩)
  have hF:=aX h96 hF
  refine aE (aF (aI ?_))
  refine aI ?_
  refine aB (oK rfl) zU1 ?_
  refine aB (bE (off:=0) (k:=0) rfl tyF151_0) zU1 ?_
  refine aB (bK 5 1 rfl rfl rfl rfl (.one tyO3)) zU1 ?_
  obtain⟨v104,h105,hF⟩:=aP hF
  refine aB (pL rfl h105) ⟨bI _ _,rfl,trivial⟩ ?_
  refine aB (dQ rfl) zU2 ?_
  refine bH ?_
  refine aC (aA (bS rfl (fun h106=>?_) (fun h106=>?_)))
  ·have hF:=aV h106 hF
   obtain⟨v109,h110,hF⟩:=aP hF
   obtain⟨v111,h112,hF⟩:=aP hF
   refine bT [0,1,0,0,8,24,56,124,0,511,1023] 10 1 [.v (.vc (pP (some (bs22 11)) 0)),.v (.vc (pO ((G21 10).1) x23.length x23.length)),.v (.vc (pI .i64 v84)),.v (.vc (pP (some p0) 0)),.v (.vc (pP (some p0) 0)),.v (.vc (pP (some p0) 0)),.v (.vc (pI .i64 a0)),.v (.vc (pI .i64 v109)),.v (.va (eQ v94)),.v (.vc (pE ((G21 10).1) v109 cQ.n 0))] aU ⟨d0 (bE (off:=0) (k:=0) rfl tyF68_0) zU1,d0 (bK 1 1 rfl rfl rfl rfl (.one tyO24)) zU1,d0 (aN (.inl rfl)) zU1,d0 (aN (.inl rfl)) zU1,d0 (oK rfl) zU1,d0 (bE (off:=0) (k:=0) rfl tyF151_0) zU1,d0 (bK 5 1 rfl rfl rfl rfl (.one tyO3)) zU1,d0 (eM rfl h110) zU2,d0 (bK 0 4 rfl rfl rfl rfl (.agg tyA44)) zU1,d0 (cS (C:=cQ) 3 rfl tyS24 rfl q66 (aS h112).1 (aS h112).2.1) zU2,trivial⟩ (fun bs108 G107=>?_)
   obtain⟨x113,h114,hF⟩:=aP hF
   refine bG (fW 3 rfl rfl h112 h114 tyA44.s) zU2 ?_
   refine aC (bJ (bJ (aA (aF ?_))))
   obtain⟨v116,h117,hF⟩:=aP hF
   refine aB (bO rfl h117) ⟨rfl,bI _ _,trivial⟩ ?_
   refine aI ?_
   refine aC ?_
   exact bL (fun a w hh=>⟨x56,x113,v116,hF,q60,(cE h114 q66),dM 8 [1,2,3,4,5,6,7] rfl rfl (by decide) (by exact⟨rfl,rfl,rfl,rfl,rfl,rfl,trivial⟩) hh⟩)
  have hF:=aX h106 hF
  refine bA (bJ (bJ (aA (aF ?_))))
  obtain⟨v118,h119,hF⟩:=aP hF
  refine aB (bO rfl h119) ⟨rfl,bI _ _,trivial⟩ ?_
  refine aI ?_
  refine aC ?_
  exact bL (fun a w hh=>⟨x56,x62,v118,hF,q60,q66,dM 8 [1,2,3,4,5,6,7] rfl rfl (by decide) (by exact⟨rfl,rfl,rfl,rfl,rfl,rfl,trivial⟩) hh⟩)
 have hF:=aX h83 hF
 refine dI ?_
 obtain⟨rfl,rfl⟩:=sm2 hF
 exact o7 Jj82 ⟨x56,x62,hRl81,q60,q66,rfl,rfl⟩ 7 [0,1,2,3,4,5,6] rfl rfl zU2
def lL (K:Nat):Option Bool:=
 some false
def jB (K:Nat) (a0:Int) (a1:Rat) (a2:Int) (a3:Rat) (a5:List Nat) (a7:List (List Rat)) (x23:Int) (recl24:Int→Option (LR Bool Unit)) (x28:Int):Option (LR Bool Unit):=
 (dC a5 a0).bind fun v32=>(dC (a7.getD v32 []) x28).bind fun v34=>(aKf v34 a1).bind fun v36=>(dC a5 a2).bind fun v38=>(dC (a7.getD v38 []) x28).bind fun v40=>(aKf v40 a3).bind fun v42=>(aHQ v36 v42).bind fun v44=>bif(v44 != 0) then(some (.ret (decide (v44<0)))) else((bW (x23+1)).bind fun v47=>recl24 v47)
def eN (K:Nat) (a0:Int) (a1:Rat) (a2:Int) (a3:Rat) (a4:Int) (a5:List Nat) (a7:List (List Rat)):Nat→Int→Option (LR Bool Unit)
 |0,_=>none
 |k+1,x23=>bif(decide (x23<a4)) then(bif(decide (x23<0)) then((bW (2*a4)).bind fun v50=>(bW (v50+1)).bind fun v52=>jB K a0 a1 a2 a3 a5 a7 x23 (eN K a0 a1 a2 a3 a4 a5 a7 k) v52) else(jB K a0 a1 a2 a3 a5 a7 x23 (eN K a0 a1 a2 a3 a4 a5 a7 k) x23)) else(some (.go ()))
def kO (K:Nat) (a0:Int) (a1:Rat) (a2:Int) (a3:Rat) (a4:Int) (a5:List Nat) (a6:List Int) (a7:List (List Rat)):Option Bool:=
 (eN K a0 a1 a2 a3 a4 a5 a7 K (-1)).bind fun o=>match o with| .ret r=>some r| .go _=>lL K
theorem rB {K:Nat} {a0:Int} {a1:Rat} {a2:Int} {a3:Rat} {a4:Int} {a5:List Nat} {a6:List Int} {a7:List (List Rat)} {r:Bool} (hF:kO K a0 a1 a2 a3 a4 a5 a6 a7=some r) {p0:Nat} {b4:Option Nat} {c5 n6:Nat} {b9:Option Nat} {c10 n11:Nat} {g14:List vB} {N15:Nat} (q7:a5.length=n6) (q12:a6.length=n11) (q16:a7.length=N15) (q17:l9 g14 a7) (q18:∀k∈a5,k<N15):CtO Tryz.prog 113 ([⟨some p0,1,151,3,1,([pI .i64 a4]++[pO b4 n6 c5]++[pO b9 n11 c10])⟩,hO (cH g14) b4 c5 24 n6 a5,hO cI b9 c10 3 n11 a6]++jC cQ 44 g14 a7) [.vc (pP (some p0) 0),.vc (pI .i64 a0),.va (eQ a1),.vc (pI .i64 a2),.va (eQ a3)] (fun Ho q=>Ho=([⟨some p0,1,151,3,1,([pI .i64 a4]++[pO b4 n6 c5]++[pO b9 n11 c10])⟩,hO (cH g14) b4 c5 24 n6 a5,hO cI b9 c10 3 n11 a6]++jC cQ 44 g14 a7)∧q=.vc (pB r)):=by
 unfold kO at hF
 refine bD Tryz.func113 rfl (by kernel_rfl) Tryz.ntmps113 rfl (fun w0 M0=>?_)
 refine aE (aF (cY rfl rfl trivial (fun b20=>?_)))
 refine cY rfl rfl trivial (fun b21=>?_)
 refine aB (aN (.inr rfl)) ⟨cW _,trivial⟩ ?_
 refine aC (aA (aE (aE (aF (aB (aN (.inr rfl)) ⟨bI _ _,trivial⟩ ?_)))))
 refine aC (aA (bR (cJ (fun H E=>lL K=some r∧H=([⟨some p0,1,151,3,1,([pI .i64 a4]++[pO b4 n6 c5]++[pO b9 n11 c10])⟩,hO (cH g14) b4 c5 24 n6 a5,hO cI b9 c10 3 n11 a6]++jC cQ 44 g14 a7)∧E=[]) ?_ (fun Jj25=>?_))))
 ·rintro _ _ ⟨hF,rfl,rfl⟩
  unfold lL at hF
  refine aA (aE (aF (aB (aN (.inr rfl)) ⟨cW _,trivial⟩ ?_)))
  refine aC (aA (a9 (a8 ?_)))
  obtain rfl:=bV hF
  exact yH (.inl rfl) Tryz.results113 (.tmp rfl .nil) rfl 3 [0,1,2] rfl rfl (by decide) ⟨rfl,rfl⟩
 obtain⟨ol24,hL,hRl24⟩:=aP hF
 refine gB (fun k a w=>∃(x23:Int),eN K a0 a1 a2 a3 a4 a5 a7 k x23=some ol24∧hs _ ([⟨some b21,1,44,4,1,(eQ a3)⟩,⟨some b20,1,44,4,1,(eQ a1)⟩,⟨some p0,1,151,3,1,([pI .i64 a4]++[pO b4 n6 c5]++[pO b9 n11 c10])⟩,hO (cH g14) b4 c5 24 n6 a5,hO cI b9 c10 3 n11 a6]++jC cQ 44 g14 a7) [(0,.vc (pP (some p0) 0)),(1,.vc (pI .i64 a0)),(3,.vc (pI .i64 a2)),(7,.vc (pP (some b20) 0)),(9,.vc (pP (some b21) 0)),(11,.vc (pI .i64 x23))] a w) K (fun a w ⟨_,hF,_⟩=>by cases hF) (fun k a w ⟨x23,hF,hh⟩=>gE ?_ hh) (fun a w hh=>⟨(-1),hL,dM 5 [0,1,2,3,4] rfl rfl (by decide) (by exact⟨rfl,rfl,rfl,rfl,rfl,rfl,trivial⟩) hh⟩)
 rw [eN.eq_2] at hF
 refine aE (aE (aF (aI ?_)))
 refine aI ?_
 refine aB (oK rfl) zU1 ?_
 refine aB (bE (off:=0) (k:=0) rfl tyF151_0) zU1 ?_
 refine aB (bK 2 1 rfl rfl rfl rfl (.one tyO3)) zU1 ?_
 refine aB (dQ rfl) zU2 ?_
 refine aC (aA (bS rfl (fun h26=>?_) (fun h26=>?_)))
 ·have hF:=aV h26 hF
  refine bA (aA (aE (bR (aE (aF (aI ?_))))))
  refine bH ?_
  refine aC (aA (aE (uH (fun H E=>∃(x28:Int),jB K a0 a1 a2 a3 a5 a7 x23 (eN K a0 a1 a2 a3 a4 a5 a7 k) x28=some ol24∧H=([⟨some b21,1,44,4,1,(eQ a3)⟩,⟨some b20,1,44,4,1,(eQ a1)⟩,⟨some p0,1,151,3,1,([pI .i64 a4]++[pO b4 n6 c5]++[pO b9 n11 c10])⟩,hO (cH g14) b4 c5 24 n6 a5,hO cI b9 c10 3 n11 a6]++jC cQ 44 g14 a7)∧E=[(0,.vc (pP (some p0) 0)),(1,.vc (pI .i64 a0)),(3,.vc (pI .i64 a2)),(7,.vc (pP (some b20) 0)),(9,.vc (pP (some b21) 0)),(11,.vc (pI .i64 x23)),(12,.vc (pI .i64 x28))]) ?_ (fun Jj29=>?_))))
  ·rintro _ _ ⟨x28,hF,rfl,rfl⟩
   unfold jB at hF
   refine aE ?_
   obtain⟨v32,h33,hF⟩:=aP hF
   obtain⟨v34,h35,hF⟩:=aP hF
   obtain⟨v36,h37,hF⟩:=aP hF
   obtain⟨v38,h39,hF⟩:=aP hF
   obtain⟨v40,h41,hF⟩:=aP hF
   obtain⟨v42,h43,hF⟩:=aP hF
   obtain⟨v44,h45,hF⟩:=aP hF
   refine bT (0::1::3::7::0::31::63::0::255::511::0::2047::0::4096::12288::28672::0::126976::258048::0::1044480::2093056::0::8388607::16777215::33554431::[]) 26 0 (.v (.vc (pP (some p0) 0))::.v (.vc (pP (some p0) 0))::.v (.vc (pP (some p0) 1))::.v (.vc (pO b4 n6 c5))::.v (.vc (pI .i64 a0))::.v (.vc (pE b4 a0 (cH g14).n 0))::.v (.vc (pO (kC g14 v32).1 (kC g14 v32).2.1 (kC g14 v32).2.2))::.v (.vc (pI .i64 x28))::.v (.vc (pE (kC g14 v32).1 x28 cQ.n 0))::.v (.va (eQ v34))::.v (.va (eQ a1))::.v (.va (eQ v36))::.v (.vc (pP (some p0) 0))::.v (.vc (pP (some p0) 0))::.v (.vc (pP (some p0) 1))::.v (.vc (pO b4 n6 c5))::.v (.vc (pI .i64 a2))::.v (.vc (pE b4 a2 (cH g14).n 0))::.v (.vc (pO (kC g14 v38).1 (kC g14 v38).2.1 (kC g14 v38).2.2))::.v (.vc (pI .i64 x28))::.v (.vc (pE (kC g14 v38).1 x28 cQ.n 0))::.v (.va (eQ v40))::.v (.va (eQ a3))::.v (.va (eQ v42))::.v (.vc (pI .i64 v44))::.v (.vc (pI .i64 v44))::[]) aU ⟨d0 (aN (.inl rfl)) zU1,d0 (oK rfl) zU1,d0 (bE (off:=0) (k:=1) rfl tyF151_1) zU1,d0 (bK 2 1 rfl rfl rfl rfl (.one tyO62)) zU1,d0 (aN (.inl rfl)) zU1,d0 (cS (C:=(cH g14)) 3 rfl tyS62 rfl q7 (aS h33).1 (aS h33).2.1) zU2,d0 (g9 (C:=(cH g14)) (k:=1) 3 rfl rfl h33 rfl (.one tyO24) rfl) zU1,d0 (aN (.inl rfl)) zU1,d0 (cS (5+v32) rfl tyS24 (lB 5 rfl q17 q16 (q18 _ (cC h33))) (mC q17 q16 (q18 _ (cC h33))) (aS h35).1 (aS h35).2.1) zU2,d0 (g9 (k:=4) (5+v32) rfl (lB 5 rfl q17 q16 (q18 _ (cC h33))) h35 rfl (.agg tyA44) rfl) zU1,d0 (bK 1 4 rfl rfl rfl rfl (.agg tyA44)) zU1,d0 (aJ rfl (aAQ h37) rfl) zU2,d0 (aN (.inl rfl)) zU1,d0 (oK rfl) zU1,d0 (bE (off:=0) (k:=1) rfl tyF151_1) zU1,d0 (bK 2 1 rfl rfl rfl rfl (.one tyO62)) zU1,d0 (aN (.inl rfl)) zU1,d0 (cS (C:=(cH g14)) 3 rfl tyS62 rfl q7 (aS h39).1 (aS h39).2.1) zU2,d0 (g9 (C:=(cH g14)) (k:=1) 3 rfl rfl h39 rfl (.one tyO24) rfl) zU1,d0 (aN (.inl rfl)) zU1,d0 (cS (5+v38) rfl tyS24 (lB 5 rfl q17 q16 (q18 _ (cC h39))) (mC q17 q16 (q18 _ (cC h39))) (aS h41).1 (aS h41).2.1) zU2,d0 (g9 (k:=4) (5+v38) rfl (lB 5 rfl q17 q16 (q18 _ (cC h39))) h41 rfl (.agg tyA44) rfl) zU1,d0 (bK 0 4 rfl rfl rfl rfl (.agg tyA44)) zU1,d0 (aJ rfl (aAQ h43) rfl) zU2,d0 (aJ rfl (oP h45) rfl) zU2,d0 (aN (.inr rfl)) zU1,trivial⟩ (fun bs31 G30=>?_)
   refine aC (aA (aE (aF (aI ?_))))
   refine aB (s7 rfl) ⟨rfl,bI _ _,trivial⟩ ?_
   refine aC (aA (bS rfl (fun h46=>?_) (fun h46=>?_)))
   ·have hF:=aV h46 hF
    refine aE (aF (aI ?_))
    refine aB (dQ rfl) ⟨rfl,bI _ _,trivial⟩ ?_
    refine bH ?_
    refine aC (aA (a9 (a8 ?_)))
    obtain rfl:=bV hF
    obtain rfl:=bV hRl24
    exact yH (.inl rfl) Tryz.results113 (.tmp rfl .nil) rfl 5 [2,3,4] rfl rfl (by decide) ⟨rfl,rfl⟩
   have hF:=aX h46 hF
   refine bA (bJ (aA (aF (aI ?_))))
   obtain⟨v47,h48,hF⟩:=aP hF
   refine aB (bO rfl h48) ⟨rfl,bI _ _,trivial⟩ ?_
   refine bH ?_
   refine aC ?_
   exact bL (fun a w hh=>⟨v47,hF,dM 5 [0,1,2,3,4] rfl rfl (by decide) (by exact⟨rfl,rfl,rfl,rfl,rfl,rfl,trivial⟩) hh⟩)
  refine aE (aF (aI ?_))
  refine aB (dQ rfl) ⟨rfl,bI _ _,trivial⟩ ?_
  refine aC (aA (bS rfl (fun h49=>?_) (fun h49=>?_)))
  ·have hF:=aV h49 hF
   refine aF (aI ?_)
   refine aB (oK rfl) zU1 ?_
   refine aB (bE (off:=0) (k:=0) rfl tyF151_0) zU1 ?_
   refine aB (bK 2 1 rfl rfl rfl rfl (.one tyO3)) zU1 ?_
   obtain⟨v50,h51,hF⟩:=aP hF
   refine aB (pL rfl h51) ⟨bI _ _,rfl,trivial⟩ ?_
   obtain⟨v52,h53,hF⟩:=aP hF
   refine aB (bO rfl h53) ⟨rfl,bI _ _,trivial⟩ ?_
   refine bH ?_
   refine aC ?_
   exact o7 Jj29 ⟨v52,hF,rfl,rfl⟩ 5 [0,1,2,3,4] rfl rfl ⟨rfl,rfl,rfl,rfl,rfl,rfl,rfl,trivial⟩
  have hF:=aX h49 hF
  refine bA ?_
  exact o7 Jj29 ⟨x23,hF,rfl,rfl⟩ 5 [0,1,2,3,4] rfl rfl ⟨rfl,rfl,rfl,rfl,rfl,rfl,rfl,trivial⟩
 have hF:=aX h26 hF
 refine dI ?_
 obtain rfl:=bV hF
 exact o7 Jj25 ⟨hRl24,rfl,rfl⟩ 5 [2,3,4] rfl rfl trivial
def k9 (K:Nat) (a0:Int) (a1:Int) (a4:List Int) (x57:List Nat) (x71:List (List Rat)):Option (Int×(List Nat)×(List Int)×(List (List Rat))):=
 (dC a4 a0).bind fun v77=>(dC a4 a0).bind fun v79=>(qC a4 a0 a1).bind fun x81=>some (v77,x57,x81,x71)
def kS (K:Nat) (x70:Int) (recl75:(List (List Rat))→Int→Option (List (List Rat))) (x108:List (List Rat)):Option (List (List Rat)):=
 (bW (x70+1)).bind fun v114=>recl75 x108 v114
def iH (K:Nat) (a5:List (List Rat)) (x66:List (List Rat)) (v85:Nat) (v87:Rat):Nat→(List (List Rat))→Int→Option (List (List Rat))
 |0,_,_=>none
 |k+1,x103,x107=>bif(decide (x107<((x66.getD v85 []).length:Int))) then((dC (x103.getD v85 []) x107).bind fun v119=>(dC (x103.getD a5.length []) x107).bind fun v121=>(yR v87 v121).bind fun v123=>(aDo v119 v123).bind fun v125=>(dC (x103.getD v85 []) x107).bind fun v127=>(qC (x103.getD v85 []) x107 v125).bind fun x129=>(bW (x107+1)).bind fun v132=>iH K a5 x66 v85 v87 k (x103.set v85 x129) v132) else(some x103)
def dW (K:Nat) (a0:Int) (a1:Int) (a5:List (List Rat)) (x57:List Nat):Nat→(List (List Rat))→Int→Option (List (List Rat))
 |0,_,_=>none
 |k+1,x66,x70=>bif(decide (x70<(x57.length:Int))) then((dC x57 x70).bind fun v85=>(dC (x66.getD v85 []) a1).bind fun v87=>bif(x70==a0) then((bW (x70+1)).bind fun v91=>dW K a0 a1 a5 x57 k x66 v91) else((vU v87).bind fun v93=>bif(v93==0) then((bW (x70+1)).bind fun v96=>dW K a0 a1 a5 x57 k x66 v96) else((iH K a5 x66 v85 v87 K x66 0).bind fun x108=>kS K x70 (dW K a0 a1 a5 x57 k) x108))) else(some x66)
def k8 (K:Nat) (a0:Int) (a1:Int) (a3:List Nat) (a4:List Int) (a5:List (List Rat)) (x47:List Rat):Option (Int×(List Nat)×(List Int)×(List (List Rat))):=
 (dC a3 a0).bind fun v55=>(qC a3 a0 a5.length).bind fun x57=>(dW K a0 a1 a5 x57 K (a5++[x47]) 0).bind fun x71=>k9 K a0 a1 a4 x57 x71
def iK (K:Nat) (a5:List (List Rat)) (x22:List Rat) (v27:Nat) (v30:Rat):Nat→(List Rat)→Int→Option (List Rat)
 |0,_,_=>none
 |k+1,x40,x46=>bif(decide (x46<((cpL x22 (a5.getD v27 [])).length:Int))) then((dC x40 x46).bind fun v137=>(aKf v137 v30).bind fun v139=>(dC x40 x46).bind fun v141=>(qC x40 x46 v139).bind fun x143=>(bW (x46+1)).bind fun v146=>iK K a5 x22 v27 v30 k x143 v146) else(some x40)
def nB (K:Nat) (a0:Int) (a1:Int) (a2:Int) (a3:List Nat) (a4:List Int) (a5:List (List Rat)):Option (Int×(List Nat)×(List Int)×(List (List Rat))):=
 (dC a3 a0).bind fun v20=>(vK ((a5.getD v20 []).length:Int) 0).bind fun x22=>(dC a3 a0).bind fun v27=>(dC (cpL x22 (a5.getD v27 [])) a1).bind fun v30=>(iK K a5 x22 v27 v30 K (cpL x22 (a5.getD v27 [])) 0).bind fun x47=>k8 K a0 a1 a3 a4 a5 x47
theorem uR {K:Nat} {a0:Int} {a1:Int} {a2:Int} {a3:List Nat} {a4:List Int} {a5:List (List Rat)} {r:Int×(List Nat)×(List Int)×(List (List Rat))} (hF:nB K a0 a1 a2 a3 a4 a5=some r) {p0:Nat} {b4:Option Nat} {c5 n6:Nat} {b9:Option Nat} {c10 n11:Nat} {g14:List vB} {N15:Nat} (q7:a3.length=n6) (q12:a4.length=n11) (q16:a5.length=N15) (q17:l9 g14 a5) (q18:∀k∈a3,k<N15):CtO Tryz.prog 114 ([⟨some p0,1,151,3,1,([pI .i64 a2]++[pO b4 n6 c5]++[pO b9 n11 c10])⟩,hO (cH g14) b4 c5 24 n6 a3,hO cI b9 c10 3 n11 a4]++jC cQ 44 g14 a5) [.vc (pP (some p0) 0),.vc (pI .i64 a0),.vc (pI .i64 a1)] (fun Ho q=>∃b1148 c1149 n1150 g1155 N1156,r.2.1.length=n1150∧r.2.2.1.length=n11∧r.2.2.2.length=N1156∧l9 g1155 r.2.2.2∧(∀k∈r.2.1,k<N1156)∧Ho=([⟨some p0,1,151,3,1,([pI .i64 a2]++[pO b1148 n1150 c1149]++[pO b9 n11 c10])⟩,hO (cH g1155) b1148 c1149 24 n1150 r.2.1,hO cI b9 c10 3 n11 r.2.2.1]++jC cQ 44 g1155 r.2.2.2)∧q=.vc (pI .i64 r.1)):=by
 unfold nB at hF
 refine bD Tryz.func114 rfl (by kernel_rfl) Tryz.ntmps114 rfl (fun w0 M0=>?_)
 refine aE (aF (aB (aN (.inr rfl)) ⟨bI _ _,trivial⟩ ?_))
 refine aC (aA (aGF (aE (aF (aI ?_)))))
 refine aB (oK rfl) zU1 ?_
 refine aB (bE (off:=0) (k:=1) rfl tyF151_1) zU1 ?_
 refine aB (bK 0 1 rfl rfl rfl rfl (.one tyO62)) zU1 ?_
 refine aI ?_
 obtain⟨v20,h21,hF⟩:=aP hF
 refine aB (cS (C:=(cH g14)) 1 rfl tyS62 rfl q7 (aS h21).1 (aS h21).2.1) zU2 ?_
 refine aB (g9 (C:=(cH g14)) (k:=1) 1 rfl rfl h21 rfl (.one tyO24) rfl) zU1 ?_
 refine aB (aB1 (C:=cQ) (xs:=(a5.getD v20 [])) (T:=44) rfl tyS24 (mC q17 q16 (q18 _ (cC h21)))) zU1 ?_
 obtain⟨x22,h23,hF⟩:=aP hF
 refine r6 (C:=cQ) rfl tyS24 rfl tyZ44q rfl h23 (fun b24=>?_)
 refine bH ?_
 refine aC (aA (aE (aF (aI ?_))))
 refine aI ?_
 refine aB (oK rfl) zU1 ?_
 refine aB (bE (off:=0) (k:=1) rfl tyF151_1) zU1 ?_
 refine aB (bK 1 1 rfl rfl rfl rfl (.one tyO62)) zU1 ?_
 refine aI ?_
 obtain⟨v27,h28,hF⟩:=aP hF
 refine aB (cS (C:=(cH g14)) 2 rfl tyS62 rfl q7 (aS h28).1 (aS h28).2.1) zU2 ?_
 refine aB (g9 (C:=(cH g14)) (k:=1) 2 rfl rfl h28 rfl (.one tyO24) rfl) zU1 ?_
 refine aB (aLw 0 (4+v27) rfl tyS24 rfl rfl (aBz 4 rfl q17 q16 (q18 _ (cC h28))) (mC q17 q16 (q18 _ (cC h28))) rfl) zU2 ?_
 refine aC (aA (aE (aF (aI ?_))))
 refine aI ?_
 obtain⟨v30,h31,hF⟩:=aP hF
 refine aB (cS (C:=cQ) 0 rfl tyS24 rfl (aBn rfl) (aS h31).1 (aS h31).2.1) zU2 ?_
 refine aB (g9 (k:=4) 0 rfl rfl h31 rfl (.agg tyA44) rfl) zU1 ?_
 refine bP rfl tyZ44q (fun b32=>?_)
 refine bG (dO 0 rfl rfl rfl tyA44.s) zU2 ?_
 refine aC (aA (aE (aE (aF (aI ?_)))))
 refine aB (aB1 (C:=cQ) (xs:=(cpL x22 (a5.getD v27 []))) (T:=44) rfl tyS24 (aBn rfl)) zU1 ?_
 refine aB (aN (.inl rfl)) ⟨bI _ _,trivial⟩ ?_
 refine aC (aA (bR (cJ (fun H E=>∃(x47:List Rat),k8 K a0 a1 a3 a4 a5 x47=some r∧x47.length=x22.length∧H=([hO cQ b24 x22.length 44 x22.length x47,⟨some p0,1,151,3,1,([pI .i64 a2]++[pO b4 n6 c5]++[pO b9 n11 c10])⟩,hO (cH g14) b4 c5 24 n6 a3,hO cI b9 c10 3 n11 a4]++jC cQ 44 g14 a5)∧E=[(0,.vc (pP (some p0) 0)),(1,.vc (pI .i64 a0)),(2,.vc (pI .i64 a1)),(7,.vc (pO b24 x22.length x22.length))]) ?_ (fun Jj54=>?_))))
 ·rintro _ _ ⟨x47,hF,q51,rfl,rfl⟩
  unfold k8 at hF
  refine aA (aE (aF (aI ?_)))
  refine aB (oK rfl) zU1 ?_
  refine aB (bE (off:=0) (k:=1) rfl tyF151_1) zU1 ?_
  refine aB (bK 1 1 rfl rfl rfl rfl (.one tyO62)) zU1 ?_
  refine aI ?_
  refine aI ?_
  obtain⟨v55,h56,hF⟩:=aP hF
  refine aB (cS (C:=(cH g14)) 2 rfl tyS62 rfl q7 (aS h56).1 (aS h56).2.1) zU2 ?_
  obtain⟨x57,h58,hF⟩:=aP hF
  refine aKq (show([hO cQ b24 x22.length 44 x22.length x47,⟨some p0,1,151,3,1,([pI .i64 a2]++[pO b4 n6 c5]++[pO b9 n11 c10])⟩,hO (cH (g14++[(b24,x22.length,x22.length)])) b4 c5 24 n6 a3,hO cI b9 c10 3 n11 a4]++jC cQ 44 g14 a5)=([hO cQ b24 x22.length 44 x22.length x47,⟨some p0,1,151,3,1,([pI .i64 a2]++[pO b4 n6 c5]++[pO b9 n11 c10])⟩,hO (cH g14) b4 c5 24 n6 a3,hO cI b9 c10 3 n11 a4]++jC cQ 44 g14 a5) from by rw [aFZ (N:=a5.length) (b24,x22.length,x22.length) q17.1 (aEs q16 q18)]) ?_
  refine bG (fW (C:=cH (g14++[(b24,x22.length,x22.length)])) (z':=a5.length) 2 rfl rfl h56 h58 tyO24.s (hq:=aE4 (b24,x22.length,x22.length) q17.1)) zU2 ?_
  refine aCC (g:=(b24,x22.length,x22.length)) 0 4 rfl rfl rfl q17 ?_
  refine aKn 7 rfl (aIA (N:=a5.length) (b24,x22.length,x22.length) q17.1) ?_
  refine aC (aA (aE (aGS (aA (aE (aE (aF (aI ?_))))))))
  refine aB (oK rfl) zU1 ?_
  refine aB (bE (off:=0) (k:=1) rfl tyF151_1) zU1 ?_
  refine aB (bK 0 1 rfl rfl rfl rfl (.one tyO62)) zU1 ?_
  refine aB (aB1 (C:=(cH (g14++[(b24,x22.length,x22.length)]))) (xs:=x57) (T:=24) rfl tyS62 (cE h58 q7)) zU1 ?_
  refine aB (aN (.inl rfl)) ⟨bI _ _,trivial⟩ ?_
  refine aC (aA (bR (cJ (fun H E=>∃(x71:List (List Rat)),k9 K a0 a1 a4 x57 x71=some r∧x71.length=(N15+1)∧l9 (g14++[(b24,x22.length,x22.length)]) x71∧H=([⟨some p0,1,151,3,1,([pI .i64 a2]++[pO b4 n6 c5]++[pO b9 n11 c10])⟩,hO (cH (g14++[(b24,x22.length,x22.length)])) b4 c5 24 n6 x57,hO cI b9 c10 3 n11 a4]++jC cQ 44 (g14++[(b24,x22.length,x22.length)]) x71)∧E=[(0,.vc (pP (some p0) 0)),(1,.vc (pI .i64 a0)),(2,.vc (pI .i64 a1))]) ?_ (fun Jj76=>?_))))
  ·rintro _ _ ⟨x71,hF,q72,q73,rfl,rfl⟩
   unfold k9 at hF
   refine aA (aE (aF (aI ?_)))
   refine aB (oK rfl) zU1 ?_
   refine aB (bE (off:=0) (k:=2) rfl tyF151_2) zU1 ?_
   refine aB (bK 0 1 rfl rfl rfl rfl (.one tyO22)) zU1 ?_
   refine aI ?_
   obtain⟨v77,h78,hF⟩:=aP hF
   refine aB (cS (C:=cI) 2 rfl tyS22 rfl q12 (aS h78).1 (aS h78).2.1) zU2 ?_
   refine aB (g9 (k:=1) 2 rfl rfl h78 rfl (.one tyO3) rfl) zU1 ?_
   refine bH ?_
   refine aC (aA (aE (aF (aI ?_))))
   refine aB (oK rfl) zU1 ?_
   refine aB (bE (off:=0) (k:=2) rfl tyF151_2) zU1 ?_
   refine aB (bK 0 1 rfl rfl rfl rfl (.one tyO22)) zU1 ?_
   refine aI ?_
   refine aI ?_
   obtain⟨v79,h80,hF⟩:=aP hF
   refine aB (cS (C:=cI) 2 rfl tyS22 rfl q12 (aS h80).1 (aS h80).2.1) zU2 ?_
   obtain⟨x81,h82,hF⟩:=aP hF
   refine bG (fW 2 rfl rfl h80 h82 tyO3.s) zU2 ?_
   refine aC (aA (aE (aF (aI ?_))))
   refine bH ?_
   refine aC (aA (a9 (a8 ?_)))
   obtain rfl:=bV hF
   exact yH (.inl rfl) Tryz.results114 (.tmp rfl .nil) rfl 3 [0,1,2] rfl rfl (by decide) ⟨b4,c5,n6,(g14++[(b24,x22.length,x22.length)]),(N15+1),(cE h58 q7),(cE h82 q12),q72,q73,(sK q18 h58 q16),rfl,rfl⟩
  obtain⟨x71',hL,hRl75⟩:=aP hF
  refine gB (fun k a w=>∃(x66:List (List Rat)),∃(x70:Int),dW K a0 a1 a5 x57 k x66 x70=some x71'∧x66.length=(N15+1)∧l9 (g14++[(b24,x22.length,x22.length)]) x66∧hs _ ([⟨some p0,1,151,3,1,([pI .i64 a2]++[pO b4 n6 c5]++[pO b9 n11 c10])⟩,hO (cH (g14++[(b24,x22.length,x22.length)])) b4 c5 24 n6 x57,hO cI b9 c10 3 n11 a4]++jC cQ 44 (g14++[(b24,x22.length,x22.length)]) x66) [(0,.vc (pP (some p0) 0)),(1,.vc (pI .i64 a0)),(2,.vc (pI .i64 a1)),(7,.vc (pO (kC (g14++[(b24,x22.length,x22.length)]) a5.length).1 (kC (g14++[(b24,x22.length,x22.length)]) a5.length).2.1 (kC (g14++[(b24,x22.length,x22.length)]) a5.length).2.2)),(62,.vc (pO b4 n6 c5)),(63,.vc (pI .i64 (x57.length:Int))),(64,.vc (pI .i64 x70))] a w) K (fun a w ⟨_,_,hF,_,_,_⟩=>by cases hF) (fun k a w ⟨x66,x70,hF,q67,q68,hh⟩=>gE ?_ hh) (fun a w hh=>⟨(a5++[x47]),0,hL,(aDd q16),(yL q17 q51),dM 3 [0,1,2] rfl rfl (by decide) (by exact⟨rfl,rfl,rfl,rfl,rfl,rfl,rfl,trivial⟩) hh⟩)
  rw [dW.eq_2] at hF
  refine aE (aF (aB (dQ rfl) zU2 ?_))
  refine aC (aA (aE (bS rfl (fun h84=>?_) (fun h84=>?_))))
  ·have hF:=aV h84 hF
   refine bA (aA (aE (bR (aE (aF (aI ?_))))))
   obtain⟨v85,h86,hF⟩:=aP hF
   refine aB (cS (C:=(cH (g14++[(b24,x22.length,x22.length)]))) 1 rfl tyS62 rfl (cE h58 q7) (aS h86).1 (aS h86).2.1) zU2 ?_
   refine aB (g9 (C:=(cH (g14++[(b24,x22.length,x22.length)]))) (k:=1) 1 rfl rfl h86 rfl (.one tyO24) rfl) zU1 ?_
   refine bH ?_
   refine bH ?_
   refine aC (aA (aE (aF (aI ?_))))
   refine aI ?_
   obtain⟨v87,h88,hF⟩:=aP hF
   refine aB (cS (3+v85) rfl tyS24 (aBz 3 rfl q68 q67 ((sK q18 h58 q16) _ (cC h86))) (mC q68 q67 ((sK q18 h58 q16) _ (cC h86))) (aS h88).1 (aS h88).2.1) zU2 ?_
   refine aB (g9 (k:=4) (3+v85) rfl (aBz 3 rfl q68 q67 ((sK q18 h58 q16) _ (cC h86))) h88 rfl (.agg tyA44) rfl) zU1 ?_
   refine bP rfl tyZ44q (fun b89=>?_)
   refine bG (dO 0 rfl rfl rfl tyA44.s) zU2 ?_
   refine aC (aA (aE (aE (aF (aI ?_)))))
   refine aI ?_
   refine aB (gR rfl) zU2 ?_
   refine aI ?_
   refine cP (fun h90=>?_) (fun h90=>?_)
   ·have hF:=aV h90 hF
    refine aM ?_
    refine aM ?_
    refine aM ?_
    refine aB (bM rfl) ⟨rfl,cW _,trivial⟩ ?_
    refine aC (aA (iO rfl ?_))
    refine dI (aA (aF ?_))
    obtain⟨v91,h92,hF⟩:=aP hF
    refine aB (bO rfl h92) ⟨rfl,bI _ _,trivial⟩ ?_
    refine aI ?_
    refine aC ?_
    exact bL (fun a w hh=>⟨x66,v91,hF,q67,q68,dM 4 [1,2,3] rfl rfl (by decide) (by exact⟨rfl,rfl,rfl,rfl,rfl,rfl,rfl,trivial⟩) hh⟩)
   have hF:=aX h90 hF
   refine aY (bK 0 4 rfl rfl rfl rfl (.agg tyA44)) zU1 ?_
   obtain⟨v93,h94,hF⟩:=aP hF
   refine aY (aJ rfl (iM h94) rfl) zU1 ?_
   refine aY (gR rfl) ⟨rfl,bI _ _,trivial⟩ ?_
   refine aB (bN rfl) zU2 ?_
   refine aC (aA (bS rfl (fun h95=>?_) (fun h95=>?_)))
   ·have hF:=aV h95 hF
    refine dI (aA (aF ?_))
    obtain⟨v96,h97,hF⟩:=aP hF
    refine aB (bO rfl h97) ⟨rfl,bI _ _,trivial⟩ ?_
    refine aI ?_
    refine aC ?_
    exact bL (fun a w hh=>⟨x66,v96,hF,q67,q68,dM 4 [1,2,3] rfl rfl (by decide) (by exact⟨rfl,rfl,rfl,rfl,rfl,rfl,rfl,trivial⟩) hh⟩)
   have hF:=aX h95 hF
   refine bA (aA (aE (aF (aI ?_))))
   refine aB (aB1 (C:=cQ) (xs:=(x66.getD v85 [])) (T:=44) rfl tyS24 (mC q68 q67 ((sK q18 h58 q16) _ (cC h86)))) zU1 ?_
   refine aB (aN (.inl rfl)) ⟨bI _ _,trivial⟩ ?_
   refine aC (aA (bR (cJ (fun H E=>∃(x108:List (List Rat)),kS K x70 (dW K a0 a1 a5 x57 k) x108=some x71'∧x108.length=(N15+1)∧l9 (g14++[(b24,x22.length,x22.length)]) x108∧H=([⟨some p0,1,151,3,1,([pI .i64 a2]++[pO b4 n6 c5]++[pO b9 n11 c10])⟩,hO (cH (g14++[(b24,x22.length,x22.length)])) b4 c5 24 n6 x57,hO cI b9 c10 3 n11 a4]++jC cQ 44 (g14++[(b24,x22.length,x22.length)]) x108)∧E=[(0,.vc (pP (some p0) 0)),(1,.vc (pI .i64 a0)),(2,.vc (pI .i64 a1)),(7,.vc (pO (kC (g14++[(b24,x22.length,x22.length)]) a5.length).1 (kC (g14++[(b24,x22.length,x22.length)]) a5.length).2.1 (kC (g14++[(b24,x22.length,x22.length)]) a5.length).2.2)),(62,.vc (pO b4 n6 c5)),(63,.vc (pI .i64 (x57.length:Int))),(64,.vc (pI .i64 x70)),(77,.va (eQ v87)),(78,.vc (pI .i64 v93)),(79,.vc (pB (v93==0)))]) ?_ (fun Jj113=>?_))))
   ·rintro _ _ ⟨x108,hF,q109,q110,rfl,rfl⟩
    unfold kS at hF
    refine bJ (aA (aF ?_))
    obtain⟨v114,h115,hF⟩:=aP hF
    refine aB (bO rfl h115) ⟨rfl,bI _ _,trivial⟩ ?_
    refine aI ?_
    refine aC ?_
    exact bL (fun a w hh=>⟨x108,v114,hF,q109,q110,dM 3 [0,1,2] rfl rfl (by decide) (by exact⟨rfl,rfl,rfl,rfl,rfl,rfl,rfl,trivial⟩) hh⟩)
   obtain⟨x108',hL,hRl112⟩:=aP hF
   refine gB (fun k a w=>∃(x103:List (List Rat)),∃(x107:Int),iH K a5 x66 v85 v87 k x103 x107=some x108'∧x103.length=(N15+1)∧l9 (g14++[(b24,x22.length,x22.length)]) x103∧hs _ ([⟨some b89,1,44,4,1,(eQ v87)⟩,⟨some p0,1,151,3,1,([pI .i64 a2]++[pO b4 n6 c5]++[pO b9 n11 c10])⟩,hO (cH (g14++[(b24,x22.length,x22.length)])) b4 c5 24 n6 x57,hO cI b9 c10 3 n11 a4]++jC cQ 44 (g14++[(b24,x22.length,x22.length)]) x103) [(0,.vc (pP (some p0) 0)),(1,.vc (pI .i64 a0)),(2,.vc (pI .i64 a1)),(7,.vc (pO (kC (g14++[(b24,x22.length,x22.length)]) a5.length).1 (kC (g14++[(b24,x22.length,x22.length)]) a5.length).2.1 (kC (g14++[(b24,x22.length,x22.length)]) a5.length).2.2)),(11,.vc (pO (kC (g14++[(b24,x22.length,x22.length)]) v85).1 (kC (g14++[(b24,x22.length,x22.length)]) v85).2.1 (kC (g14++[(b24,x22.length,x22.length)]) v85).2.2)),(12,.vc (pP (some b89) 0)),(62,.vc (pO b4 n6 c5)),(63,.vc (pI .i64 (x57.length:Int))),(64,.vc (pI .i64 x70)),(77,.va (eQ v87)),(78,.vc (pI .i64 v93)),(79,.vc (pB (v93==0))),(82,.vc (pI .i64 ((x66.getD v85 []).length:Int))),(83,.vc (pI .i64 x107))] a w) K (fun a w ⟨_,_,hF,_,_,_⟩=>by cases hF) (fun k a w ⟨x103,x107,hF,q104,q105,hh⟩=>gE ?_ hh) (fun a w hh=>⟨x66,0,hL,q67,q68,dM 4 [0,1,2,3] rfl rfl (by decide) (by exact⟨rfl,rfl,rfl,rfl,rfl,rfl,rfl,rfl,rfl,rfl,rfl,rfl,rfl,rfl,trivial⟩) hh⟩)
   rw [iH.eq_2] at hF
   refine aE (aF (aB (dQ rfl) zU2 ?_))
   refine aC (aA (aE (bS rfl (fun h116=>?_) (fun h116=>?_))))
   ·have hF:=aV h116 hF
    refine bA (aA (aE (bR (aE (aF (aI ?_))))))
    refine bH ?_
    refine aC (aA ?_)
    obtain⟨v119,h120,hF⟩:=aP hF
    obtain⟨v121,h122,hF⟩:=aP hF
    obtain⟨v123,h124,hF⟩:=aP hF
    obtain⟨v125,h126,hF⟩:=aP hF
    obtain⟨v127,h128,hF⟩:=aP hF
    refine bT [0,0,0,0,12,28,0,0,0,384,896,1984,4092,8191,16383] 14 1 [.v (.vc (pO (kC (g14++[(b24,x22.length,x22.length)]) v85).1 (kC (g14++[(b24,x22.length,x22.length)]) v85).2.1 (kC (g14++[(b24,x22.length,x22.length)]) v85).2.2)),.v (.vc (pI .i64 x107)),.v (.vc (pO (kC (g14++[(b24,x22.length,x22.length)]) v85).1 (kC (g14++[(b24,x22.length,x22.length)]) v85).2.1 (kC (g14++[(b24,x22.length,x22.length)]) v85).2.2)),.v (.vc (pI .i64 x107)),.v (.vc (pE (kC (g14++[(b24,x22.length,x22.length)]) v85).1 x107 cQ.n 0)),.v (.va (eQ v119)),.v (.va (eQ v87)),.v (.vc (pO (kC (g14++[(b24,x22.length,x22.length)]) a5.length).1 (kC (g14++[(b24,x22.length,x22.length)]) a5.length).2.1 (kC (g14++[(b24,x22.length,x22.length)]) a5.length).2.2)),.v (.vc (pI .i64 x107)),.v (.vc (pE (kC (g14++[(b24,x22.length,x22.length)]) a5.length).1 x107 cQ.n 0)),.v (.va (eQ v121)),.v (.va (eQ v123)),.v (.va (eQ v125)),.v (.vc (pE (kC (g14++[(b24,x22.length,x22.length)]) v85).1 x107 cQ.n 0))] aU ⟨d0 (aN (.inl rfl)) zU1,d0 (aN (.inl rfl)) zU1,d0 (aN (.inl rfl)) zU1,d0 (aN (.inl rfl)) zU1,d0 (cS (4+v85) rfl tyS24 (lB 4 rfl q105 q104 ((sK q18 h58 q16) _ (cC h86))) (mC q105 q104 ((sK q18 h58 q16) _ (cC h86))) (aS h120).1 (aS h120).2.1) zU2,d0 (g9 (k:=4) (4+v85) rfl (lB 4 rfl q105 q104 ((sK q18 h58 q16) _ (cC h86))) h120 rfl (.agg tyA44) rfl) zU1,d0 (bK 0 4 rfl rfl rfl rfl (.agg tyA44)) zU1,d0 (aN (.inl rfl)) zU1,d0 (aN (.inl rfl)) zU1,d0 (cS (4+a5.length) rfl tyS24 (lB 4 rfl q105 q104 (aEg q16)) (mC q105 q104 (aEg q16)) (aS h122).1 (aS h122).2.1) zU2,d0 (g9 (k:=4) (4+a5.length) rfl (lB 4 rfl q105 q104 (aEg q16)) h122 rfl (.agg tyA44) rfl) zU1,d0 (aJ rfl (rP h124) rfl) zU2,d0 (aJ rfl (aDm h126) rfl) zU2,d0 (cS (4+v85) rfl tyS24 (lB 4 rfl q105 q104 ((sK q18 h58 q16) _ (cC h86))) (mC q105 q104 ((sK q18 h58 q16) _ (cC h86))) (aS h128).1 (aS h128).2.1) zU2,trivial⟩ (fun bs118 G117=>?_)
    obtain⟨x129,h130,hF⟩:=aP hF
    refine bG (fW (H':=([⟨some b89,1,44,4,1,(eQ v87)⟩,⟨some p0,1,151,3,1,([pI .i64 a2]++[pO b4 n6 c5]++[pO b9 n11 c10])⟩,hO (cH (g14++[(b24,x22.length,x22.length)])) b4 c5 24 n6 x57,hO cI b9 c10 3 n11 a4]++jC cQ 44 (g14++[(b24,x22.length,x22.length)]) (x103.set v85 x129))) (4+v85) rfl (aBz 4 rfl q105 q104 ((sK q18 h58 q16) _ (cC h86))) h128 h130 tyA44.s (hH:=stN 4 rfl q105 q104 ((sK q18 h58 q16) _ (cC h86)))) zU2 ?_
    refine aC (bJ (aA (aF ?_)))
    obtain⟨v132,h133,hF⟩:=aP hF
    refine aB (bO rfl h133) ⟨rfl,bI _ _,trivial⟩ ?_
    refine aI ?_
    refine aC ?_
    exact bL (fun a w hh=>⟨(x103.set v85 x129),v132,hF,(tO q104),(wK q105 q104 ((sK q18 h58 q16) _ (cC h86)) (cE h130 rfl)),dM 4 [0,1,2,3] rfl rfl (by decide) (by exact⟨rfl,rfl,rfl,rfl,rfl,rfl,rfl,rfl,rfl,rfl,rfl,rfl,rfl,rfl,trivial⟩) hh⟩)
   have hF:=aX h116 hF
   refine dI ?_
   obtain rfl:=bV hF
   exact o7 Jj113 ⟨x103,hRl112,q104,q105,rfl,rfl⟩ 4 [1,2,3] rfl rfl ⟨rfl,rfl,rfl,rfl,rfl,rfl,rfl,rfl,rfl,rfl,trivial⟩
  have hF:=aX h84 hF
  refine dI ?_
  obtain rfl:=bV hF
  exact o7 Jj76 ⟨x66,hRl75,q67,q68,rfl,rfl⟩ 3 [0,1,2] rfl rfl ⟨rfl,rfl,rfl,trivial⟩
 obtain⟨x47',hL,hRl53⟩:=aP hF
 refine gB (fun k a w=>∃(x40:List Rat),∃(x46:Int),iK K a5 x22 v27 v30 k x40 x46=some x47'∧x40.length=x22.length∧hs _ ([⟨some b32,1,44,4,1,(eQ v30)⟩,hO cQ b24 x22.length 44 x22.length x40,⟨some p0,1,151,3,1,([pI .i64 a2]++[pO b4 n6 c5]++[pO b9 n11 c10])⟩,hO (cH g14) b4 c5 24 n6 a3,hO cI b9 c10 3 n11 a4]++jC cQ 44 g14 a5) [(0,.vc (pP (some p0) 0)),(1,.vc (pI .i64 a0)),(2,.vc (pI .i64 a1)),(7,.vc (pO b24 x22.length x22.length)),(8,.vc (pP (some b32) 0)),(38,.vc (pI .i64 ((cpL x22 (a5.getD v27 [])).length:Int))),(39,.vc (pI .i64 x46))] a w) K (fun a w ⟨_,_,hF,_,_⟩=>by cases hF) (fun k a w ⟨x40,x46,hF,q44,hh⟩=>gE ?_ hh) (fun a w hh=>⟨(cpL x22 (a5.getD v27 [])),0,hL,(aBn rfl),dM 5 [0,1,2,3,4] rfl rfl (by decide) (by exact⟨rfl,rfl,rfl,rfl,rfl,rfl,rfl,trivial⟩) hh⟩)
 rw [iK.eq_2] at hF
 refine aE (aF (aB (dQ rfl) zU2 ?_))
 refine aC (aA (aE (bS rfl (fun h134=>?_) (fun h134=>?_))))
 ·have hF:=aV h134 hF
  refine bA (aA (aE (bR (aE (aF (aI ?_))))))
  refine bH ?_
  refine aC (aA ?_)
  obtain⟨v137,h138,hF⟩:=aP hF
  obtain⟨v139,h140,hF⟩:=aP hF
  obtain⟨v141,h142,hF⟩:=aP hF
  refine bT [0,0,0,0,12,28,0,124,255,511] 9 1 [.v (.vc (pO b24 x22.length x22.length)),.v (.vc (pI .i64 x46)),.v (.vc (pO b24 x22.length x22.length)),.v (.vc (pI .i64 x46)),.v (.vc (pE b24 x46 cQ.n 0)),.v (.va (eQ v137)),.v (.va (eQ v30)),.v (.va (eQ v139)),.v (.vc (pE b24 x46 cQ.n 0))] aU ⟨d0 (aN (.inl rfl)) zU1,d0 (aN (.inl rfl)) zU1,d0 (aN (.inl rfl)) zU1,d0 (aN (.inl rfl)) zU1,d0 (cS (C:=cQ) 1 rfl tyS24 rfl q44 (aS h138).1 (aS h138).2.1) zU2,d0 (g9 (k:=4) 1 rfl rfl h138 rfl (.agg tyA44) rfl) zU1,d0 (bK 0 4 rfl rfl rfl rfl (.agg tyA44)) zU1,d0 (aJ rfl (aAQ h140) rfl) zU2,d0 (cS (C:=cQ) 1 rfl tyS24 rfl q44 (aS h142).1 (aS h142).2.1) zU2,trivial⟩ (fun bs136 G135=>?_)
  obtain⟨x143,h144,hF⟩:=aP hF
  refine bG (fW 1 rfl rfl h142 h144 tyA44.s) zU2 ?_
  refine aC (bJ (aA (aF ?_)))
  obtain⟨v146,h147,hF⟩:=aP hF
  refine aB (bO rfl h147) ⟨rfl,bI _ _,trivial⟩ ?_
  refine aI ?_
  refine aC ?_
  exact bL (fun a w hh=>⟨x143,v146,hF,(cE h144 q44),dM 5 [0,1,2,3,4] rfl rfl (by decide) (by exact⟨rfl,rfl,rfl,rfl,rfl,rfl,rfl,trivial⟩) hh⟩)
 have hF:=aX h134 hF
 refine dI ?_
 obtain rfl:=bV hF
 exact o7 Jj54 ⟨x40,hRl53,q44,rfl,rfl⟩ 5 [1,2,3,4] rfl rfl ⟨rfl,rfl,rfl,rfl,trivial⟩
def rI (K:Nat):Option (cN×Int):=
 none
def q9 (K:Nat) (x86:Int) (v90:Int×(List Nat)×(List Int)×(List (List Rat))) (x116:Int) (recl87:(List Nat)→(List Int)→(List (List Rat))→Int→Int→Int→Option (LR (cN×Int) Unit)) (x122:Int):Option (LR (cN×Int) Unit):=
 bif(decide (x122<0)) then(some (.ret ((⟨([]:List Rat),([]:List Rat),0⟩:cN),15))) else((bW (x86+1)).bind fun v126=>recl87 v90.2.1 v90.2.2.1 v90.2.2.2 x122 x116 v126)
def gP (K:Nat) (v6:Int×(List Nat)×(List Int)×(List (List Rat))) (v90:Int×(List Nat)×(List Int)×(List (List Rat))) (x116:Int):Nat→Int→Int→Option Int
 |0,_,_=>none
 |k+1,x120,x121=>bif(decide (x121<(v90.2.1.length:Int))) then((dC v90.2.1 x121).bind fun v129=>(dC (v90.2.2.2.getD v129 []) x116).bind fun v133=>(vU v133).bind fun v135=>bif(decide (0<v135)) then(bif(decide (x120<0)) then((bW (x121+1)).bind fun v139=>gP K v6 v90 x116 k x121 v139) else((dC (v90.2.2.2.getD v129 []) x116).bind fun v141=>(dC v90.2.1 x120).bind fun v143=>(dC (v90.2.2.2.getD v143 []) x116).bind fun v145=>(kO K x121 v141 x120 v145 v6.1 v90.2.1 v90.2.2.1 v90.2.2.2).bind fun v147=>bif v147 then((bW (x121+1)).bind fun v150=>gP K v6 v90 x116 k x121 v150) else((bW (x121+1)).bind fun v152=>gP K v6 v90 x116 k x120 v152))) else((bW (x121+1)).bind fun v154=>gP K v6 v90 x116 k x120 v154)) else(some x120)
def nI (K:Nat) (v6:Int×(List Nat)×(List Int)×(List (List Rat))) (x86:Int) (v90:Int×(List Nat)×(List Int)×(List (List Rat))) (recl87:(List Nat)→(List Int)→(List (List Rat))→Int→Int→Int→Option (LR (cN×Int) Unit)) (x116:Int):Option (LR (cN×Int) Unit):=
 (gP K v6 v90 x116 K (-1) 0).bind fun x122=>q9 K x86 v90 x116 recl87 x122
def iD (K:Nat) (a2:Int) (v6:Int×(List Nat)×(List Int)×(List (List Rat))):Nat→(List Nat)→(List Int)→(List (List Rat))→Int→Int→Int→Option (LR (cN×Int) Unit)
 |0,_,_,_,_,_,_=>none
 |k+1,x66,x72,x78,x84,x85,x86=>bif(x86==a2) then(some (.ret ((⟨([]:List Rat),([]:List Rat),0⟩:cN),16))) else((nB K x84 x85 v6.1 x66 x72 x78).bind fun v90=>(bW (2*v6.1)).bind fun v105=>bif(v90.1==v105) then((jT K v6.1 v90.2.1 v90.2.2.1 v90.2.2.2).bind fun v108=>(bW (x86+1)).bind fun v111=>some (.ret ((⟨v108.z,v108.w,v111⟩:cN),0))) else((bW (v90.1+v6.1)).bind fun v113=>bif(decide (v6.1≤v90.1)) then((bW (v90.1-v6.1)).bind fun v157=>nI K v6 x86 v90 (iD K a2 v6 k) v157) else(nI K v6 x86 v90 (iD K a2 v6 k) v113)))
def rH (K:Nat) (a2:Int) (v6:Int×(List Nat)×(List Int)×(List (List Rat))) (x40:Int):Option (cN×Int):=
 (bW (2*v6.1)).bind fun v43=>(iD K a2 v6 K v6.2.1 v6.2.2.1 v6.2.2.2 x40 v43 0).bind fun o=>match o with| .ret r=>some r| .go _=>rI K
def lU (K:Nat) (v6:Int×(List Nat)×(List Int)×(List (List Rat))) (v33:Rat):Nat→Int→Int→Option Int
 |0,_,_=>none
 |k+1,x38,x39=>bif(decide (x39<v6.1)) then((kO K x39 v33 x38 v33 v6.1 v6.2.1 v6.2.2.1 v6.2.2.2).bind fun v160=>bif v160 then((bW (x39+1)).bind fun v163=>lU K v6 v33 k x39 v163) else((bW (x39+1)).bind fun v165=>lU K v6 v33 k x38 v165)) else(some x38)
def tU (K:Nat) (a0:List (List Rat)) (a1:List Rat) (a2:Int):Option (cN×Int):=
 (tW K a0 a1).bind fun v2=>bif(!v2) then(some ((⟨([]:List Rat),([]:List Rat),0⟩:cN),1)) else(bif(decide (a2<0)) then(some ((⟨([]:List Rat),([]:List Rat),0⟩:cN),1)) else((r8 K a0 a1).bind fun v6=>(r4 K a1).bind fun v28=>bif(!v28) then((jT K v6.1 v6.2.1 v6.2.2.1 v6.2.2.2).bind fun v31=>some (v31,0)) else((y5 1 1).bind fun v33=>(lU K v6 v33 K 0 0).bind fun x40=>rH K a2 v6 x40)))
theorem aAp {K:Nat} {a0:List (List Rat)} {a1:List Rat} {a2:Int} {r:cN×Int} (hF:tU K a0 a1 a2=some r):Ct Tryz.prog 41 [.vc (pS (rC cQ) a0),.vc (pS cQ a1),.vc (pI .i64 a2)] (.t2 (.va (cN.enc r.1)) (.vc (pI .i64 r.2))):=by
 unfold tU at hF
 refine bD Tryz.func41 rfl (by kernel_rfl) Tryz.ntmps41 rfl (fun w0 M0=>?_)
 refine aE (aF (bP rfl tyZ68q (fun b1=>?_)))
 refine aB (aN (.inr rfl)) ⟨bI _ _,trivial⟩ ?_
 refine aC (aA (aE (aE (aF (aI ?_)))))
 refine aI ?_
 obtain⟨v2,h3,hF⟩:=aP hF
 refine aB (aJ rfl (aAw h3) rfl) zU2 ?_
 refine aB (hU rfl) zU1 ?_
 refine aI ?_
 refine cP (fun h4=>?_) (fun h4=>?_)
 ·have hF:=aV h4 hF
  refine aM ?_
  refine aM ?_
  refine aB (bM rfl) ⟨rfl,cW _,trivial⟩ ?_
  refine aC (aA (iO rfl ?_))
  refine aE (aF (aB (cZ (is:=[]) (xs:=[]) (ps:=[]) rfl tyB68q rfl rfl trivial rfl) trivial ?_))
  refine bG (dO 0 rfl rfl rfl tyA68.s) zU2 ?_
  refine aB (aN (.inr rfl)) ⟨bI _ _,trivial⟩ ?_
  refine aC (aA (a9 (a8 ?_)))
  obtain rfl:=bV hF
  exact aL (.inl rfl) Tryz.results41 (bQ 0 3 rfl rfl rfl rfl (.agg tyA68) (.tmp rfl .nil)) rfl rfl
 have hF:=aX h4 hF
 refine aY (aN (.inl rfl)) zU1 ?_
 refine aY (dQ rfl) ⟨rfl,bI _ _,trivial⟩ ?_
 refine aB (bN rfl) zU2 ?_
 refine aC (aA (bS rfl (fun h5=>?_) (fun h5=>?_)))
 ·have hF:=aV h5 hF
  refine aE (aF (aB (cZ (is:=[]) (xs:=[]) (ps:=[]) rfl tyB68q rfl rfl trivial rfl) trivial ?_))
  refine bG (dO 0 rfl rfl rfl tyA68.s) zU2 ?_
  refine aB (aN (.inr rfl)) ⟨bI _ _,trivial⟩ ?_
  refine aC (aA (a9 (a8 ?_)))
  obtain rfl:=bV hF
  exact aL (.inl rfl) Tryz.results41 (bQ 0 3 rfl rfl rfl rfl (.agg tyA68) (.tmp rfl .nil)) rfl rfl
 have hF:=aX h5 hF
 refine bA (aA (aE (aF (aI ?_))))
 refine aI ?_
 obtain⟨v6,h7,hF⟩:=aP hF
 refine aCe [] [0] rfl (x0 h7) zU2 rfl rfl (by decide) ?_
 rintro _ _ ⟨b8,b12,c13,n14,b17,c18,n19,g22,N23,q15,q20,q24,q25,q26,rfl,rfl⟩
 refine sE (pY [⟨some b8,1,151,3,1,([pI .i64 v6.1]++[pO b12 n14 c13]++[pO b17 n19 c18])⟩,hO (cH g22) b12 c13 24 n14 v6.2.1,hO cI b17 c18 3 n19 v6.2.2.1] (jC cQ 44 g22 v6.2.2.2) [⟨some b1,1,68,3,1,([pS cQ ([]:List Rat)]++[pS cQ ([]:List Rat)]++[pI .i64 0])⟩]) ?_
 refine bH ?_
 refine aC (aA (aE (aE (aF (aI ?_)))))
 obtain⟨v28,h29,hF⟩:=aP hF
 refine aB (aJ rfl (yG h29) rfl) zU1 ?_
 refine aB (hU rfl) zU1 ?_
 refine aC (aA (bS rfl (fun h30=>?_) (fun h30=>?_)))
 ·have hF:=aV h30 hF
  refine aE (aF (aI ?_))
  obtain⟨v31,h32,hF⟩:=aP hF
  refine aCg 4 [0,1,2] [3] rfl (qH h32 q15 q20 q24 q25 q26) zU1 rfl rfl rfl (by decide) ?_
  rintro _ _ ⟨rfl,rfl⟩
  refine sE (pY [⟨some b8,1,151,3,1,([pI .i64 v6.1]++[pO b12 n14 c13]++[pO b17 n19 c18])⟩,hO (cH g22) b12 c13 24 n14 v6.2.1,hO cI b17 c18 3 n19 v6.2.2.1] (jC cQ 44 g22 v6.2.2.2) [⟨some b1,1,68,3,1,([pS cQ ([]:List Rat)]++[pS cQ ([]:List Rat)]++[pI .i64 0])⟩]) ?_
  refine bG (dO 3 rfl rfl rfl tyA68.s) zU2 ?_
  refine aB (aN (.inr rfl)) ⟨bI _ _,trivial⟩ ?_
  refine aC (aA (a9 (a8 ?_)))
  obtain rfl:=bV hF
  exact aL (.inl rfl) Tryz.results41 (bQ 3 3 rfl rfl rfl rfl (.agg tyA68) (.tmp rfl .nil)) rfl rfl
 have hF:=aX h30 hF
 refine bA (aA (aE (aF ?_)))
 obtain⟨v33,h34,hF⟩:=aP hF
 refine aB (aJ rfl (xS h34) rfl) ⟨bI _ _,bI _ _,trivial⟩ ?_
 refine bP rfl tyZ44q (fun b35=>?_)
 refine bG (dO 0 rfl rfl rfl tyA44.s) zU2 ?_
 refine aC (aA (aE (aF (aB (aN (.inr rfl)) ⟨bI _ _,trivial⟩ ?_))))
 refine aC (aA (aE (aE (aF (aI ?_)))))
 refine aB (oK rfl) zU1 ?_
 refine aB (bE (off:=0) (k:=0) rfl tyF151_0) zU1 ?_
 refine aB (bK 1 1 rfl rfl rfl rfl (.one tyO3)) zU1 ?_
 refine aB (aN (.inl rfl)) ⟨bI _ _,trivial⟩ ?_
 refine aC (aA (bR (cJ (fun H E=>∃(x40:Int),rH K a2 v6 x40=some r∧H=([⟨some b8,1,151,3,1,([pI .i64 v6.1]++[pO b12 n14 c13]++[pO b17 n19 c18])⟩,hO (cH g22) b12 c13 24 n14 v6.2.1,hO cI b17 c18 3 n19 v6.2.2.1,⟨some b1,1,68,3,1,([pS cQ ([]:List Rat)]++[pS cQ ([]:List Rat)]++[pI .i64 0])⟩]++jC cQ 44 g22 v6.2.2.2)∧E=[(2,.vc (pI .i64 a2)),(6,.vc (pP (some b1) 0)),(8,.vc (pP (some b8) 0)),(10,.vc (pI .i64 x40))]) ?_ (fun Jj42=>?_))))
 ·rintro _ _ ⟨x40,hF,rfl,rfl⟩
  unfold rH at hF
  refine aA (aE (aF (aI ?_)))
  refine aB (oK rfl) zU1 ?_
  refine aB (bE (off:=0) (k:=0) rfl tyF151_0) zU1 ?_
  refine aB (bK 0 1 rfl rfl rfl rfl (.one tyO3)) zU1 ?_
  obtain⟨v43,h44,hF⟩:=aP hF
  refine aB (pL rfl h44) ⟨bI _ _,rfl,trivial⟩ ?_
  refine bH ?_
  refine aC (aA (aE (aF (aB (aN (.inr rfl)) ⟨bI _ _,trivial⟩ ?_))))
  refine aC (aA (bR (cJ (fun H E=>rI K=some r∧H=[]∧E=[]) ?_ (fun Jj88=>?_))))
  ·rintro _ _ ⟨hF,rfl,rfl⟩
   unfold rI at hF
   cases hF
  obtain⟨ol87,hL,hRl87⟩:=aP hF
  refine gB (fun k a w=>∃(x66:List Nat),∃(x72:List Int),∃(x78:List (List Rat)),∃(x84:Int),∃(x85:Int),∃(x86:Int),∃(b67:Option Nat),∃(c68:Nat),∃(n69:Nat),∃(g79:List vB),∃(N80:Nat),iD K a2 v6 k x66 x72 x78 x84 x85 x86=some ol87∧x66.length=n69∧x72.length=n19∧x78.length=N80∧l9 g79 x78∧(∀k∈x66,k<N80)∧hs _ ([⟨some b8,1,151,3,1,([pI .i64 v6.1]++[pO b67 n69 c68]++[pO b17 n19 c18])⟩,hO (cH g79) b67 c68 24 n69 x66,hO cI b17 c18 3 n19 x72,⟨some b1,1,68,3,1,([pS cQ ([]:List Rat)]++[pS cQ ([]:List Rat)]++[pI .i64 0])⟩]++jC cQ 44 g79 x78) [(2,.vc (pI .i64 a2)),(6,.vc (pP (some b1) 0)),(8,.vc (pP (some b8) 0)),(10,.vc (pI .i64 x84)),(12,.vc (pI .i64 x85)),(13,.vc (pI .i64 x86))] a w) K (fun a w ⟨_,_,_,_,_,_,_,_,_,_,_,hF,_,_,_,_,_,_⟩=>by cases hF) (fun k a w ⟨x66,x72,x78,x84,x85,x86,b67,c68,n69,g79,N80,hF,q70,q76,q81,q82,q83,hh⟩=>gE ?_ hh) (fun a w hh=>⟨v6.2.1,v6.2.2.1,v6.2.2.2,x40,v43,0,b12,c13,n14,g22,N23,hL,q15,q20,q24,q25,q26,dM 4 [0,1,2,3] rfl rfl (by decide) (by exact⟨rfl,rfl,rfl,rfl,rfl,rfl,trivial⟩) hh⟩)
  rw [iD.eq_2] at hF
  refine aE (bR (aE (aE (aF (aI ?_)))))
  refine aI ?_
  refine aB (gR rfl) zU2 ?_
  refine aC (aA (bS rfl (fun h89=>?_) (fun h89=>?_)))
  ·have hF:=aV h89 hF
   refine aE (aF (aB (cZ (is:=[]) (xs:=[]) (ps:=[]) rfl tyB68q rfl rfl trivial rfl) trivial ?_))
   refine bG (dO 3 rfl rfl rfl tyA68.s) zU2 ?_
   refine aB (aN (.inr rfl)) ⟨bI _ _,trivial⟩ ?_
   refine aC (aA (a9 (a8 ?_)))
   obtain rfl:=bV hF
   obtain rfl:=bV hRl87
   exact aL (.inl rfl) Tryz.results41 (bQ 3 3 rfl rfl rfl rfl (.agg tyA68) (.tmp rfl .nil)) rfl rfl
  have hF:=aX h89 hF
  refine bA (aA (aE (aF (aI ?_))))
  refine aI ?_
  refine aI ?_
  obtain⟨v90,h91,hF⟩:=aP hF
  refine aCg 4 [0,1,2] [3] rfl (uR h91 q70 q76 q81 q82 q83) ⟨rfl,rfl,rfl,trivial⟩ rfl rfl rfl (by decide) ?_
  rintro _ _ ⟨b92,c93,n94,g99,N100,q95,q97,q101,q102,q103,rfl,rfl⟩
  refine sE (pY [⟨some b8,1,151,3,1,([pI .i64 v6.1]++[pO b92 n94 c93]++[pO b17 n19 c18])⟩,hO (cH g99) b92 c93 24 n94 v90.2.1,hO cI b17 c18 3 n19 v90.2.2.1] (jC cQ 44 g99 v90.2.2.2) [⟨some b1,1,68,3,1,([pS cQ ([]:List Rat)]++[pS cQ ([]:List Rat)]++[pI .i64 0])⟩]) ?_
  refine bH ?_
  refine aC (aA (aE (aE (aF (aI ?_)))))
  refine aI ?_
  refine aB (oK rfl) zU1 ?_
  refine aB (bE (off:=0) (k:=0) rfl tyF151_0) zU1 ?_
  refine aB (bK 0 1 rfl rfl rfl rfl (.one tyO3)) zU1 ?_
  obtain⟨v105,h106,hF⟩:=aP hF
  refine aB (pL rfl h106) ⟨bI _ _,rfl,trivial⟩ ?_
  refine aB (gR rfl) zU2 ?_
  refine aC (aA (bS rfl (fun h107=>?_) (fun h107=>?_)))
  ·have hF:=aV h107 hF
   refine aE (aF (aI ?_))
   obtain⟨v108,h109,hF⟩:=aP hF
   refine aCg 4 [0,1,2] [3] rfl (qH h109 q95 q97 q101 q102 q103) zU1 rfl rfl rfl (by decide) ?_
   rintro _ _ ⟨rfl,rfl⟩
   refine sE (pY [⟨some b8,1,151,3,1,([pI .i64 v6.1]++[pO b92 n94 c93]++[pO b17 n19 c18])⟩,hO (cH g99) b92 c93 24 n94 v90.2.1,hO cI b17 c18 3 n19 v90.2.2.1] (jC cQ 44 g99 v90.2.2.2) [⟨some b1,1,68,3,1,([pS cQ ([]:List Rat)]++[pS cQ ([]:List Rat)]++[pI .i64 0])⟩]) ?_
   refine bP rfl tyZ68q (fun b110=>?_)
   refine bG (dO 0 rfl rfl rfl tyA68.s) zU2 ?_
   refine aC (aA (aE (aF (aI ?_))))
   obtain⟨v111,h112,hF⟩:=aP hF
   refine aB (bO rfl h112) ⟨rfl,bI _ _,trivial⟩ ?_
   refine aB (bE (off:=0) (k:=2) rfl tyF68_2) zU1 ?_
   refine bG (dO 0 rfl rfl rfl tyO3.s) zU2 ?_
   refine aC (aA (aE (aF (aB (bK 0 3 rfl rfl rfl rfl (.agg tyA68)) zU1 ?_))))
   refine bG (dO 4 rfl rfl rfl tyA68.s) zU2 ?_
   refine aB (aN (.inr rfl)) ⟨bI _ _,trivial⟩ ?_
   refine aC (aA (a9 (a8 ?_)))
   obtain rfl:=bV hF
   obtain rfl:=bV hRl87
   exact aL (.inl rfl) Tryz.results41 (bQ 4 3 rfl rfl rfl rfl (.agg tyA68) (.tmp rfl .nil)) rfl rfl
  have hF:=aX h107 hF
  refine bA (aA (aE (aF (aI ?_))))
  refine aI ?_
  refine aB (oK rfl) zU1 ?_
  refine aB (bE (off:=0) (k:=0) rfl tyF151_0) zU1 ?_
  refine aB (bK 0 1 rfl rfl rfl rfl (.one tyO3)) zU1 ?_
  obtain⟨v113,h114,hF⟩:=aP hF
  refine aB (bO rfl h114) zU2 ?_
  refine bH ?_
  refine aC (aA (aE (uH (fun H E=>∃(x116:Int),nI K v6 x86 v90 (iD K a2 v6 k) x116=some ol87∧H=([⟨some b8,1,151,3,1,([pI .i64 v6.1]++[pO b92 n94 c93]++[pO b17 n19 c18])⟩,hO (cH g99) b92 c93 24 n94 v90.2.1,hO cI b17 c18 3 n19 v90.2.2.1,⟨some b1,1,68,3,1,([pS cQ ([]:List Rat)]++[pS cQ ([]:List Rat)]++[pI .i64 0])⟩]++jC cQ 44 g99 v90.2.2.2)∧E=[(2,.vc (pI .i64 a2)),(6,.vc (pP (some b1) 0)),(8,.vc (pP (some b8) 0)),(12,.vc (pI .i64 x116)),(13,.vc (pI .i64 x86))]) ?_ (fun Jj117=>?_))))
  ·rintro _ _ ⟨x116,hF,rfl,rfl⟩
   unfold nI at hF
   refine aE (aF (aB (aN (.inr rfl)) ⟨bI _ _,trivial⟩ ?_))
   refine aC (aA (aE (aE (aF (aI ?_)))))
   refine aB (oK rfl) zU1 ?_
   refine aB (bE (off:=0) (k:=1) rfl tyF151_1) zU1 ?_
   refine aB (bK 0 1 rfl rfl rfl rfl (.one tyO62)) zU1 ?_
   refine aB (aB1 (C:=(cH g99)) (xs:=v90.2.1) (T:=24) rfl tyS62 q95) zU1 ?_
   refine aB (aN (.inl rfl)) ⟨bI _ _,trivial⟩ ?_
   refine aC (aA (bR (cJ (fun H E=>∃(x122:Int),q9 K x86 v90 x116 (iD K a2 v6 k) x122=some ol87∧H=([⟨some b8,1,151,3,1,([pI .i64 v6.1]++[pO b92 n94 c93]++[pO b17 n19 c18])⟩,hO (cH g99) b92 c93 24 n94 v90.2.1,hO cI b17 c18 3 n19 v90.2.2.1,⟨some b1,1,68,3,1,([pS cQ ([]:List Rat)]++[pS cQ ([]:List Rat)]++[pI .i64 0])⟩]++jC cQ 44 g99 v90.2.2.2)∧E=[(2,.vc (pI .i64 a2)),(6,.vc (pP (some b1) 0)),(8,.vc (pP (some b8) 0)),(10,.vc (pI .i64 x122)),(12,.vc (pI .i64 x116)),(13,.vc (pI .i64 x86))]) ?_ (fun Jj124=>?_))))
   ·rintro _ _ ⟨x122,hF,rfl,rfl⟩
    unfold q9 at hF
    refine aA (aE (aF (aI ?_)))
    refine aB (dQ rfl) ⟨rfl,bI _ _,trivial⟩ ?_
    refine aC (aA (bS rfl (fun h125=>?_) (fun h125=>?_)))
    ·have hF:=aV h125 hF
     refine aE (aF (aB (cZ (is:=[]) (xs:=[]) (ps:=[]) rfl tyB68q rfl rfl trivial rfl) trivial ?_))
     refine bG (dO 3 rfl rfl rfl tyA68.s) zU2 ?_
     refine aB (aN (.inr rfl)) ⟨bI _ _,trivial⟩ ?_
     refine aC (aA (a9 (a8 ?_)))
     obtain rfl:=bV hF
     obtain rfl:=bV hRl87
     exact aL (.inl rfl) Tryz.results41 (bQ 3 3 rfl rfl rfl rfl (.agg tyA68) (.tmp rfl .nil)) rfl rfl
    have hF:=aX h125 hF
    refine bA (bJ (aA (aF (aI ?_))))
    obtain⟨v126,h127,hF⟩:=aP hF
    refine aB (bO rfl h127) ⟨rfl,bI _ _,trivial⟩ ?_
    refine bH ?_
    refine aC ?_
    exact bL (fun a w hh=>⟨v90.2.1,v90.2.2.1,v90.2.2.2,x122,x116,v126,b92,c93,n94,g99,N100,hF,q95,q97,q101,q102,q103,dM 4 [0,1,2,3] rfl rfl (by decide) (by exact⟨rfl,rfl,rfl,rfl,rfl,rfl,trivial⟩) hh⟩)
   obtain⟨x122',hL,hRl123⟩:=aP hF
   refine gB (fun k a w=>∃(x120:Int),∃(x121:Int),gP K v6 v90 x116 k x120 x121=some x122'∧hs _ ([⟨some b8,1,151,3,1,([pI .i64 v6.1]++[pO b92 n94 c93]++[pO b17 n19 c18])⟩,hO (cH g99) b92 c93 24 n94 v90.2.1,hO cI b17 c18 3 n19 v90.2.2.1,⟨some b1,1,68,3,1,([pS cQ ([]:List Rat)]++[pS cQ ([]:List Rat)]++[pI .i64 0])⟩]++jC cQ 44 g99 v90.2.2.2) [(2,.vc (pI .i64 a2)),(6,.vc (pP (some b1) 0)),(8,.vc (pP (some b8) 0)),(10,.vc (pI .i64 x120)),(12,.vc (pI .i64 x116)),(13,.vc (pI .i64 x86)),(100,.vc (pO b92 n94 c93)),(101,.vc (pI .i64 (v90.2.1.length:Int))),(102,.vc (pI .i64 x121))] a w) K (fun a w ⟨_,_,hF,_⟩=>by cases hF) (fun k a w ⟨x120,x121,hF,hh⟩=>gE ?_ hh) (fun a w hh=>⟨(-1),0,hL,dM 4 [0,1,2,3] rfl rfl (by decide) (by exact⟨rfl,rfl,rfl,rfl,rfl,rfl,rfl,rfl,rfl,trivial⟩) hh⟩)
   rw [gP.eq_2] at hF
   refine aE (aF (aB (dQ rfl) zU2 ?_))
   refine aC (aA (aE (bS rfl (fun h128=>?_) (fun h128=>?_))))
   ·have hF:=aV h128 hF
    refine bA (aA (aE (bR (aE (aF (aI ?_))))))
    obtain⟨v129,h130,hF⟩:=aP hF
    refine aB (cS (C:=(cH g99)) 1 rfl tyS62 rfl q95 (aS h130).1 (aS h130).2.1) zU2 ?_
    refine aB (g9 (C:=(cH g99)) (k:=1) 1 rfl rfl h130 rfl (.one tyO24) rfl) zU1 ?_
    refine bH ?_
    refine bH ?_
    refine aC (aA (aE ?_))
    obtain⟨v133,h134,hF⟩:=aP hF
    obtain⟨v135,h136,hF⟩:=aP hF
    rcases Bool.eq_false_or_eq_true (decide (0<v135)) with h137|h137
    ·have hF:=aV h137 hF
     rcases Bool.eq_false_or_eq_true (decide (x120<0)) with h138|h138
     ·have hF:=aV h138 hF
      refine bT (0::0::3::7::15::31::63::127::255::511::1023::1023::1023::1023::13311::29695::1023::1023::132095::394239::918527::1023::4064255::8258559::1023::33424383::66978815::134217727::268435455::536870911::[]) 27 3 (.v (.vc (pO (kC g99 v129).1 (kC g99 v129).2.1 (kC g99 v129).2.2))::.v (.vc (pI .i64 x116))::.v (.vc (pE (kC g99 v129).1 x116 cQ.n 0))::.v (.va (eQ v133))::.v (.vc (pI .i64 v135))::.v (.vc (pB (decide (0<v135))))::.v (.vc (pB true))::.v (.vc (pI .i64 x120))::.v (.vc (pB (decide (x120<0))))::.v (.vc (pB true))::.v .un::.v .un::.v .un::.v .un::.v .un::.v .un::.v .un::.v .un::.v .un::.v .un::.v .un::.v .un::.v .un::.v .un::.v .un::.v .un::.v .un::[]) aU ⟨d0 (aN (.inl rfl)) zU1,d0 (aN (.inl rfl)) zU1,d0 (cS (4+v129) rfl tyS24 (lB 4 rfl q102 q101 (q103 _ (cC h130))) (mC q102 q101 (q103 _ (cC h130))) (aS h134).1 (aS h134).2.1) zU2,d0 (g9 (k:=4) (4+v129) rfl (lB 4 rfl q102 q101 (q103 _ (cC h130))) h134 rfl (.agg tyA44) rfl) zU1,d0 (aJ rfl (iM h136) rfl) zU1,d0 (rV rfl) ⟨rfl,bI _ _,trivial⟩,d0 (cX (aN (.inl rfl)) h137) zU1,g0 (aN (.inl rfl)) zU1,g0 (dQ rfl) ⟨rfl,bI _ _,trivial⟩,g0 (cX (aN (.inl rfl)) h138) zU1,⟨rfl,.skipN⟩,⟨rfl,.skipN⟩,⟨rfl,.skipN⟩,⟨rfl,.skipN⟩,⟨rfl,.skipN⟩,⟨rfl,.skipN⟩,⟨rfl,.skipN⟩,⟨rfl,.skipN⟩,⟨rfl,.skipN⟩,⟨rfl,.skipN⟩,⟨rfl,.skipN⟩,⟨rfl,.skipN⟩,⟨rfl,.skipN⟩,⟨rfl,.skipN⟩,⟨rfl,.skipN⟩,⟨rfl,.skipN⟩,⟨rfl,.skipN⟩,trivial⟩ (fun bs132 G131=>?_)
      refine aM ?_
      refine aY (bM rfl) ⟨rfl,cW _,trivial⟩ ?_
      refine aB (bM rfl) zU2 ?_
      refine aC (aA (iO rfl ?_))
      refine aF (aI ?_)
      refine bH ?_
      refine aC (bJ (aA (aF ?_)))
      obtain⟨v139,h140,hF⟩:=aP hF
      refine aB (bO rfl h140) ⟨rfl,bI _ _,trivial⟩ ?_
      refine aI ?_
      refine aC ?_
      exact bL (fun a w hh=>⟨x121,v139,hF,dM 4 [0,1,2,3] rfl rfl (by decide) (by exact⟨rfl,rfl,rfl,rfl,rfl,rfl,rfl,rfl,rfl,trivial⟩) hh⟩)
     have hF:=aX h138 hF
     obtain⟨v141,h142,hF⟩:=aP hF
     obtain⟨v143,h144,hF⟩:=aP hF
     obtain⟨v145,h146,hF⟩:=aP hF
     refine bT (0::0::3::7::15::31::63::127::255::511::1023::1023::1023::1023::13311::29695::1023::1023::132095::394239::918527::1023::4064255::8258559::1023::33424383::66978815::134217727::268435455::536870911::[]) 27 3 (.v (.vc (pO (kC g99 v129).1 (kC g99 v129).2.1 (kC g99 v129).2.2))::.v (.vc (pI .i64 x116))::.v (.vc (pE (kC g99 v129).1 x116 cQ.n 0))::.v (.va (eQ v133))::.v (.vc (pI .i64 v135))::.v (.vc (pB (decide (0<v135))))::.v (.vc (pB true))::.v (.vc (pI .i64 x120))::.v (.vc (pB (decide (x120<0))))::.v (.vc (pB false))::.v (.vc (pP (some b8) 0))::.v (.vc (pI .i64 x121))::.v (.vc (pO (kC g99 v129).1 (kC g99 v129).2.1 (kC g99 v129).2.2))::.v (.vc (pI .i64 x116))::.v (.vc (pE (kC g99 v129).1 x116 cQ.n 0))::.v (.va (eQ v141))::.v (.vc (pI .i64 x120))::.v (.vc (pP (some b8) 0))::.v (.vc (pP (some b8) 0))::.v (.vc (pP (some b8) 1))::.v (.vc (pO b92 n94 c93))::.v (.vc (pI .i64 x120))::.v (.vc (pE b92 x120 (cH g99).n 0))::.v (.vc (pO (kC g99 v143).1 (kC g99 v143).2.1 (kC g99 v143).2.2))::.v (.vc (pI .i64 x116))::.v (.vc (pE (kC g99 v143).1 x116 cQ.n 0))::.v (.va (eQ v145))::[]) aU ⟨d0 (aN (.inl rfl)) zU1,d0 (aN (.inl rfl)) zU1,d0 (cS (4+v129) rfl tyS24 (lB 4 rfl q102 q101 (q103 _ (cC h130))) (mC q102 q101 (q103 _ (cC h130))) (aS h134).1 (aS h134).2.1) zU2,d0 (g9 (k:=4) (4+v129) rfl (lB 4 rfl q102 q101 (q103 _ (cC h130))) h134 rfl (.agg tyA44) rfl) zU1,d0 (aJ rfl (iM h136) rfl) zU1,d0 (rV rfl) ⟨rfl,bI _ _,trivial⟩,d0 (cX (aN (.inl rfl)) h137) zU1,g0 (aN (.inl rfl)) zU1,g0 (dQ rfl) ⟨rfl,bI _ _,trivial⟩,g0 (cX (aN (.inl rfl)) h138) zU1,g0 (aN (.inl rfl)) zU1,g0 (aN (.inl rfl)) zU1,g0 (aN (.inl rfl)) zU1,g0 (aN (.inl rfl)) zU1,g0 (cS (4+v129) rfl tyS24 (lB 4 rfl q102 q101 (q103 _ (cC h130))) (mC q102 q101 (q103 _ (cC h130))) (aS h142).1 (aS h142).2.1) zU2,g0 (g9 (k:=4) (4+v129) rfl (lB 4 rfl q102 q101 (q103 _ (cC h130))) h142 rfl (.agg tyA44) rfl) zU1,g0 (aN (.inl rfl)) zU1,g0 (aN (.inl rfl)) zU1,g0 (oK rfl) zU1,g0 (bE (off:=0) (k:=1) rfl tyF151_1) zU1,g0 (bK 0 1 rfl rfl rfl rfl (.one tyO62)) zU1,g0 (aN (.inl rfl)) zU1,g0 (cS (C:=(cH g99)) 1 rfl tyS62 rfl q95 (aS h144).1 (aS h144).2.1) zU2,g0 (g9 (C:=(cH g99)) (k:=1) 1 rfl rfl h144 rfl (.one tyO24) rfl) zU1,g0 (aN (.inl rfl)) zU1,g0 (cS (4+v143) rfl tyS24 (lB 4 rfl q102 q101 (q103 _ (cC h144))) (mC q102 q101 (q103 _ (cC h144))) (aS h146).1 (aS h146).2.1) zU2,g0 (g9 (k:=4) (4+v143) rfl (lB 4 rfl q102 q101 (q103 _ (cC h144))) h146 rfl (.agg tyA44) rfl) zU1,trivial⟩ (fun bs132 G131=>?_)
     obtain⟨v147,h148,hF⟩:=aP hF
     refine aY (aHp 4 [0,1,2] [3] [0,1,2,3] rfl (rB h148 q95 q97 q101 q102 q103) rfl rfl rfl rfl (by decide) (by decide) rfl) ⟨rfl,rfl,rfl,rfl,rfl,trivial⟩ ?_
     refine aY (bN rfl) zU2 ?_
     refine aB (bM rfl) zU2 ?_
     refine aC (aA (bS rfl (fun h149=>?_) (fun h149=>?_)))
     ·have hF:=aV h149 hF
      refine aF (aI ?_)
      refine bH ?_
      refine aC (bJ (aA (aF ?_)))
      obtain⟨v150,h151,hF⟩:=aP hF
      refine aB (bO rfl h151) ⟨rfl,bI _ _,trivial⟩ ?_
      refine aI ?_
      refine aC ?_
      exact bL (fun a w hh=>⟨x121,v150,hF,dM 4 [0,1,2,3] rfl rfl (by decide) (by exact⟨rfl,rfl,rfl,rfl,rfl,rfl,rfl,rfl,rfl,trivial⟩) hh⟩)
     have hF:=aX h149 hF
     refine bA (bJ (aA (aF ?_)))
     obtain⟨v152,h153,hF⟩:=aP hF
     refine aB (bO rfl h153) ⟨rfl,bI _ _,trivial⟩ ?_
     refine aI ?_
     refine aC ?_
     exact bL (fun a w hh=>⟨x120,v152,hF,dM 4 [0,1,2,3] rfl rfl (by decide) (by exact⟨rfl,rfl,rfl,rfl,rfl,rfl,rfl,rfl,rfl,trivial⟩) hh⟩)
    have hF:=aX h137 hF
    refine bT (0::0::3::7::15::31::63::127::255::511::1023::1023::1023::1023::13311::29695::1023::1023::132095::394239::918527::1023::4064255::8258559::1023::33424383::66978815::134217727::268435455::536870911::[]) 27 3 (.v (.vc (pO (kC g99 v129).1 (kC g99 v129).2.1 (kC g99 v129).2.2))::.v (.vc (pI .i64 x116))::.v (.vc (pE (kC g99 v129).1 x116 cQ.n 0))::.v (.va (eQ v133))::.v (.vc (pI .i64 v135))::.v (.vc (pB (decide (0<v135))))::.v (.vc (pB false))::.v .un::.v .un::.v .un::.v .un::.v .un::.v .un::.v .un::.v .un::.v .un::.v .un::.v .un::.v .un::.v .un::.v .un::.v .un::.v .un::.v .un::.v .un::.v .un::.v .un::[]) aU ⟨d0 (aN (.inl rfl)) zU1,d0 (aN (.inl rfl)) zU1,d0 (cS (4+v129) rfl tyS24 (lB 4 rfl q102 q101 (q103 _ (cC h130))) (mC q102 q101 (q103 _ (cC h130))) (aS h134).1 (aS h134).2.1) zU2,d0 (g9 (k:=4) (4+v129) rfl (lB 4 rfl q102 q101 (q103 _ (cC h130))) h134 rfl (.agg tyA44) rfl) zU1,d0 (aJ rfl (iM h136) rfl) zU1,d0 (rV rfl) ⟨rfl,bI _ _,trivial⟩,d0 (cX (aN (.inl rfl)) h137) zU1,⟨rfl,.skipN⟩,⟨rfl,.skipN⟩,⟨rfl,.skipN⟩,⟨rfl,.skipU⟩,⟨rfl,.skipU⟩,⟨rfl,.skipU⟩,⟨rfl,.skipU⟩,⟨rfl,.skipU⟩,⟨rfl,.skipU⟩,⟨rfl,.skipU⟩,⟨rfl,.skipU⟩,⟨rfl,.skipU⟩,⟨rfl,.skipU⟩,⟨rfl,.skipU⟩,⟨rfl,.skipU⟩,⟨rfl,.skipU⟩,⟨rfl,.skipU⟩,⟨rfl,.skipU⟩,⟨rfl,.skipU⟩,⟨rfl,.skipU⟩,trivial⟩ (fun bs132 G131=>?_)
    refine uS ?_
    refine aM ?_
    refine aB (bN rfl) ⟨rfl,cW _,trivial⟩ ?_
    refine aC (aA (sT rfl ?_))
    refine bA (bJ (aA (aF ?_)))
    obtain⟨v154,h155,hF⟩:=aP hF
    refine aB (bO rfl h155) ⟨rfl,bI _ _,trivial⟩ ?_
    refine aI ?_
    refine aC ?_
    exact bL (fun a w hh=>⟨x120,v154,hF,dM 4 [0,1,2,3] rfl rfl (by decide) (by exact⟨rfl,rfl,rfl,rfl,rfl,rfl,rfl,rfl,rfl,trivial⟩) hh⟩)
   have hF:=aX h128 hF
   refine dI ?_
   obtain rfl:=bV hF
   exact o7 Jj124 ⟨x120,hRl123,rfl,rfl⟩ 4 [0,1,2,3] rfl rfl ⟨rfl,rfl,rfl,rfl,rfl,rfl,trivial⟩
  refine aE (aF (aI ?_))
  refine aI ?_
  refine aB (oK rfl) zU1 ?_
  refine aB (bE (off:=0) (k:=0) rfl tyF151_0) zU1 ?_
  refine aB (bK 0 1 rfl rfl rfl rfl (.one tyO3)) zU1 ?_
  refine aB (uP rfl) zU2 ?_
  refine aC (aA (bS rfl (fun h156=>?_) (fun h156=>?_)))
  ·have hF:=aV h156 hF
   refine aF (aI ?_)
   refine aI ?_
   refine aB (oK rfl) zU1 ?_
   refine aB (bE (off:=0) (k:=0) rfl tyF151_0) zU1 ?_
   refine aB (bK 0 1 rfl rfl rfl rfl (.one tyO3)) zU1 ?_
   obtain⟨v157,h158,hF⟩:=aP hF
   refine aB (eM rfl h158) zU2 ?_
   refine bH ?_
   refine aC ?_
   exact o7 Jj117 ⟨v157,hF,rfl,rfl⟩ 4 [0,1,2,3] rfl rfl ⟨rfl,rfl,rfl,rfl,rfl,trivial⟩
  have hF:=aX h156 hF
  refine bA ?_
  exact o7 Jj117 ⟨v113,hF,rfl,rfl⟩ 4 [0,1,2,3] rfl rfl ⟨rfl,rfl,rfl,rfl,rfl,trivial⟩
 obtain⟨x40',hL,hRl41⟩:=aP hF
 refine gB (fun k a w=>∃(x38:Int),∃(x39:Int),lU K v6 v33 k x38 x39=some x40'∧hs _ ([⟨some b35,1,44,4,1,(eQ v33)⟩,⟨some b8,1,151,3,1,([pI .i64 v6.1]++[pO b12 n14 c13]++[pO b17 n19 c18])⟩,hO (cH g22) b12 c13 24 n14 v6.2.1,hO cI b17 c18 3 n19 v6.2.2.1,⟨some b1,1,68,3,1,([pS cQ ([]:List Rat)]++[pS cQ ([]:List Rat)]++[pI .i64 0])⟩]++jC cQ 44 g22 v6.2.2.2) [(2,.vc (pI .i64 a2)),(6,.vc (pP (some b1) 0)),(8,.vc (pP (some b8) 0)),(9,.vc (pP (some b35) 0)),(10,.vc (pI .i64 x38)),(39,.vc (pI .i64 v6.1)),(40,.vc (pI .i64 x39))] a w) K (fun a w ⟨_,_,hF,_⟩=>by cases hF) (fun k a w ⟨x38,x39,hF,hh⟩=>gE ?_ hh) (fun a w hh=>⟨0,0,hL,dM 5 [0,1,2,3,4] rfl rfl (by decide) (by exact⟨rfl,rfl,rfl,rfl,rfl,rfl,rfl,trivial⟩) hh⟩)
 rw [lU.eq_2] at hF
 refine aE (aF (aB (dQ rfl) zU2 ?_))
 refine aC (aA (aE (bS rfl (fun h159=>?_) (fun h159=>?_))))
 ·have hF:=aV h159 hF
  refine bA (aA (aE (bR (aE (aF (aI ?_))))))
  refine bH ?_
  refine aC (aA (aE (aF (aI ?_))))
  refine aI ?_
  refine aB (bK 0 4 rfl rfl rfl rfl (.agg tyA44)) zU1 ?_
  refine aI ?_
  refine aB (bK 0 4 rfl rfl rfl rfl (.agg tyA44)) zU1 ?_
  obtain⟨v160,h161,hF⟩:=aP hF
  refine aCg 5 [1,2,3] [0,4] rfl (rB h161 q15 q20 q24 q25 q26) ⟨rfl,rfl,rfl,rfl,rfl,trivial⟩ rfl rfl rfl (by decide) ?_
  rintro _ _ ⟨rfl,rfl⟩
  refine sE (pY [⟨some b8,1,151,3,1,([pI .i64 v6.1]++[pO b12 n14 c13]++[pO b17 n19 c18])⟩,hO (cH g22) b12 c13 24 n14 v6.2.1,hO cI b17 c18 3 n19 v6.2.2.1] (jC cQ 44 g22 v6.2.2.2) [⟨some b35,1,44,4,1,(eQ v33)⟩,⟨some b1,1,68,3,1,([pS cQ ([]:List Rat)]++[pS cQ ([]:List Rat)]++[pI .i64 0])⟩]) ?_
  refine aC (aA (bS rfl (fun h162=>?_) (fun h162=>?_)))
  ·have hF:=aV h162 hF
   refine aF (aI ?_)
   refine bH ?_
   refine aC (bJ (aA (aF ?_)))
   obtain⟨v163,h164,hF⟩:=aP hF
   refine aB (bO rfl h164) ⟨rfl,bI _ _,trivial⟩ ?_
   refine aI ?_
   refine aC ?_
   exact bL (fun a w hh=>⟨x39,v163,hF,dM 5 [3,0,1,2,4] rfl rfl (by decide) (by exact⟨rfl,rfl,rfl,rfl,rfl,rfl,rfl,trivial⟩) hh⟩)
  have hF:=aX h162 hF
  refine bA (bJ (aA (aF ?_)))
  obtain⟨v165,h166,hF⟩:=aP hF
  refine aB (bO rfl h166) ⟨rfl,bI _ _,trivial⟩ ?_
  refine aI ?_
  refine aC ?_
  exact bL (fun a w hh=>⟨x38,v165,hF,dM 5 [3,0,1,2,4] rfl rfl (by decide) (by exact⟨rfl,rfl,rfl,rfl,rfl,rfl,rfl,trivial⟩) hh⟩)
 have hF:=aX h159 hF
 refine dI ?_
 obtain rfl:=bV hF
 exact o7 Jj42 ⟨x38,hRl41,rfl,rfl⟩ 5 [1,2,3,4] rfl rfl ⟨rfl,rfl,rfl,rfl,trivial⟩
def mH (K:Nat):Option Int:=
 some (-1)
def fP (K:Nat) (a0:List Rat) (a1:(Rat→Option Bool)):Nat→Int→Option (LR Int Unit)
 |0,_=>none
 |k+1,x2=>bif(decide (x2<(a0.length:Int))) then((dC a0 x2).bind fun v6=>(a1 v6).bind fun v8=>bif v8 then(some (.ret x2)) else((bW (x2+1)).bind fun v11=>fP K a0 a1 k v11)) else(some (.go ()))
def oJ (K:Nat) (a0:List Rat) (a1:(Rat→Option Bool)):Option Int:=
 (fP K a0 a1 K 0).bind fun o=>match o with| .ret r=>some r| .go _=>mH K
theorem xX {K:Nat} {a0:List Rat} {a1:(Rat→Option Bool)} {r:Int} (hF:oJ K a0 a1=some r):Ct Tryz.prog 222 [.vc (pS cQ a0),.vc (pFn Tryz.prog (fun x:Rat=>[.va (eQ x)]) (fun r:Bool=>.vc (pB r)) a1)] (.vc (pI .i64 r)):=by
 unfold oJ at hF
 refine bD Tryz.func222 rfl (by kernel_rfl) Tryz.ntmps222 rfl (fun w0 M0=>?_)
 refine aE (aF (aB (aN (.inr rfl)) ⟨bI _ _,trivial⟩ ?_))
 refine aC (aA (aE (aE (aF (aI ?_)))))
 refine aB (bX rfl tyS24) zU1 ?_
 refine aB (aN (.inl rfl)) ⟨bI _ _,trivial⟩ ?_
 refine aC (aA (bR (cJ (fun H E=>mH K=some r∧H=[]∧E=[]) ?_ (fun Jj4=>?_))))
 ·rintro _ _ ⟨hF,rfl,rfl⟩
  unfold mH at hF
  refine aA (aE (aF (aB (aN (.inr rfl)) ⟨bI _ _,trivial⟩ ?_)))
  refine aC (aA (a9 (a8 ?_)))
  obtain rfl:=bV hF
  exact aL (.inl rfl) Tryz.results222 (.tmp rfl .nil) rfl rfl
 obtain⟨ol3,hL,hRl3⟩:=aP hF
 refine gB (fun k a w=>∃(x2:Int),fP K a0 a1 k x2=some ol3∧hs _ [] [(0,.vc (pS cQ a0)),(1,.vc (pFn Tryz.prog (fun x:Rat=>[.va (eQ x)]) (fun r:Bool=>.vc (pB r)) a1)),(7,.vc (pI .i64 (a0.length:Int))),(8,.vc (pI .i64 x2))] a w) K (fun a w ⟨_,hF,_⟩=>by cases hF) (fun k a w ⟨x2,hF,hh⟩=>gE ?_ hh) (fun a w hh=>⟨0,hL,bF [] rfl (by decide) (by exact⟨rfl,rfl,rfl,rfl,trivial⟩) hh⟩)
 rw [fP.eq_2] at hF
 refine aE (aF (aB (dQ rfl) zU2 ?_))
 refine aC (aA (aE (bS rfl (fun h5=>?_) (fun h5=>?_))))
 ·have hF:=aV h5 hF
  refine bA (aA (aE (bR (aE (aF (aI ?_))))))
  refine bH ?_
  refine aC (aA (aE (aF (aI ?_))))
  refine aI ?_
  refine aI ?_
  obtain⟨v6,h7,hF⟩:=aP hF
  refine aB (cO rfl tyS24 h7) zU2 ?_
  refine aB (cK 4 rfl rfl (.agg tyA44)) zU1 ?_
  obtain⟨v8,h9,hF⟩:=aP hF
  refine aB (aBd (pre:=fun x:Rat=>[.va (eQ x)]) (post:=fun r:Bool=>.vc (pB r)) (x:=v6) (r:=v8) rfl h9 rfl) zU2 ?_
  refine aC (aA (bS rfl (fun h10=>?_) (fun h10=>?_)))
  ·have hF:=aV h10 hF
   refine aE (aF (aI ?_))
   refine bH ?_
   refine aC (aA (a9 (a8 ?_)))
   obtain rfl:=bV hF
   obtain rfl:=bV hRl3
   exact aL (.inl rfl) Tryz.results222 (.tmp rfl .nil) rfl rfl
  have hF:=aX h10 hF
  refine bA (bJ (aA (aF ?_)))
  obtain⟨v11,h12,hF⟩:=aP hF
  refine aB (bO rfl h12) ⟨rfl,bI _ _,trivial⟩ ?_
  refine aI ?_
  refine aC ?_
  exact bL (fun a w hh=>⟨v11,hF,bF [] rfl (by decide) (by exact⟨rfl,rfl,rfl,rfl,trivial⟩) hh⟩)
 have hF:=aX h5 hF
 refine dI ?_
 obtain rfl:=bV hF
 exact bU Jj4 ⟨hRl3,rfl,rfl⟩ [] rfl trivial
def mE (K:Nat) (a0:List Rat) (a1:(Rat→Option Bool)):Option Bool:=
 (oJ K a0 a1).bind fun v1=>some (decide (0≤v1))
theorem wM {K:Nat} {a0:List Rat} {a1:(Rat→Option Bool)} {r:Bool} (hF:mE K a0 a1=some r):Ct Tryz.prog 161 [.vc (pS cQ a0),.vc (pFn Tryz.prog (fun x:Rat=>[.va (eQ x)]) (fun r:Bool=>.vc (pB r)) a1)] (.vc (pB r)):=by
 unfold mE at hF
 refine bD Tryz.func161 rfl (by kernel_rfl) Tryz.ntmps161 rfl (fun w0 M0=>?_)
 refine aE (aF (aB (aN (.inr rfl)) ⟨cW _,trivial⟩ ?_))
 refine aC (aA (aE (aF (aI ?_))))
 refine aI ?_
 obtain⟨v1,h2,hF⟩:=aP hF
 refine aB (aJ rfl (xX h2) rfl) zU2 ?_
 refine aB (uP rfl) ⟨rfl,bI _ _,trivial⟩ ?_
 refine bH ?_
 refine aC (aA (a9 (a8 ?_)))
 obtain rfl:=bV hF
 exact aL (.inl rfl) Tryz.results161 (.tmp rfl .nil) rfl rfl
def qZ (a0:Rat):Option Bool:=
 (aAq a0).bind fun v2=>some (!v2)
theorem aB7 {a0:Rat} {r:Bool} (hF:qZ a0=some r):Ct Tryz.prog 162 [.va (eQ a0)] (.vc (pB r)):=by
 unfold qZ at hF
 refine bD Tryz.func162 rfl (by kernel_rfl) Tryz.ntmps162 rfl (fun w0 M0=>?_)
 refine aE (aF (cY rfl rfl trivial (fun b1=>?_)))
 refine aB (aN (.inr rfl)) ⟨cW _,trivial⟩ ?_
 refine aC (aA (aE (aF (aB (bK 0 4 rfl rfl rfl rfl (.agg tyA44)) zU1 ?_))))
 obtain⟨v2,h3,hF⟩:=aP hF
 refine aB (aJ rfl (qJ h3) rfl) zU1 ?_
 refine aB (hU rfl) zU1 ?_
 refine bH ?_
 refine aC (aA (a9 (a8 ?_)))
 obtain rfl:=bV hF
 exact aL (.inl rfl) Tryz.results162 (.tmp rfl .nil) rfl rfl
def rO (K:Nat) (a0:List Rat):Option Bool:=
 (mE K a0 (qZ)).bind fun v1=>some (!v1)
theorem xG {K:Nat} {a0:List Rat} {r:Bool} (hF:rO K a0=some r):Ct Tryz.prog 75 [.vc (pS cQ a0)] (.vc (pB r)):=by
 unfold rO at hF
 refine bD Tryz.func75 rfl (by kernel_rfl) Tryz.ntmps75 rfl (fun w0 M0=>?_)
 refine aE (aF (aB (aN (.inr rfl)) ⟨cW _,trivial⟩ ?_))
 refine aC (aA (aE (aF (aI ?_))))
 obtain⟨v1,h2,hF⟩:=aP hF
 refine aB (aJ rfl (wM h2) rfl) ⟨rfl,(aJE (P:=Tryz.prog) (φ:=(qZ)) (pre:=fun x:Rat=>[.va (eQ x)]) (post:=fun r:Bool=>.vc (pB r)) (fun x r h=>aB7 h)),trivial⟩ ?_
 refine aB (hU rfl) zU1 ?_
 refine bH ?_
 refine aC (aA (a9 (a8 ?_)))
 obtain rfl:=bV hF
 exact aL (.inl rfl) Tryz.results75 (.tmp rfl .nil) rfl rfl
def mA (K:Nat):Option Int:=
 some (-1)
def eR (K:Nat) (a0:List aH) (a1:(aH→Option Bool)):Nat→Int→Option (LR Int Unit)
 |0,_=>none
 |k+1,x2=>bif(decide (x2<(a0.length:Int))) then((dC a0 x2).bind fun v6=>(a1 v6).bind fun v8=>bif v8 then(some (.ret x2)) else((bW (x2+1)).bind fun v11=>eR K a0 a1 k v11)) else(some (.go ()))
def lH (K:Nat) (a0:List aH) (a1:(aH→Option Bool)):Option Int:=
 (eR K a0 a1 K 0).bind fun o=>match o with| .ret r=>some r| .go _=>mA K
theorem yA {K:Nat} {a0:List aH} {a1:(aH→Option Bool)} {r:Int} (hF:lH K a0 a1=some r):Ct Tryz.prog 178 [.vc (pS aH.cod a0),.vc (pFn Tryz.prog (fun x:aH=>[.va (aH.enc x)]) (fun r:Bool=>.vc (pB r)) a1)] (.vc (pI .i64 r)):=by
 unfold lH at hF
 refine bD Tryz.func178 rfl (by kernel_rfl) Tryz.ntmps178 rfl (fun w0 M0=>?_)
 refine aE (aF (aB (aN (.inr rfl)) ⟨bI _ _,trivial⟩ ?_))
 refine aC (aA (aE (aE (aF (aI ?_)))))
 refine aB (bX rfl tyS25) zU1 ?_
 refine aB (aN (.inl rfl)) ⟨bI _ _,trivial⟩ ?_
 refine aC (aA (bR (cJ (fun H E=>mA K=some r∧H=[]∧E=[]) ?_ (fun Jj4=>?_))))
 ·rintro _ _ ⟨hF,rfl,rfl⟩
  unfold mA at hF
  refine aA (aE (aF (aB (aN (.inr rfl)) ⟨bI _ _,trivial⟩ ?_)))
  refine aC (aA (a9 (a8 ?_)))
  obtain rfl:=bV hF
  exact aL (.inl rfl) Tryz.results178 (.tmp rfl .nil) rfl rfl
 obtain⟨ol3,hL,hRl3⟩:=aP hF
 refine gB (fun k a w=>∃(x2:Int),eR K a0 a1 k x2=some ol3∧hs _ [] [(0,.vc (pS aH.cod a0)),(1,.vc (pFn Tryz.prog (fun x:aH=>[.va (aH.enc x)]) (fun r:Bool=>.vc (pB r)) a1)),(7,.vc (pI .i64 (a0.length:Int))),(8,.vc (pI .i64 x2))] a w) K (fun a w ⟨_,hF,_⟩=>by cases hF) (fun k a w ⟨x2,hF,hh⟩=>gE ?_ hh) (fun a w hh=>⟨0,hL,bF [] rfl (by decide) (by exact⟨rfl,rfl,rfl,rfl,trivial⟩) hh⟩)
 rw [eR.eq_2] at hF
 refine aE (aF (aB (dQ rfl) zU2 ?_))
 refine aC (aA (aE (bS rfl (fun h5=>?_) (fun h5=>?_))))
 ·have hF:=aV h5 hF
  refine bA (aA (aE (bR (aE (aF (aI ?_))))))
  refine bH ?_
  refine aC (aA (aE (aF (aI ?_))))
  refine aI ?_
  refine aI ?_
  obtain⟨v6,h7,hF⟩:=aP hF
  refine aB (cO rfl tyS25 h7) zU2 ?_
  refine aB (cK 18 rfl rfl (.agg tyA51)) zU1 ?_
  obtain⟨v8,h9,hF⟩:=aP hF
  refine aB (aBd (pre:=fun x:aH=>[.va (aH.enc x)]) (post:=fun r:Bool=>.vc (pB r)) (x:=v6) (r:=v8) rfl h9 rfl) zU2 ?_
  refine aC (aA (bS rfl (fun h10=>?_) (fun h10=>?_)))
  ·have hF:=aV h10 hF
   refine aE (aF (aI ?_))
   refine bH ?_
   refine aC (aA (a9 (a8 ?_)))
   obtain rfl:=bV hF
   obtain rfl:=bV hRl3
   exact aL (.inl rfl) Tryz.results178 (.tmp rfl .nil) rfl rfl
  have hF:=aX h10 hF
  refine bA (bJ (aA (aF ?_)))
  obtain⟨v11,h12,hF⟩:=aP hF
  refine aB (bO rfl h12) ⟨rfl,bI _ _,trivial⟩ ?_
  refine aI ?_
  refine aC ?_
  exact bL (fun a w hh=>⟨v11,hF,bF [] rfl (by decide) (by exact⟨rfl,rfl,rfl,rfl,trivial⟩) hh⟩)
 have hF:=aX h5 hF
 refine dI ?_
 obtain rfl:=bV hF
 exact bU Jj4 ⟨hRl3,rfl,rfl⟩ [] rfl trivial
def fS (K:Nat) (a0:List aH) (a1:(aH→Option Bool)):Option Bool:=
 (lH K a0 a1).bind fun v1=>some (decide (0≤v1))
theorem sY {K:Nat} {a0:List aH} {a1:(aH→Option Bool)} {r:Bool} (hF:fS K a0 a1=some r):Ct Tryz.prog 90 [.vc (pS aH.cod a0),.vc (pFn Tryz.prog (fun x:aH=>[.va (aH.enc x)]) (fun r:Bool=>.vc (pB r)) a1)] (.vc (pB r)):=by
 unfold fS at hF
 refine bD Tryz.func90 rfl (by kernel_rfl) Tryz.ntmps90 rfl (fun w0 M0=>?_)
 refine aE (aF (aB (aN (.inr rfl)) ⟨cW _,trivial⟩ ?_))
 refine aC (aA (aE (aF (aI ?_))))
 refine aI ?_
 obtain⟨v1,h2,hF⟩:=aP hF
 refine aB (aJ rfl (yA h2) rfl) zU2 ?_
 refine aB (uP rfl) ⟨rfl,bI _ _,trivial⟩ ?_
 refine bH ?_
 refine aC (aA (a9 (a8 ?_)))
 obtain rfl:=bV hF
 exact aL (.inl rfl) Tryz.results90 (.tmp rfl .nil) rfl rfl
def uK (K:Nat) (x7:Rat):Option Rat:=
 some x7
def lS (K:Nat) (a0:List aG) (a1:List Rat):Nat→Rat→Int→Option Rat
 |0,_,_=>none
 |k+1,x5,x6=>bif(decide (x6<(a0.length:Int))) then((dC a0 x6).bind fun v11=>bif(decide (0≤v11.dof)) then(bif(decide (v11.dof<(a1.length:Int))) then((dC a1 v11.dof).bind fun v18=>(yR v11.k v18).bind fun v20=>(aAY x5 v20).bind fun v22=>(bW (x6+1)).bind fun v24=>lS K a0 a1 k v22 v24) else((bW (x6+1)).bind fun v26=>lS K a0 a1 k x5 v26)) else((bW (x6+1)).bind fun v28=>lS K a0 a1 k x5 v28)) else(some x5)
def gZ (K:Nat) (a0:List aG) (a1:List Rat):Option Rat:=
 (lS K a0 a1 K 0 0).bind fun x7=>uK K x7
theorem kP {K:Nat} {a0:List aG} {a1:List Rat} {r:Rat} (hF:gZ K a0 a1=some r):Ct Tryz.prog 33 [.vc (pS aG.cod a0),.vc (pS cQ a1)] (.va (eQ r)):=by
 unfold gZ at hF
 refine bD Tryz.func33 rfl (by kernel_rfl) Tryz.ntmps33 rfl (fun w0 M0=>?_)
 refine aE (aF (bP rfl tyZ44q (fun b1=>?_)))
 refine aC (aA (aE (aF (bP rfl tyZ44q (fun b2=>?_)))))
 refine aC (aA (aE (aE (aF (aI ?_)))))
 refine aB (bX rfl tyS49) zU1 ?_
 refine aB (aN (.inl rfl)) ⟨bI _ _,trivial⟩ ?_
 refine aC (aA (bR (cJ (fun H E=>∃(x7:Rat),uK K x7=some r∧H=[⟨some b2,1,44,4,1,(eQ x7)⟩,⟨some b1,1,44,4,1,(eQ 0)⟩]∧E=[(4,.vc (pP (some b1) 0)),(5,.vc (pP (some b2) 0))]) ?_ (fun Jj9=>?_))))
 ·rintro _ _ ⟨x7,hF,rfl,rfl⟩
  unfold uK at hF
  refine aA (aE (aF (aB (bK 0 4 rfl rfl rfl rfl (.agg tyA44)) zU1 ?_)))
  refine bG (dO 1 rfl rfl rfl tyA44.s) zU2 ?_
  refine aC (aA (a9 (a8 ?_)))
  obtain rfl:=bV hF
  exact aL (.inl rfl) Tryz.results33 (bQ 1 4 rfl rfl rfl rfl (.agg tyA44) .nil) rfl rfl
 obtain⟨x7',hL,hRl8⟩:=aP hF
 refine gB (fun k a w=>∃(x5:Rat),∃(x6:Int),lS K a0 a1 k x5 x6=some x7'∧hs _ [⟨some b2,1,44,4,1,(eQ x5)⟩,⟨some b1,1,44,4,1,(eQ 0)⟩] [(1,.vc (pS cQ a1)),(4,.vc (pP (some b1) 0)),(5,.vc (pP (some b2) 0)),(8,.vc (pS aG.cod a0)),(9,.vc (pI .i64 (a0.length:Int))),(10,.vc (pI .i64 x6))] a w) K (fun a w ⟨_,_,hF,_⟩=>by cases hF) (fun k a w ⟨x5,x6,hF,hh⟩=>gE ?_ hh) (fun a w hh=>⟨0,0,hL,bF [0,1] rfl (by decide) (by exact⟨rfl,rfl,rfl,rfl,rfl,rfl,trivial⟩) hh⟩)
 rw [lS.eq_2] at hF
 refine aE (aF (aB (dQ rfl) zU2 ?_))
 refine aC (aA (aE (bS rfl (fun h10=>?_) (fun h10=>?_))))
 ·have hF:=aV h10 hF
  refine bA (aA (aE (bR (aE (aF ?_)))))
  obtain⟨v11,h12,hF⟩:=aP hF
  refine aB (cO rfl tyS49 h12) zU2 ?_
  refine aB (cK 5 rfl rfl (.agg tyA92)) zU1 ?_
  refine bP rfl tyZ92q (fun b13=>?_)
  refine bG (dO 0 rfl rfl rfl tyA92.s) zU2 ?_
  refine aC (aA (aE (aF (aB (bE (off:=0) (k:=0) rfl tyF92_0) zU1 ?_))))
  refine aB (bK 0 1 rfl rfl rfl rfl (.one tyO3)) zU1 ?_
  refine aB (uP rfl) ⟨rfl,bI _ _,trivial⟩ ?_
  refine aI ?_
  refine cP (fun h14=>?_) (fun h14=>?_)
  ·have hF:=aV h14 hF
   refine aY (bE (off:=0) (k:=0) rfl tyF92_0) zU1 ?_
   refine aY (bK 0 1 rfl rfl rfl rfl (.one tyO3)) zU1 ?_
   refine aY (aN (.inl rfl)) zU1 ?_
   refine aY (bX rfl tyS24) zU1 ?_
   refine aY (dQ rfl) zU2 ?_
   refine aB (bM rfl) zU2 ?_
   refine aC (aA (bS rfl (fun h15=>?_) (fun h15=>?_)))
   ·have hF:=aV h15 hF
    obtain⟨v18,h19,hF⟩:=aP hF
    obtain⟨v20,h21,hF⟩:=aP hF
    obtain⟨v22,h23,hF⟩:=aP hF
    refine bT [0,0,2,0,0,16,56,120,254,511,1023] 10 1 [.v (.va (eQ x5)),.v (.vc (pP (some b13) 1)),.v (.va (eQ v11.k)),.v (.vc (pS cQ a1)),.v (.vc (pP (some b13) 0)),.v (.vc (pI .i64 v11.dof)),.v (.vc (pM (cQ.e v18))),.v (.va (eQ v18)),.v (.va (eQ v20)),.v (.va (eQ v22))] aU ⟨d0 (bK 1 4 rfl rfl rfl rfl (.agg tyA44)) zU1,d0 (bE (off:=0) (k:=1) rfl tyF92_1) zU1,d0 (bK 0 4 rfl rfl rfl rfl (.agg tyA44)) zU1,d0 (aN (.inl rfl)) zU1,d0 (bE (off:=0) (k:=0) rfl tyF92_0) zU1,d0 (bK 0 1 rfl rfl rfl rfl (.one tyO3)) zU1,d0 (cO rfl tyS24 h19) zU2,d0 (cK 4 rfl rfl (.agg tyA44)) zU1,d0 (aJ rfl (rP h21) rfl) zU2,d0 (aJ rfl (uZ h23) rfl) zU2,trivial⟩ (fun bs17 G16=>?_)
    refine bG (dO 1 rfl rfl rfl tyA44.s) zU2 ?_
    refine aC (bJ (aA (aF ?_)))
    obtain⟨v24,h25,hF⟩:=aP hF
    refine aB (bO rfl h25) ⟨rfl,bI _ _,trivial⟩ ?_
    refine aI ?_
    refine aC ?_
    exact bL (fun a w hh=>⟨v22,v24,hF,bF [1,2] rfl (by decide) (by exact⟨rfl,rfl,rfl,rfl,rfl,rfl,trivial⟩) hh⟩)
   have hF:=aX h15 hF
   refine bA (bJ (aA (aF ?_)))
   obtain⟨v26,h27,hF⟩:=aP hF
   refine aB (bO rfl h27) ⟨rfl,bI _ _,trivial⟩ ?_
   refine aI ?_
   refine aC ?_
   exact bL (fun a w hh=>⟨x5,v26,hF,bF [1,2] rfl (by decide) (by exact⟨rfl,rfl,rfl,rfl,rfl,rfl,trivial⟩) hh⟩)
  have hF:=aX h14 hF
  refine aM ?_
  refine aM ?_
  refine aM ?_
  refine aM ?_
  refine aM ?_
  refine aB (bN rfl) ⟨rfl,cW _,trivial⟩ ?_
  refine aC (aA (sT rfl ?_))
  refine bA (bJ (aA (aF ?_)))
  obtain⟨v28,h29,hF⟩:=aP hF
  refine aB (bO rfl h29) ⟨rfl,bI _ _,trivial⟩ ?_
  refine aI ?_
  refine aC ?_
  exact bL (fun a w hh=>⟨x5,v28,hF,bF [1,2] rfl (by decide) (by exact⟨rfl,rfl,rfl,rfl,rfl,rfl,trivial⟩) hh⟩)
 have hF:=aX h10 hF
 refine dI ?_
 obtain rfl:=bV hF
 exact bU Jj9 ⟨x5,hRl8,rfl,rfl⟩ [0,1] rfl zU2
def tA (K:Nat):Option Bool:=
 some true
def kZ (K:Nat) (a0:List aG) (a1:Int):Nat→Int→Option (LR Bool Unit)
 |0,_=>none
 |k+1,x2=>bif(decide (x2<(a0.length:Int))) then((dC a0 x2).bind fun v6=>bif(decide (v6.dof<0)) then(some (.ret false)) else(bif(decide (a1≤v6.dof)) then(some (.ret false)) else(bif(decide (0<x2)) then((bW (x2-1)).bind fun v14=>(dC a0 v14).bind fun v16=>bif(decide (v6.dof≤v16.dof)) then(some (.ret false)) else((aAq v6.k).bind fun v19=>bif(!v19) then(some (.ret false)) else((bW (x2+1)).bind fun v22=>kZ K a0 a1 k v22))) else((aAq v6.k).bind fun v24=>bif(!v24) then(some (.ret false)) else((bW (x2+1)).bind fun v27=>kZ K a0 a1 k v27))))) else(some (.go ()))
def rW (K:Nat) (a0:List aG) (a1:Int):Option Bool:=
 (kZ K a0 a1 K 0).bind fun o=>match o with| .ret r=>some r| .go _=>tA K
theorem zY {K:Nat} {a0:List aG} {a1:Int} {r:Bool} (hF:rW K a0 a1=some r):Ct Tryz.prog 154 [.vc (pS aG.cod a0),.vc (pI .i64 a1)] (.vc (pB r)):=by
 unfold rW at hF
 refine bD Tryz.func154 rfl (by kernel_rfl) Tryz.ntmps154 rfl (fun w0 M0=>?_)
 refine aE (aF (aB (aN (.inr rfl)) ⟨cW _,trivial⟩ ?_))
 refine aC (aA (aE (aE (aF (aI ?_)))))
 refine aB (bX rfl tyS49) zU1 ?_
 refine aB (aN (.inl rfl)) ⟨bI _ _,trivial⟩ ?_
 refine aC (aA (bR (cJ (fun H E=>tA K=some r∧H=[]∧E=[]) ?_ (fun Jj4=>?_))))
 ·rintro _ _ ⟨hF,rfl,rfl⟩
  unfold tA at hF
  refine aA (aE (aF (aB (aN (.inr rfl)) ⟨cW _,trivial⟩ ?_)))
  refine aC (aA (a9 (a8 ?_)))
  obtain rfl:=bV hF
  exact aL (.inl rfl) Tryz.results154 (.tmp rfl .nil) rfl rfl
 obtain⟨ol3,hL,hRl3⟩:=aP hF
 refine gB (fun k a w=>∃(x2:Int),kZ K a0 a1 k x2=some ol3∧hs _ [] [(0,.vc (pS aG.cod a0)),(1,.vc (pI .i64 a1)),(7,.vc (pS aG.cod a0)),(8,.vc (pI .i64 (a0.length:Int))),(9,.vc (pI .i64 x2))] a w) K (fun a w ⟨_,hF,_⟩=>by cases hF) (fun k a w ⟨x2,hF,hh⟩=>gE ?_ hh) (fun a w hh=>⟨0,hL,bF [] rfl (by decide) (by exact⟨rfl,rfl,rfl,rfl,rfl,trivial⟩) hh⟩)
 rw [kZ.eq_2] at hF
 refine aE (aF (aB (dQ rfl) zU2 ?_))
 refine aC (aA (aE (bS rfl (fun h5=>?_) (fun h5=>?_))))
 ·have hF:=aV h5 hF
  refine bA (aA (aE (bR (aE (aF (aI ?_))))))
  obtain⟨v6,h7,hF⟩:=aP hF
  refine aB (cO rfl tyS49 h7) zU2 ?_
  refine aB (cK 5 rfl rfl (.agg tyA92)) zU1 ?_
  refine bP rfl tyZ92q (fun b8=>?_)
  refine bH ?_
  refine bG (dO 0 rfl rfl rfl tyA92.s) zU2 ?_
  refine aC (aA (aE ?_))
  rcases Bool.eq_false_or_eq_true (decide (v6.dof<0)) with h11|h11
  ·have hF:=aV h11 hF
   refine bT (0::1::3::7::15::31::15::127::255::511::1023::2047::4095::8191::16383::8191::8191::73727::237567::499711::1023999::2097151::4194303::8388607::16777215::33554431::67108863::134217727::268435455::536870911::[]) 30 0 (.v (.vc (pP (some b8) 0))::.v (.vc (pI .i64 v6.dof))::.v (.vc (pB (decide (v6.dof<0))))::.v (.vc (pB true))::.v .un::.v .un::.v .un::.v .un::.v (.vc (pB true))::.v (.vc (pB true))::.v .un::.v .un::.v .un::.v .un::.v .un::.v .un::.v .un::.v .un::.v .un::.v .un::.v .un::.v .un::.v .un::.v (.vc (pB true))::.v (.vc (pB true))::.v .un::.v .un::.v .un::.v .un::.v (.vc (pB true))::[]) aU ⟨d0 (bE (off:=0) (k:=0) rfl tyF92_0) zU1,d0 (bK 0 1 rfl rfl rfl rfl (.one tyO3)) zU1,d0 (dQ rfl) ⟨rfl,bI _ _,trivial⟩,d0 (cX (aN (.inl rfl)) h11) zU1,⟨rfl,.skipN⟩,⟨rfl,.skipN⟩,⟨rfl,.skipN⟩,⟨rfl,.skipN⟩,d0 (bM rfl) ⟨rfl,cW _,trivial⟩,d0 (aN (.inl rfl)) zU1,⟨rfl,.skipN⟩,⟨rfl,.skipN⟩,⟨rfl,.skipN⟩,⟨rfl,.skipU⟩,⟨rfl,.skipU⟩,⟨rfl,.skipU⟩,⟨rfl,.skipU⟩,⟨rfl,.skipU⟩,⟨rfl,.skipU⟩,⟨rfl,.skipU⟩,⟨rfl,.skipU⟩,⟨rfl,.skipU⟩,⟨rfl,.skipN⟩,d0 (bM rfl) ⟨rfl,cW _,trivial⟩,d0 (aN (.inl rfl)) zU1,⟨rfl,.skipN⟩,⟨rfl,.skipN⟩,⟨rfl,.skipN⟩,⟨rfl,.skipN⟩,d0 (bM rfl) ⟨rfl,cW _,trivial⟩,trivial⟩ (fun bs10 G9=>?_)
   refine aC (aA (iO rfl ?_))
   refine aE (aF (aB (aN (.inr rfl)) ⟨cW _,trivial⟩ ?_))
   refine aC (aA (a9 (a8 ?_)))
   obtain rfl:=bV hF
   obtain rfl:=bV hRl3
   exact aL (.inl rfl) Tryz.results154 (.tmp rfl .nil) rfl rfl
  have hF:=aX h11 hF
  rcases Bool.eq_false_or_eq_true (decide (a1≤v6.dof)) with h12|h12
  ·have hF:=aV h12 hF
   refine bT (0::1::3::7::15::31::15::127::255::511::1023::2047::4095::8191::16383::8191::8191::73727::237567::499711::1023999::2097151::4194303::8388607::16777215::33554431::67108863::134217727::268435455::536870911::[]) 30 0 (.v (.vc (pP (some b8) 0))::.v (.vc (pI .i64 v6.dof))::.v (.vc (pB (decide (v6.dof<0))))::.v (.vc (pB false))::.v (.vc (pP (some b8) 0))::.v (.vc (pI .i64 v6.dof))::.v (.vc (pI .i64 a1))::.v (.vc (pB (decide (a1≤v6.dof))))::.v (.vc (pB (decide (a1≤v6.dof))))::.v (.vc (pB true))::.v .un::.v .un::.v .un::.v .un::.v .un::.v .un::.v .un::.v .un::.v .un::.v .un::.v .un::.v .un::.v .un::.v (.vc (pB true))::.v (.vc (pB true))::.v .un::.v .un::.v .un::.v .un::.v (.vc (pB true))::[]) aU ⟨d0 (bE (off:=0) (k:=0) rfl tyF92_0) zU1,d0 (bK 0 1 rfl rfl rfl rfl (.one tyO3)) zU1,d0 (dQ rfl) ⟨rfl,bI _ _,trivial⟩,d0 (cX (aN (.inl rfl)) h11) zU1,g0 (bE (off:=0) (k:=0) rfl tyF92_0) zU1,g0 (bK 0 1 rfl rfl rfl rfl (.one tyO3)) zU1,g0 (aN (.inl rfl)) zU1,g0 (uP rfl) zU2,d0 (bN rfl) zU2,d0 (cX (aN (.inl rfl)) h12) zU1,⟨rfl,.skipN⟩,⟨rfl,.skipN⟩,⟨rfl,.skipN⟩,⟨rfl,.skipU⟩,⟨rfl,.skipU⟩,⟨rfl,.skipU⟩,⟨rfl,.skipU⟩,⟨rfl,.skipU⟩,⟨rfl,.skipU⟩,⟨rfl,.skipU⟩,⟨rfl,.skipU⟩,⟨rfl,.skipU⟩,⟨rfl,.skipN⟩,d0 (bM rfl) ⟨rfl,cW _,trivial⟩,d0 (aN (.inl rfl)) zU1,⟨rfl,.skipN⟩,⟨rfl,.skipN⟩,⟨rfl,.skipN⟩,⟨rfl,.skipN⟩,d0 (bM rfl) ⟨rfl,cW _,trivial⟩,trivial⟩ (fun bs10 G9=>?_)
   refine aC (aA (iO rfl ?_))
   refine aE (aF (aB (aN (.inr rfl)) ⟨cW _,trivial⟩ ?_))
   refine aC (aA (a9 (a8 ?_)))
   obtain rfl:=bV hF
   obtain rfl:=bV hRl3
   exact aL (.inl rfl) Tryz.results154 (.tmp rfl .nil) rfl rfl
  have hF:=aX h12 hF
  rcases Bool.eq_false_or_eq_true (decide (0<x2)) with h13|h13
  ·have hF:=aV h13 hF
   obtain⟨v14,h15,hF⟩:=aP hF
   obtain⟨v16,h17,hF⟩:=aP hF
   rcases Bool.eq_false_or_eq_true (decide (v6.dof≤v16.dof)) with h18|h18
   ·have hF:=aV h18 hF
    refine bT (0::1::3::7::15::31::15::127::255::511::1023::2047::4095::8191::16383::8191::8191::73727::237567::499711::1023999::2097151::4194303::8388607::16777215::33554431::67108863::134217727::268435455::536870911::[]) 30 0 (.v (.vc (pP (some b8) 0))::.v (.vc (pI .i64 v6.dof))::.v (.vc (pB (decide (v6.dof<0))))::.v (.vc (pB false))::.v (.vc (pP (some b8) 0))::.v (.vc (pI .i64 v6.dof))::.v (.vc (pI .i64 a1))::.v (.vc (pB (decide (a1≤v6.dof))))::.v (.vc (pB (decide (a1≤v6.dof))))::.v (.vc (pB false))::.v (.vc (pI .i64 x2))::.v (.vc (pB (decide (0<x2))))::.v (.vc (pB true))::.v (.vc (pP (some b8) 0))::.v (.vc (pI .i64 v6.dof))::.v (.vc (pS aG.cod a0))::.v (.vc (pI .i64 x2))::.v (.vc (pI .i64 v14))::.v (.vc (pM (aG.cod.e v16)))::.v (.vc (pM (aG.cod.e v16)))::.v (.vc (pI .i64 v16.dof))::.v (.vc (pB (decide (v6.dof≤v16.dof))))::.v (.vc (pB (decide (v6.dof≤v16.dof))))::.v (.vc (pB (decide (v6.dof≤v16.dof))))::.v (.vc (pB true))::.v .un::.v .un::.v .un::.v .un::.v (.vc (pB true))::[]) aU ⟨d0 (bE (off:=0) (k:=0) rfl tyF92_0) zU1,d0 (bK 0 1 rfl rfl rfl rfl (.one tyO3)) zU1,d0 (dQ rfl) ⟨rfl,bI _ _,trivial⟩,d0 (cX (aN (.inl rfl)) h11) zU1,g0 (bE (off:=0) (k:=0) rfl tyF92_0) zU1,g0 (bK 0 1 rfl rfl rfl rfl (.one tyO3)) zU1,g0 (aN (.inl rfl)) zU1,g0 (uP rfl) zU2,d0 (bN rfl) zU2,d0 (cX (aN (.inl rfl)) h12) zU1,g0 (aN (.inl rfl)) zU1,g0 (rV rfl) ⟨rfl,bI _ _,trivial⟩,g0 (cX (aN (.inl rfl)) h13) zU1,g0 (bE (off:=0) (k:=0) rfl tyF92_0) zU1,g0 (bK 0 1 rfl rfl rfl rfl (.one tyO3)) zU1,g0 (aN (.inl rfl)) zU1,g0 (aN (.inl rfl)) zU1,g0 (eM rfl h15) ⟨rfl,bI _ _,trivial⟩,g0 (cO rfl tyS49 h17) zU2,g0 (jR (ps:=(aG.cod.e v16)) (k:=0) rfl tyF92_0) zU1,g0 (cK 1 rfl rfl (.one tyO3)) zU1,g0 (zF rfl) zU2,g0 (bM rfl) zU2,d0 (bN rfl) zU2,d0 (cX (aN (.inl rfl)) h18) zU1,⟨rfl,.skipN⟩,⟨rfl,.skipN⟩,⟨rfl,.skipN⟩,⟨rfl,.skipN⟩,d0 (bM rfl) ⟨rfl,cW _,trivial⟩,trivial⟩ (fun bs10 G9=>?_)
    refine aC (aA (iO rfl ?_))
    refine aE (aF (aB (aN (.inr rfl)) ⟨cW _,trivial⟩ ?_))
    refine aC (aA (a9 (a8 ?_)))
    obtain rfl:=bV hF
    obtain rfl:=bV hRl3
    exact aL (.inl rfl) Tryz.results154 (.tmp rfl .nil) rfl rfl
   have hF:=aX h18 hF
   obtain⟨v19,h20,hF⟩:=aP hF
   refine bT (0::1::3::7::15::31::15::127::255::511::1023::2047::4095::8191::16383::8191::8191::73727::237567::499711::1023999::2097151::4194303::8388607::16777215::33554431::67108863::134217727::268435455::536870911::[]) 30 0 (.v (.vc (pP (some b8) 0))::.v (.vc (pI .i64 v6.dof))::.v (.vc (pB (decide (v6.dof<0))))::.v (.vc (pB false))::.v (.vc (pP (some b8) 0))::.v (.vc (pI .i64 v6.dof))::.v (.vc (pI .i64 a1))::.v (.vc (pB (decide (a1≤v6.dof))))::.v (.vc (pB (decide (a1≤v6.dof))))::.v (.vc (pB false))::.v (.vc (pI .i64 x2))::.v (.vc (pB (decide (0<x2))))::.v (.vc (pB true))::.v (.vc (pP (some b8) 0))::.v (.vc (pI .i64 v6.dof))::.v (.vc (pS aG.cod a0))::.v (.vc (pI .i64 x2))::.v (.vc (pI .i64 v14))::.v (.vc (pM (aG.cod.e v16)))::.v (.vc (pM (aG.cod.e v16)))::.v (.vc (pI .i64 v16.dof))::.v (.vc (pB (decide (v6.dof≤v16.dof))))::.v (.vc (pB (decide (v6.dof≤v16.dof))))::.v (.vc (pB (decide (v6.dof≤v16.dof))))::.v (.vc (pB false))::.v (.vc (pP (some b8) 1))::.v (.va (eQ v6.k))::.v (.vc (pB v19))::.v (.vc (pB (!v19)))::.v (.vc (pB (!v19)))::[]) aU ⟨d0 (bE (off:=0) (k:=0) rfl tyF92_0) zU1,d0 (bK 0 1 rfl rfl rfl rfl (.one tyO3)) zU1,d0 (dQ rfl) ⟨rfl,bI _ _,trivial⟩,d0 (cX (aN (.inl rfl)) h11) zU1,g0 (bE (off:=0) (k:=0) rfl tyF92_0) zU1,g0 (bK 0 1 rfl rfl rfl rfl (.one tyO3)) zU1,g0 (aN (.inl rfl)) zU1,g0 (uP rfl) zU2,d0 (bN rfl) zU2,d0 (cX (aN (.inl rfl)) h12) zU1,g0 (aN (.inl rfl)) zU1,g0 (rV rfl) ⟨rfl,bI _ _,trivial⟩,g0 (cX (aN (.inl rfl)) h13) zU1,g0 (bE (off:=0) (k:=0) rfl tyF92_0) zU1,g0 (bK 0 1 rfl rfl rfl rfl (.one tyO3)) zU1,g0 (aN (.inl rfl)) zU1,g0 (aN (.inl rfl)) zU1,g0 (eM rfl h15) ⟨rfl,bI _ _,trivial⟩,g0 (cO rfl tyS49 h17) zU2,g0 (jR (ps:=(aG.cod.e v16)) (k:=0) rfl tyF92_0) zU1,g0 (cK 1 rfl rfl (.one tyO3)) zU1,g0 (zF rfl) zU2,g0 (bM rfl) zU2,d0 (bN rfl) zU2,d0 (cX (aN (.inl rfl)) h18) zU1,g0 (bE (off:=0) (k:=1) rfl tyF92_1) zU1,g0 (bK 0 4 rfl rfl rfl rfl (.agg tyA44)) zU1,g0 (aJ rfl (qJ h20) rfl) zU1,g0 (hU rfl) zU1,d0 (bN rfl) zU2,trivial⟩ (fun bs10 G9=>?_)
   refine aC (aA (bS rfl (fun h21=>?_) (fun h21=>?_)))
   ·have hF:=aV h21 hF
    refine aE (aF (aB (aN (.inr rfl)) ⟨cW _,trivial⟩ ?_))
    refine aC (aA (a9 (a8 ?_)))
    obtain rfl:=bV hF
    obtain rfl:=bV hRl3
    exact aL (.inl rfl) Tryz.results154 (.tmp rfl .nil) rfl rfl
   have hF:=aX h21 hF
   refine bA (bJ (aA (aF ?_)))
   obtain⟨v22,h23,hF⟩:=aP hF
   refine aB (bO rfl h23) ⟨rfl,bI _ _,trivial⟩ ?_
   refine aI ?_
   refine aC ?_
   exact bL (fun a w hh=>⟨v22,hF,bF [] rfl (by decide) (by exact⟨rfl,rfl,rfl,rfl,rfl,trivial⟩) hh⟩)
  have hF:=aX h13 hF
  obtain⟨v24,h25,hF⟩:=aP hF
  refine bT (0::1::3::7::15::31::15::127::255::511::1023::2047::4095::8191::16383::8191::8191::73727::237567::499711::1023999::2097151::4194303::8388607::16777215::33554431::67108863::134217727::268435455::536870911::[]) 30 0 (.v (.vc (pP (some b8) 0))::.v (.vc (pI .i64 v6.dof))::.v (.vc (pB (decide (v6.dof<0))))::.v (.vc (pB false))::.v (.vc (pP (some b8) 0))::.v (.vc (pI .i64 v6.dof))::.v (.vc (pI .i64 a1))::.v (.vc (pB (decide (a1≤v6.dof))))::.v (.vc (pB (decide (a1≤v6.dof))))::.v (.vc (pB false))::.v (.vc (pI .i64 x2))::.v (.vc (pB (decide (0<x2))))::.v (.vc (pB false))::.v .un::.v .un::.v .un::.v .un::.v .un::.v .un::.v .un::.v .un::.v .un::.v (.vc (pB false))::.v (.vc (pB false))::.v (.vc (pB false))::.v (.vc (pP (some b8) 1))::.v (.va (eQ v6.k))::.v (.vc (pB v24))::.v (.vc (pB (!v24)))::.v (.vc (pB (!v24)))::[]) aU ⟨d0 (bE (off:=0) (k:=0) rfl tyF92_0) zU1,d0 (bK 0 1 rfl rfl rfl rfl (.one tyO3)) zU1,d0 (dQ rfl) ⟨rfl,bI _ _,trivial⟩,d0 (cX (aN (.inl rfl)) h11) zU1,g0 (bE (off:=0) (k:=0) rfl tyF92_0) zU1,g0 (bK 0 1 rfl rfl rfl rfl (.one tyO3)) zU1,g0 (aN (.inl rfl)) zU1,g0 (uP rfl) zU2,d0 (bN rfl) zU2,d0 (cX (aN (.inl rfl)) h12) zU1,g0 (aN (.inl rfl)) zU1,g0 (rV rfl) ⟨rfl,bI _ _,trivial⟩,g0 (cX (aN (.inl rfl)) h13) zU1,⟨rfl,.skipN⟩,⟨rfl,.skipN⟩,⟨rfl,.skipN⟩,⟨rfl,.skipN⟩,⟨rfl,.skipN⟩,⟨rfl,.skipN⟩,⟨rfl,.skipN⟩,⟨rfl,.skipN⟩,⟨rfl,.skipN⟩,g0 (bN rfl) ⟨rfl,cW _,trivial⟩,d0 (bN rfl) zU2,d0 (aN (.inl rfl)) zU1,g0 (bE (off:=0) (k:=1) rfl tyF92_1) zU1,g0 (bK 0 4 rfl rfl rfl rfl (.agg tyA44)) zU1,g0 (aJ rfl (qJ h25) rfl) zU1,g0 (hU rfl) zU1,d0 (bN rfl) zU2,trivial⟩ (fun bs10 G9=>?_)
  refine aC (aA (bS rfl (fun h26=>?_) (fun h26=>?_)))
  ·have hF:=aV h26 hF
   refine aE (aF (aB (aN (.inr rfl)) ⟨cW _,trivial⟩ ?_))
   refine aC (aA (a9 (a8 ?_)))
   obtain rfl:=bV hF
   obtain rfl:=bV hRl3
   exact aL (.inl rfl) Tryz.results154 (.tmp rfl .nil) rfl rfl
  have hF:=aX h26 hF
  refine bA (bJ (aA (aF ?_)))
  obtain⟨v27,h28,hF⟩:=aP hF
  refine aB (bO rfl h28) ⟨rfl,bI _ _,trivial⟩ ?_
  refine aI ?_
  refine aC ?_
  exact bL (fun a w hh=>⟨v27,hF,bF [] rfl (by decide) (by exact⟨rfl,rfl,rfl,rfl,rfl,trivial⟩) hh⟩)
 have hF:=aX h5 hF
 refine dI ?_
 obtain rfl:=bV hF
 exact bU Jj4 ⟨hRl3,rfl,rfl⟩ [] rfl trivial
def k7 (K:Nat) (c0:Int) (c1:aQ) (a0:aH):Option Bool:=
 (rW K a0.j c0).bind fun v2=>bif(!v2) then(some true) else((rW K a0.t c0).bind fun v5=>bif(!v5) then(some true) else((aAq a0.mu).bind fun v8=>bif(!v8) then(some true) else((vU a0.mu).bind fun v11=>bif(decide (v11<0)) then(some true) else((gZ K a0.j c1.v).bind fun v14=>(vU v14).bind fun v16=>some (v16 != 0)))))
theorem y9 {K:Nat} {c0:Int} {c1:aQ} {a0:aH} {r:Bool} (hF:k7 K c0 c1 a0=some r):Ct Tryz.prog 153 [.va (aH.enc a0),.vc (pM (cI.e c0)),.vc (pM (aQ.cod.e c1))] (.vc (pB r)):=by
 unfold k7 at hF
 refine bD Tryz.func153 rfl (by kernel_rfl) Tryz.ntmps153 rfl (fun w0 M0=>?_)
 refine aE (aF (cY rfl rfl trivial (fun b1=>?_)))
 refine aB (aN (.inr rfl)) ⟨cW _,trivial⟩ ?_
 refine aC (aA (aE (aF (aB (bE (off:=0) (k:=8) rfl tyF51_5) zU1 ?_))))
 refine aB (bK 0 1 rfl rfl rfl rfl (.one tyO49)) zU1 ?_
 refine aB (cK 1 rfl rfl (.one tyO3)) zU1 ?_
 obtain⟨v2,h3,hF⟩:=aP hF
 refine aB (aJ rfl (zY h3) rfl) zU2 ?_
 refine aB (hU rfl) zU1 ?_
 refine aI ?_
 refine cP (fun h4=>?_) (fun h4=>?_)
 ·have hF:=aV h4 hF
  refine aM ?_
  refine aM ?_
  refine aM ?_
  refine aM ?_
  refine aM ?_
  refine aB (bM rfl) ⟨rfl,cW _,trivial⟩ ?_
  refine aI ?_
  refine aM ?_
  refine aM ?_
  refine aM ?_
  refine aM ?_
  refine aB (bM rfl) ⟨rfl,cW _,trivial⟩ ?_
  refine aI ?_
  refine aM ?_
  refine aM ?_
  refine aM ?_
  refine aM ?_
  refine aB (bM rfl) ⟨rfl,cW _,trivial⟩ ?_
  refine aI ?_
  refine aM ?_
  refine aM ?_
  refine aM ?_
  refine aM ?_
  refine aM ?_
  refine aM ?_
  refine aM ?_
  refine aB (bM rfl) ⟨rfl,cW _,trivial⟩ ?_
  refine bH ?_
  refine aC (aA (a9 (a8 ?_)))
  obtain rfl:=bV hF
  exact aL (.inl rfl) Tryz.results153 (.tmp rfl .nil) rfl rfl
 have hF:=aX h4 hF
 refine aY (bE (off:=0) (k:=9) rfl tyF51_6) zU1 ?_
 refine aY (bK 0 1 rfl rfl rfl rfl (.one tyO49)) zU1 ?_
 refine aY (cK 1 rfl rfl (.one tyO3)) zU1 ?_
 obtain⟨v5,h6,hF⟩:=aP hF
 refine aY (aJ rfl (zY h6) rfl) zU2 ?_
 refine aY (hU rfl) zU1 ?_
 refine aB (bN rfl) zU2 ?_
 refine aI ?_
 refine cP (fun h7=>?_) (fun h7=>?_)
 ·have hF:=aV h7 hF
  refine aM ?_
  refine aM ?_
  refine aM ?_
  refine aM ?_
  refine aB (bM rfl) ⟨rfl,cW _,trivial⟩ ?_
  refine aI ?_
  refine aM ?_
  refine aM ?_
  refine aM ?_
  refine aM ?_
  refine aB (bM rfl) ⟨rfl,cW _,trivial⟩ ?_
  refine aI ?_
  refine aM ?_
  refine aM ?_
  refine aM ?_
  refine aM ?_
  refine aM ?_
  refine aM ?_
  refine aM ?_
  refine aB (bM rfl) ⟨rfl,cW _,trivial⟩ ?_
  refine bH ?_
  refine aC (aA (a9 (a8 ?_)))
  obtain rfl:=bV hF
  exact aL (.inl rfl) Tryz.results153 (.tmp rfl .nil) rfl rfl
 have hF:=aX h7 hF
 refine aY (bE (off:=0) (k:=10) rfl tyF51_7) zU1 ?_
 refine aY (bK 0 4 rfl rfl rfl rfl (.agg tyA44)) zU1 ?_
 obtain⟨v8,h9,hF⟩:=aP hF
 refine aY (aJ rfl (qJ h9) rfl) zU1 ?_
 refine aY (hU rfl) zU1 ?_
 refine aB (bN rfl) zU2 ?_
 refine aI ?_
 refine cP (fun h10=>?_) (fun h10=>?_)
 ·have hF:=aV h10 hF
  refine aM ?_
  refine aM ?_
  refine aM ?_
  refine aM ?_
  refine aB (bM rfl) ⟨rfl,cW _,trivial⟩ ?_
  refine aI ?_
  refine aM ?_
  refine aM ?_
  refine aM ?_
  refine aM ?_
  refine aM ?_
  refine aM ?_
  refine aM ?_
  refine aB (bM rfl) ⟨rfl,cW _,trivial⟩ ?_
  refine bH ?_
  refine aC (aA (a9 (a8 ?_)))
  obtain rfl:=bV hF
  exact aL (.inl rfl) Tryz.results153 (.tmp rfl .nil) rfl rfl
 have hF:=aX h10 hF
 refine aY (bE (off:=0) (k:=10) rfl tyF51_7) zU1 ?_
 refine aY (bK 0 4 rfl rfl rfl rfl (.agg tyA44)) zU1 ?_
 obtain⟨v11,h12,hF⟩:=aP hF
 refine aY (aJ rfl (iM h12) rfl) zU1 ?_
 refine aY (dQ rfl) ⟨rfl,bI _ _,trivial⟩ ?_
 refine aB (bN rfl) zU2 ?_
 refine aI ?_
 refine cP (fun h13=>?_) (fun h13=>?_)
 ·have hF:=aV h13 hF
  refine aM ?_
  refine aM ?_
  refine aM ?_
  refine aM ?_
  refine aM ?_
  refine aM ?_
  refine aM ?_
  refine aB (bM rfl) ⟨rfl,cW _,trivial⟩ ?_
  refine bH ?_
  refine aC (aA (a9 (a8 ?_)))
  obtain rfl:=bV hF
  exact aL (.inl rfl) Tryz.results153 (.tmp rfl .nil) rfl rfl
 have hF:=aX h13 hF
 refine aY (bE (off:=0) (k:=8) rfl tyF51_5) zU1 ?_
 refine aY (bK 0 1 rfl rfl rfl rfl (.one tyO49)) zU1 ?_
 refine aY (jR (ps:=(aQ.cod.e c1)) (k:=2) rfl tyF113_2) zU1 ?_
 refine aY (cK 1 rfl rfl (.one tyO24)) zU1 ?_
 obtain⟨v14,h15,hF⟩:=aP hF
 refine aY (aJ rfl (kP h15) rfl) zU2 ?_
 obtain⟨v16,h17,hF⟩:=aP hF
 refine aY (aJ rfl (iM h17) rfl) zU1 ?_
 refine aY (s7 rfl) ⟨rfl,bI _ _,trivial⟩ ?_
 refine aB (bN rfl) zU2 ?_
 refine bH ?_
 refine aC (aA (a9 (a8 ?_)))
 obtain rfl:=bV hF
 exact aL (.inl rfl) Tryz.results153 (.tmp rfl .nil) rfl rfl
def oH (K:Nat) (a0:aQ):Option Bool:=
 (fS K a0.rows (k7 K (a0.dofs.length:Int) a0)).bind fun v16=>some (!v16)
def iB (K:Nat) (a0:aQ):Nat→Int→Option (LR Bool Unit)
 |0,_=>none
 |k+1,x13=>bif(decide (x13<(a0.dofs.length:Int))) then((dC a0.dofs x13).bind fun v19=>(aAq v19.inv).bind fun v22=>bif(!v22) then(some (.ret false)) else((vU v19.inv).bind fun v25=>bif(decide (v25≤0)) then(some (.ret false)) else((bW (x13+1)).bind fun v28=>iB K a0 k v28))) else(some (.go ()))
def kX (K:Nat) (a0:aQ):Option Bool:=
 bif(decide (12<(a0.dofs.length:Int))) then(some false) else(bif((a0.load.length:Int) != (a0.dofs.length:Int)) then(some false) else(bif((a0.v.length:Int) != (a0.dofs.length:Int)) then(some false) else((rO K a0.load).bind fun v6=>bif(!v6) then(some false) else((rO K a0.v).bind fun v9=>bif(!v9) then(some false) else((iB K a0 K 0).bind fun o=>match o with| .ret r=>some r| .go _=>oH K a0)))))
theorem tC {K:Nat} {a0:aQ} {r:Bool} (hF:kX K a0=some r):Ct Tryz.prog 69 [.va (aQ.enc a0)] (.vc (pB r)):=by
 unfold kX at hF
 refine bD Tryz.func69 rfl (by kernel_rfl) Tryz.ntmps69 rfl (fun w0 M0=>?_)
 refine aE (aF (cY rfl rfl trivial (fun b1=>?_)))
 refine aB (aN (.inr rfl)) ⟨cW _,trivial⟩ ?_
 refine aC (aA (aE (aF (aB (bE (off:=0) (k:=0) rfl tyF113_0) zU1 ?_))))
 refine aB (bK 0 1 rfl rfl rfl rfl (.one tyO23)) zU1 ?_
 refine aB (bX rfl tyS23) zU1 ?_
 refine bP rfl tyZ3q (fun b2=>?_)
 refine bG (dO 0 rfl rfl rfl tyO3.s) zU2 ?_
 refine aC (aA (aE (aE (aF (aB (bK 0 1 rfl rfl rfl rfl (.one tyO3)) zU1 ?_)))))
 refine aB (rV rfl) ⟨rfl,bI _ _,trivial⟩ ?_
 refine aI ?_
 refine cP (fun h3=>?_) (fun h3=>?_)
 ·have hF:=aV h3 hF
  refine aM ?_
  refine aM ?_
  refine aM ?_
  refine aM ?_
  refine aM ?_
  refine aB (bM rfl) ⟨rfl,cW _,trivial⟩ ?_
  refine aI ?_
  refine aM ?_
  refine aM ?_
  refine aM ?_
  refine aM ?_
  refine aM ?_
  refine aB (bM rfl) ⟨rfl,cW _,trivial⟩ ?_
  refine aI ?_
  refine aM ?_
  refine aM ?_
  refine aM ?_
  refine aM ?_
  refine aB (bM rfl) ⟨rfl,cW _,trivial⟩ ?_
  refine aI ?_
  refine aM ?_
  refine aM ?_
  refine aM ?_
  refine aM ?_
  refine aB (bM rfl) ⟨rfl,cW _,trivial⟩ ?_
  refine aC (aA (iO rfl ?_))
  refine aE (aF (aB (aN (.inr rfl)) ⟨cW _,trivial⟩ ?_))
  refine aC (aA (a9 (a8 ?_)))
  obtain rfl:=bV hF
  exact aL (.inl rfl) Tryz.results69 (.tmp rfl .nil) rfl rfl
 have hF:=aX h3 hF
 refine aY (bE (off:=0) (k:=1) rfl tyF113_1) zU1 ?_
 refine aY (bK 1 1 rfl rfl rfl rfl (.one tyO24)) zU1 ?_
 refine aY (bX rfl tyS24) zU1 ?_
 refine aY (bK 0 1 rfl rfl rfl rfl (.one tyO3)) zU1 ?_
 refine aY (s7 rfl) zU2 ?_
 refine aB (bN rfl) zU2 ?_
 refine aI ?_
 refine cP (fun h4=>?_) (fun h4=>?_)
 ·have hF:=aV h4 hF
  refine aM ?_
  refine aM ?_
  refine aM ?_
  refine aM ?_
  refine aM ?_
  refine aB (bM rfl) ⟨rfl,cW _,trivial⟩ ?_
  refine aI ?_
  refine aM ?_
  refine aM ?_
  refine aM ?_
  refine aM ?_
  refine aB (bM rfl) ⟨rfl,cW _,trivial⟩ ?_
  refine aI ?_
  refine aM ?_
  refine aM ?_
  refine aM ?_
  refine aM ?_
  refine aB (bM rfl) ⟨rfl,cW _,trivial⟩ ?_
  refine aC (aA (iO rfl ?_))
  refine aE (aF (aB (aN (.inr rfl)) ⟨cW _,trivial⟩ ?_))
  refine aC (aA (a9 (a8 ?_)))
  obtain rfl:=bV hF
  exact aL (.inl rfl) Tryz.results69 (.tmp rfl .nil) rfl rfl
 have hF:=aX h4 hF
 refine aY (bE (off:=0) (k:=2) rfl tyF113_2) zU1 ?_
 refine aY (bK 1 1 rfl rfl rfl rfl (.one tyO24)) zU1 ?_
 refine aY (bX rfl tyS24) zU1 ?_
 refine aY (bK 0 1 rfl rfl rfl rfl (.one tyO3)) zU1 ?_
 refine aY (s7 rfl) zU2 ?_
 refine aB (bN rfl) zU2 ?_
 refine aI ?_
 refine cP (fun h5=>?_) (fun h5=>?_)
 ·have hF:=aV h5 hF
  refine aM ?_
  refine aM ?_
  refine aM ?_
  refine aM ?_
  refine aB (bM rfl) ⟨rfl,cW _,trivial⟩ ?_
  refine aI ?_
  refine aM ?_
  refine aM ?_
  refine aM ?_
  refine aM ?_
  refine aB (bM rfl) ⟨rfl,cW _,trivial⟩ ?_
  refine aC (aA (iO rfl ?_))
  refine aE (aF (aB (aN (.inr rfl)) ⟨cW _,trivial⟩ ?_))
  refine aC (aA (a9 (a8 ?_)))
  obtain rfl:=bV hF
  exact aL (.inl rfl) Tryz.results69 (.tmp rfl .nil) rfl rfl
 have hF:=aX h5 hF
 refine aY (bE (off:=0) (k:=1) rfl tyF113_1) zU1 ?_
 refine aY (bK 1 1 rfl rfl rfl rfl (.one tyO24)) zU1 ?_
 obtain⟨v6,h7,hF⟩:=aP hF
 refine aY (aJ rfl (xG h7) rfl) zU1 ?_
 refine aY (hU rfl) zU1 ?_
 refine aB (bN rfl) zU2 ?_
 refine aI ?_
 refine cP (fun h8=>?_) (fun h8=>?_)
 ·have hF:=aV h8 hF
  refine aM ?_
  refine aM ?_
  refine aM ?_
  refine aM ?_
  refine aB (bM rfl) ⟨rfl,cW _,trivial⟩ ?_
  refine aC (aA (iO rfl ?_))
  refine aE (aF (aB (aN (.inr rfl)) ⟨cW _,trivial⟩ ?_))
  refine aC (aA (a9 (a8 ?_)))
  obtain rfl:=bV hF
  exact aL (.inl rfl) Tryz.results69 (.tmp rfl .nil) rfl rfl
 have hF:=aX h8 hF
 refine aY (bE (off:=0) (k:=2) rfl tyF113_2) zU1 ?_
 refine aY (bK 1 1 rfl rfl rfl rfl (.one tyO24)) zU1 ?_
 obtain⟨v9,h10,hF⟩:=aP hF
 refine aY (aJ rfl (xG h10) rfl) zU1 ?_
 refine aY (hU rfl) zU1 ?_
 refine aB (bN rfl) zU2 ?_
 refine aC (aA (bS rfl (fun h11=>?_) (fun h11=>?_)))
 ·have hF:=aV h11 hF
  refine aE (aF (aB (aN (.inr rfl)) ⟨cW _,trivial⟩ ?_))
  refine aC (aA (a9 (a8 ?_)))
  obtain rfl:=bV hF
  exact aL (.inl rfl) Tryz.results69 (.tmp rfl .nil) rfl rfl
 have hF:=aX h11 hF
 refine bA (aA (aE (aE (aF (aB (bE (off:=0) (k:=0) rfl tyF113_0) zU1 ?_)))))
 refine aB (bK 1 1 rfl rfl rfl rfl (.one tyO23)) zU1 ?_
 refine aB (bX rfl tyS23) zU1 ?_
 refine aB (aN (.inl rfl)) ⟨bI _ _,trivial⟩ ?_
 refine aC (aA (bR (cJ (fun H E=>oH K a0=some r∧H=[⟨some b2,1,3,1,1,[pI .i64 (a0.dofs.length:Int)]⟩,⟨some b1,1,113,4,1,(aQ.enc a0)⟩]∧E=[(1,.vc (pP (some b1) 0)),(3,.vc (pP (some b2) 0))]) ?_ (fun Jj15=>?_))))
 ·rintro _ _ ⟨hF,rfl,rfl⟩
  unfold oH at hF
  refine aA (aE (aF (aB (bE (off:=0) (k:=3) rfl tyF113_3) zU1 ?_)))
  refine aB (bK 1 1 rfl rfl rfl rfl (.one tyO25)) zU1 ?_
  refine aGP 0 [(3,0)] rfl zU1 rfl ?_
  refine aGP 0 [(1,0),(55,3)] rfl zU2 rfl ?_
  refine aB (aKr (φ:=(k7 K (a0.dofs.length:Int) a0)) (pre:=fun x:aH=>[.va (aH.enc x)]) (post:=fun r:Bool=>.vc (pB r)) (xs:=[.tmp 3,.tmp 1]) (cs:=[pM (cI.e (a0.dofs.length:Int)),pM (aQ.cod.e a0)]) rfl rfl (fun x r h=>y9 h)) zU2 ?_
  obtain⟨v16,h17,hF⟩:=aP hF
  refine aB (aJ rfl (sY h17) rfl) zU2 ?_
  refine aB (hU rfl) zU1 ?_
  refine bH ?_
  refine aC (aA (a9 (a8 ?_)))
  obtain rfl:=bV hF
  exact aL (.inl rfl) Tryz.results69 (.tmp rfl .nil) rfl rfl
 obtain⟨ol14,hL,hRl14⟩:=aP hF
 refine gB (fun k a w=>∃(x13:Int),iB K a0 k x13=some ol14∧hs _ [⟨some b2,1,3,1,1,[pI .i64 (a0.dofs.length:Int)]⟩,⟨some b1,1,113,4,1,(aQ.enc a0)⟩] [(1,.vc (pP (some b1) 0)),(3,.vc (pP (some b2) 0)),(38,.vc (pS aT.cod a0.dofs)),(39,.vc (pI .i64 (a0.dofs.length:Int))),(40,.vc (pI .i64 x13))] a w) K (fun a w ⟨_,hF,_⟩=>by cases hF) (fun k a w ⟨x13,hF,hh⟩=>gE ?_ hh) (fun a w hh=>⟨0,hL,bF [0,1] rfl (by decide) (by exact⟨rfl,rfl,rfl,rfl,rfl,trivial⟩) hh⟩)
 rw [iB.eq_2] at hF
 refine aE (aF (aB (dQ rfl) zU2 ?_))
 refine aC (aA (aE (bS rfl (fun h18=>?_) (fun h18=>?_))))
 ·have hF:=aV h18 hF
  refine bA (aA (aE (bR (aE (aF ?_)))))
  obtain⟨v19,h20,hF⟩:=aP hF
  refine aB (cO rfl tyS23 h20) zU2 ?_
  refine aB (cK 17 rfl rfl (.agg tyA108)) zU1 ?_
  refine bP rfl tyZ108q (fun b21=>?_)
  refine bG (dO 0 rfl rfl rfl tyA108.s) zU2 ?_
  refine aC (aA (aE (aF (aB (bE (off:=0) (k:=0) rfl tyF108_0) zU1 ?_))))
  refine aB (bK 0 4 rfl rfl rfl rfl (.agg tyA44)) zU1 ?_
  obtain⟨v22,h23,hF⟩:=aP hF
  refine aB (aJ rfl (qJ h23) rfl) zU1 ?_
  refine aB (hU rfl) zU1 ?_
  refine aI ?_
  refine cP (fun h24=>?_) (fun h24=>?_)
  ·have hF:=aV h24 hF
   refine aM ?_
   refine aM ?_
   refine aM ?_
   refine aM ?_
   refine aB (bM rfl) ⟨rfl,cW _,trivial⟩ ?_
   refine aC (aA (iO rfl ?_))
   refine aE (aF (aB (aN (.inr rfl)) ⟨cW _,trivial⟩ ?_))
   refine aC (aA (a9 (a8 ?_)))
   obtain rfl:=bV hF
   obtain rfl:=bV hRl14
   exact aL (.inl rfl) Tryz.results69 (.tmp rfl .nil) rfl rfl
  have hF:=aX h24 hF
  refine aY (bE (off:=0) (k:=0) rfl tyF108_0) zU1 ?_
  refine aY (bK 0 4 rfl rfl rfl rfl (.agg tyA44)) zU1 ?_
  obtain⟨v25,h26,hF⟩:=aP hF
  refine aY (aJ rfl (iM h26) rfl) zU1 ?_
  refine aY (zF rfl) ⟨rfl,bI _ _,trivial⟩ ?_
  refine aB (bN rfl) zU2 ?_
  refine aC (aA (bS rfl (fun h27=>?_) (fun h27=>?_)))
  ·have hF:=aV h27 hF
   refine aE (aF (aB (aN (.inr rfl)) ⟨cW _,trivial⟩ ?_))
   refine aC (aA (a9 (a8 ?_)))
   obtain rfl:=bV hF
   obtain rfl:=bV hRl14
   exact aL (.inl rfl) Tryz.results69 (.tmp rfl .nil) rfl rfl
  have hF:=aX h27 hF
  refine bA (bJ (aA (aF ?_)))
  obtain⟨v28,h29,hF⟩:=aP hF
  refine aB (bO rfl h29) ⟨rfl,bI _ _,trivial⟩ ?_
  refine aI ?_
  refine aC ?_
  exact bL (fun a w hh=>⟨v28,hF,bF [1,2] rfl (by decide) (by exact⟨rfl,rfl,rfl,rfl,rfl,trivial⟩) hh⟩)
 have hF:=aX h18 hF
 refine dI ?_
 obtain rfl:=bV hF
 exact bU Jj15 ⟨hRl14,rfl,rfl⟩ [0,1] rfl zU2
def kW (K:Nat) (a0:aQ) (a1:aH):Option Int:=
 (gZ K a1.t a0.v).bind fun v3=>(vU v3).bind fun v5=>some v5
theorem tE {K:Nat} {a0:aQ} {a1:aH} {r:Int} (hF:kW K a0 a1=some r):Ct Tryz.prog 155 [.va (aQ.enc a0),.va (aH.enc a1)] (.vc (pI .i64 r)):=by
 unfold kW at hF
 refine bD Tryz.func155 rfl (by kernel_rfl) Tryz.ntmps155 rfl (fun w0 M0=>?_)
 refine aE (aF (cY rfl rfl trivial (fun b1=>?_)))
 refine cY rfl rfl trivial (fun b2=>?_)
 refine aB (aN (.inr rfl)) ⟨bI _ _,trivial⟩ ?_
 refine aC (aA (aE (aF (aB (bE (off:=0) (k:=9) rfl tyF51_6) zU1 ?_))))
 refine aB (bK 0 1 rfl rfl rfl rfl (.one tyO49)) zU1 ?_
 refine aB (bE (off:=0) (k:=2) rfl tyF113_2) zU1 ?_
 refine aB (bK 1 1 rfl rfl rfl rfl (.one tyO24)) zU1 ?_
 obtain⟨v3,h4,hF⟩:=aP hF
 refine aB (aJ rfl (kP h4) rfl) zU2 ?_
 obtain⟨v5,h6,hF⟩:=aP hF
 refine aB (aJ rfl (iM h6) rfl) zU1 ?_
 refine bH ?_
 refine aC (aA (a9 (a8 ?_)))
 obtain rfl:=bV hF
 exact aL (.inl rfl) Tryz.results155 (.tmp rfl .nil) rfl rfl
end Go.Proofs.YtcjdedkdoagifaaGreat
