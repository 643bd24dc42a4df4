import Derived.Test.YtcjdedkdoagifaaGreatPC
set_option linter.unusedVariables false
set_option maxRecDepth 100000
namespace Go.Proofs.YtcjdedkdoagifaaGreat
structure aB4 where
 inv:Rat
 load:Rat
 bound:Bool
 lo:Rat
 hi:Rat
noncomputable def aB4.enc (x:aB4):List CP:=(eQ x.inv)++(eQ x.load)++[pB x.bound]++(eQ x.lo)++(eQ x.hi)
noncomputable def aB4.cod:Cd aB4:=⟨17,aB4.enc,fun _=>rfl⟩
structure bE where
 inv:Rat
 load:Rat
 bound:Bool
 lo:Rat
 hi:Rat
noncomputable def bE.enc (x:bE):List CP:=(eQ x.inv)++(eQ x.load)++[pB x.bound]++(eQ x.lo)++(eQ x.hi)
noncomputable def bE.cod:Cd bE:=⟨17,bE.enc,fun _=>rfl⟩
structure aQ where
 dof:Int
 k:Rat
noncomputable def aQ.enc (x:aQ):List CP:=[pI .i64 x.dof]++(eQ x.k)
noncomputable def aQ.cod:Cd aQ:=⟨5,aQ.enc,fun _=>rfl⟩
structure aK where
 kind:Int
 a:Int
 b:Int
 edge:Int
 gap:Rat
 j:List aQ
 t:List aQ
 mu:Rat
 e:Rat
noncomputable def aK.enc (x:aK):List CP:=[pI .i64 x.kind]++[pI .i64 x.a]++[pI .i64 x.b]++[pI .i64 x.edge]++(eQ x.gap)++[pS aQ.cod x.j]++[pS aQ.cod x.t]++(eQ x.mu)++(eQ x.e)
noncomputable def aK.cod:Cd aK:=⟨18,aK.enc,fun _=>rfl⟩
structure aCk where
 dofs:List bE
 load:List Rat
 v:List Rat
 rows:List aK
noncomputable def aCk.enc (x:aCk):List CP:=[pS bE.cod x.dofs]++[pS cQ x.load]++[pS cQ x.v]++[pS aK.cod x.rows]
noncomputable def aCk.cod:Cd aCk:=⟨4,aCk.enc,fun _=>rfl⟩
structure aBV where
 row:Int
 kind:Int
noncomputable def aBV.enc (x:aBV):List CP:=[pI .i64 x.row]++[pI .i64 x.kind]
noncomputable def aBV.cod:Cd aBV:=⟨2,aBV.enc,fun _=>rfl⟩
structure aCc where
 n:Int
 rows:List (List Rat)
 basic:List Int
noncomputable def aCc.enc (x:aCc):List CP:=[pI .i64 x.n]++[pS (sH cQ) x.rows]++[pS cI x.basic]
noncomputable def aCc.cod:Cd aCc:=⟨3,aCc.enc,fun _=>rfl⟩
structure aEW where
 dofs:List bE
 load:List Rat
 v:List Rat
 rows:List aK
noncomputable def aEW.enc (x:aEW):List CP:=[pS bE.cod x.dofs]++[pS cQ x.load]++[pS cQ x.v]++[pS aK.cod x.rows]
noncomputable def aEW.cod:Cd aEW:=⟨4,aEW.enc,fun _=>rfl⟩
structure aEw where
 kind:Int
 a:Int
 b:Int
 edge:Int
 gap:Rat
 j:List aQ
 t:List aQ
 mu:Rat
 e:Rat
noncomputable def aEw.enc (x:aEw):List CP:=[pI .i64 x.kind]++[pI .i64 x.a]++[pI .i64 x.b]++[pI .i64 x.edge]++(eQ x.gap)++[pS aQ.cod x.j]++[pS aQ.cod x.t]++(eQ x.mu)++(eQ x.e)
noncomputable def aEw.cod:Cd aEw:=⟨18,aEw.enc,fun _=>rfl⟩
structure aEl where
 n:Rat
 f:Rat
noncomputable def aEl.enc (x:aEl):List CP:=(eQ x.n)++(eQ x.f)
noncomputable def aEl.cod:Cd aEl:=⟨8,aEl.enc,fun _=>rfl⟩
structure aEM where
 z:List Rat
 w:List Rat
 pivots:Int
noncomputable def aEM.enc (x:aEM):List CP:=[pS cQ x.z]++[pS cQ x.w]++[pI .i64 x.pivots]
noncomputable def aEM.cod:Cd aEM:=⟨3,aEM.enc,fun _=>rfl⟩
structure aEs where
 dof:Int
 k:Rat
noncomputable def aEs.enc (x:aEs):List CP:=[pI .i64 x.dof]++(eQ x.k)
noncomputable def aEs.cod:Cd aEs:=⟨5,aEs.enc,fun _=>rfl⟩
structure cC where
 z:List Rat
 w:List Rat
 pivots:Int
noncomputable def cC.enc (x:cC):List CP:=[pS cQ x.z]++[pS cQ x.w]++[pI .i64 x.pivots]
noncomputable def cC.cod:Cd cC:=⟨3,cC.enc,fun _=>rfl⟩
structure aS where
 n:Rat
 f:Rat
noncomputable def aS.enc (x:aS):List CP:=(eQ x.n)++(eQ x.f)
noncomputable def aS.cod:Cd aS:=⟨8,aS.enc,fun _=>rfl⟩
structure l9 where
 n:Int
 rows:List (List Rat)
 basic:List Int
noncomputable def l9.enc (x:l9):List CP:=[pI .i64 x.n]++[pS (sH cQ) x.rows]++[pS cI x.basic]
noncomputable def l9.cod:Cd l9:=⟨3,l9.enc,fun _=>rfl⟩
structure bH where
 dofs:List bE
 load:List Rat
 v:List Rat
 rows:List aK
noncomputable def bH.enc (x:bH):List CP:=[pS bE.cod x.dofs]++[pS cQ x.load]++[pS cQ x.v]++[pS aK.cod x.rows]
noncomputable def bH.cod:Cd bH:=⟨4,bH.enc,fun _=>rfl⟩
structure aM where
 dofs:List bE
 load:List Rat
 v:List Rat
 rows:List aK
noncomputable def aM.enc (x:aM):List CP:=[pS bE.cod x.dofs]++[pS cQ x.load]++[pS cQ x.v]++[pS aK.cod x.rows]
noncomputable def aM.cod:Cd aM:=⟨4,aM.enc,fun _=>rfl⟩
structure aH where
 row:Int
 kind:Int
noncomputable def aH.enc (x:aH):List CP:=[pI .i64 x.row]++[pI .i64 x.kind]
noncomputable def aH.cod:Cd aH:=⟨2,aH.enc,fun _=>rfl⟩
theorem tyA108:TyA Tryz.prog 108 17:=mkA Tryz.underlying108 rfl (by kernel_rfl)
theorem tyA113:TyA Tryz.prog 113 4:=mkA Tryz.underlying113 rfl (by kernel_rfl)
theorem tyA118:TyA Tryz.prog 118 2:=mkA Tryz.underlying118 rfl (by kernel_rfl)
theorem tyA27:TyA Tryz.prog 27 4:=mkA Tryz.underlying27 rfl (by kernel_rfl)
theorem tyA51:TyA Tryz.prog 51 18:=mkA Tryz.underlying51 rfl (by kernel_rfl)
theorem tyA58:TyA Tryz.prog 58 8:=mkA Tryz.underlying58 rfl (by kernel_rfl)
theorem tyA68:TyA Tryz.prog 68 3:=mkA Tryz.underlying68 rfl (by kernel_rfl)
theorem tyA92:TyA Tryz.prog 92 5:=mkA Tryz.underlying92 rfl (by kernel_rfl)
theorem tyB108q:TyB Tryz.prog 108 [(0,4),(4,4),(8,1),(9,4),(13,4)] ((eQ 0)++(eQ 0)++[pB false]++(eQ 0)++(eQ 0)):=mkB (z:=.agg #[.bool false,.slice none 0 0,.bool false,.slice none 0 0,.bool false,.slice none 0 0,.bool false,.slice none 0 0,.bool false,.bool false,.slice none 0 0,.bool false,.slice none 0 0,.bool false,.slice none 0 0,.bool false,.slice none 0 0]) (by kernel_rfl) Tryz.underlying108 (by kernel_rfl) (fun M=>bR.app (bR.app (bR.app (bR.app (eQ0 M) (eQ0 M)) (show bR M [pB false] [.bool false] from⟨rfl,trivial⟩)) (eQ0 M)) (eQ0 M))
theorem tyB113q:TyB Tryz.prog 113 [(0,1),(1,1),(2,1),(3,1)] ([pS bE.cod ([]:List bE)]++[pS cQ ([]:List Rat)]++[pS cQ ([]:List Rat)]++[pS aK.cod ([]:List aK)]):=mkB (z:=.agg #[.slice none 0 0,.slice none 0 0,.slice none 0 0,.slice none 0 0]) (by kernel_rfl) Tryz.underlying113 (by kernel_rfl) (fun M=>bR.app (bR.app (bR.app (show bR M [pS bE.cod ([]:List bE)] [.slice none 0 0] from⟨eJ bE.cod M,trivial⟩) (show bR M [pS cQ ([]:List Rat)] [.slice none 0 0] from⟨eJ cQ M,trivial⟩)) (show bR M [pS cQ ([]:List Rat)] [.slice none 0 0] from⟨eJ cQ M,trivial⟩)) (show bR M [pS aK.cod ([]:List aK)] [.slice none 0 0] from⟨eJ aK.cod M,trivial⟩))
theorem tyB118q:TyB Tryz.prog 118 [(0,1),(1,1)] ([pI .i64 0]++[pI .i64 0]):=mkB (z:=.agg #[.int .i64 0,.int .i64 0]) (by kernel_rfl) Tryz.underlying118 (by kernel_rfl) (fun M=>bR.app (show bR M [pI .i64 0] [.int .i64 0] from⟨rfl,trivial⟩) (show bR M [pI .i64 0] [.int .i64 0] from⟨rfl,trivial⟩))
theorem tyB151_o1_o2q:TyB Tryz.prog 151 [(0,1),(1,1),(2,1)] ([pI .i64 0]++[pO none 0 0]++[pO none 0 0]):=mkB (z:=.agg #[.int .i64 0,.slice none 0 0,.slice none 0 0]) (by kernel_rfl) Tryz.underlying151 (by kernel_rfl) (fun M=>bR.app (bR.app (show bR M [pI .i64 0] [.int .i64 0] from⟨rfl,trivial⟩) (show bR M [pO none 0 0] [.slice none 0 0] from⟨.inl rfl,trivial⟩)) (show bR M [pO none 0 0] [.slice none 0 0] from⟨.inl rfl,trivial⟩))
theorem tyB27q:TyB Tryz.prog 27 [(0,1),(1,1),(2,1),(3,1)] ([pS bE.cod ([]:List bE)]++[pS cQ ([]:List Rat)]++[pS cQ ([]:List Rat)]++[pS aK.cod ([]:List aK)]):=mkB (z:=.agg #[.slice none 0 0,.slice none 0 0,.slice none 0 0,.slice none 0 0]) (by kernel_rfl) Tryz.underlying27 (by kernel_rfl) (fun M=>bR.app (bR.app (bR.app (show bR M [pS bE.cod ([]:List bE)] [.slice none 0 0] from⟨eJ bE.cod M,trivial⟩) (show bR M [pS cQ ([]:List Rat)] [.slice none 0 0] from⟨eJ cQ M,trivial⟩)) (show bR M [pS cQ ([]:List Rat)] [.slice none 0 0] from⟨eJ cQ M,trivial⟩)) (show bR M [pS aK.cod ([]:List aK)] [.slice none 0 0] from⟨eJ aK.cod M,trivial⟩))
theorem tyB44q:TyB Tryz.prog 44 [(0,2),(2,2)] (eQ 0):=mkB (z:=.agg #[.bool false,.slice none 0 0,.bool false,.slice none 0 0]) (by kernel_rfl) Tryz.underlying44 (by kernel_rfl) (fun M=>eQ0 M)
theorem tyB51q:TyB Tryz.prog 51 [(0,1),(1,1),(2,1),(3,1),(4,4),(8,1),(9,1),(10,4),(14,4)] ([pI .i64 0]++[pI .i64 0]++[pI .i64 0]++[pI .i64 0]++(eQ 0)++[pS aQ.cod ([]:List aQ)]++[pS aQ.cod ([]:List aQ)]++(eQ 0)++(eQ 0)):=mkB (z:=.agg #[.int .i64 0,.int .i64 0,.int .i64 0,.int .i64 0,.bool false,.slice none 0 0,.bool false,.slice none 0 0,.slice none 0 0,.slice none 0 0,.bool false,.slice none 0 0,.bool false,.slice none 0 0,.bool false,.slice none 0 0,.bool false,.slice none 0 0]) (by kernel_rfl) Tryz.underlying51 (by kernel_rfl) (fun M=>bR.app (bR.app (bR.app (bR.app (bR.app (bR.app (bR.app (bR.app (show bR M [pI .i64 0] [.int .i64 0] from⟨rfl,trivial⟩) (show bR M [pI .i64 0] [.int .i64 0] from⟨rfl,trivial⟩)) (show bR M [pI .i64 0] [.int .i64 0] from⟨rfl,trivial⟩)) (show bR M [pI .i64 0] [.int .i64 0] from⟨rfl,trivial⟩)) (eQ0 M)) (show bR M [pS aQ.cod ([]:List aQ)] [.slice none 0 0] from⟨eJ aQ.cod M,trivial⟩)) (show bR M [pS aQ.cod ([]:List aQ)] [.slice none 0 0] from⟨eJ aQ.cod M,trivial⟩)) (eQ0 M)) (eQ0 M))
theorem tyB68q:TyB Tryz.prog 68 [(0,1),(1,1),(2,1)] ([pS cQ ([]:List Rat)]++[pS cQ ([]:List Rat)]++[pI .i64 0]):=mkB (z:=.agg #[.slice none 0 0,.slice none 0 0,.int .i64 0]) (by kernel_rfl) Tryz.underlying68 (by kernel_rfl) (fun M=>bR.app (bR.app (show bR M [pS cQ ([]:List Rat)] [.slice none 0 0] from⟨eJ cQ M,trivial⟩) (show bR M [pS cQ ([]:List Rat)] [.slice none 0 0] from⟨eJ cQ M,trivial⟩)) (show bR M [pI .i64 0] [.int .i64 0] from⟨rfl,trivial⟩))
theorem tyB92q:TyB Tryz.prog 92 [(0,1),(1,4)] ([pI .i64 0]++(eQ 0)):=mkB (z:=.agg #[.int .i64 0,.bool false,.slice none 0 0,.bool false,.slice none 0 0]) (by kernel_rfl) Tryz.underlying92 (by kernel_rfl) (fun M=>bR.app (show bR M [pI .i64 0] [.int .i64 0] from⟨rfl,trivial⟩) (eQ0 M))
theorem tyF108_0:wS Tryz.prog 108 0 0:=yC (ft:=44) (k:=3) Tryz.underlying108 rfl rfl rfl (by kernel_rfl)
theorem tyF113_0:wS Tryz.prog 113 0 0:=yC (ft:=23) (k:=0) Tryz.underlying113 rfl rfl rfl (by kernel_rfl)
theorem tyF113_1:wS Tryz.prog 113 1 1:=yC (ft:=24) (k:=0) Tryz.underlying113 rfl rfl rfl (by kernel_rfl)
theorem tyF113_2:wS Tryz.prog 113 2 2:=yC (ft:=24) (k:=0) Tryz.underlying113 rfl rfl rfl (by kernel_rfl)
theorem tyF113_3:wS Tryz.prog 113 3 3:=yC (ft:=25) (k:=0) Tryz.underlying113 rfl rfl rfl (by kernel_rfl)
theorem tyF118_0:wS Tryz.prog 118 0 0:=yC (ft:=3) (k:=0) Tryz.underlying118 rfl rfl rfl (by kernel_rfl)
theorem tyF118_1:wS Tryz.prog 118 1 1:=yC (ft:=3) (k:=0) Tryz.underlying118 rfl rfl rfl (by kernel_rfl)
theorem tyF151_0:wS Tryz.prog 151 0 0:=yC (ft:=3) (k:=0) Tryz.underlying151 rfl rfl rfl (by kernel_rfl)
theorem tyF151_1:wS Tryz.prog 151 1 1:=yC (ft:=62) (k:=0) Tryz.underlying151 rfl rfl rfl (by kernel_rfl)
theorem tyF151_2:wS Tryz.prog 151 2 2:=yC (ft:=22) (k:=0) Tryz.underlying151 rfl rfl rfl (by kernel_rfl)
theorem tyF27_0:wS Tryz.prog 27 0 0:=yC (ft:=23) (k:=0) Tryz.underlying27 rfl rfl rfl (by kernel_rfl)
theorem tyF27_1:wS Tryz.prog 27 1 1:=yC (ft:=24) (k:=0) Tryz.underlying27 rfl rfl rfl (by kernel_rfl)
theorem tyF27_2:wS Tryz.prog 27 2 2:=yC (ft:=24) (k:=0) Tryz.underlying27 rfl rfl rfl (by kernel_rfl)
theorem tyF27_3:wS Tryz.prog 27 3 3:=yC (ft:=25) (k:=0) Tryz.underlying27 rfl rfl rfl (by kernel_rfl)
theorem tyF51_5:wS Tryz.prog 51 5 8:=yC (ft:=49) (k:=0) Tryz.underlying51 rfl rfl rfl (by kernel_rfl)
theorem tyF51_6:wS Tryz.prog 51 6 9:=yC (ft:=49) (k:=0) Tryz.underlying51 rfl rfl rfl (by kernel_rfl)
theorem tyF51_7:wS Tryz.prog 51 7 10:=yC (ft:=44) (k:=3) Tryz.underlying51 rfl rfl rfl (by kernel_rfl)
theorem tyF58_0:wS Tryz.prog 58 0 0:=yC (ft:=44) (k:=3) Tryz.underlying58 rfl rfl rfl (by kernel_rfl)
theorem tyF58_1:wS Tryz.prog 58 1 4:=yC (ft:=44) (k:=3) Tryz.underlying58 rfl rfl rfl (by kernel_rfl)
theorem tyF68_0:wS Tryz.prog 68 0 0:=yC (ft:=24) (k:=0) Tryz.underlying68 rfl rfl rfl (by kernel_rfl)
theorem tyF68_1:wS Tryz.prog 68 1 1:=yC (ft:=24) (k:=0) Tryz.underlying68 rfl rfl rfl (by kernel_rfl)
theorem tyF68_2:wS Tryz.prog 68 2 2:=yC (ft:=3) (k:=0) Tryz.underlying68 rfl rfl rfl (by kernel_rfl)
theorem tyF92_0:wS Tryz.prog 92 0 0:=yC (ft:=3) (k:=0) Tryz.underlying92 rfl rfl rfl (by kernel_rfl)
theorem tyF92_1:wS Tryz.prog 92 1 1:=yC (ft:=44) (k:=3) Tryz.underlying92 rfl rfl rfl (by kernel_rfl)
theorem tyO114:Ty1 Tryz.prog 114:=mk1 Tryz.underlying114 rfl (by kernel_rfl)
theorem tyO23:Ty1 Tryz.prog 23:=mk1 Tryz.underlying23 rfl (by kernel_rfl)
theorem tyO24:Ty1 Tryz.prog 24:=mk1 Tryz.underlying24 rfl (by kernel_rfl)
theorem tyO25:Ty1 Tryz.prog 25:=mk1 Tryz.underlying25 rfl (by kernel_rfl)
theorem tyO49:Ty1 Tryz.prog 49:=mk1 Tryz.underlying49 rfl (by kernel_rfl)
theorem tyO62:Ty1 Tryz.prog 62:=mk1 Tryz.underlying62 rfl (by kernel_rfl)
theorem tyQ118:TyQ Tryz.prog 118:=mkQ Tryz.underlying118 (by kernel_rfl) (by kernel_rfl) rfl (by decide) (by decide) rfl rfl Tryz.underlying3 Tryz.underlying3
theorem tyS114:yJ Tryz.prog 114 118 2 16:=mkS (z:=.agg #[.int .i64 0,.int .i64 0]) (k:=1) Tryz.underlying114 (by kernel_rfl) rfl
theorem tyS23:yJ Tryz.prog 23 108 17 264:=mkS (z:=.agg #[.bool false,.slice none 0 0,.bool false,.slice none 0 0,.bool false,.slice none 0 0,.bool false,.slice none 0 0,.bool false,.bool false,.slice none 0 0,.bool false,.slice none 0 0,.bool false,.slice none 0 0,.bool false,.slice none 0 0]) (k:=16) Tryz.underlying23 (by kernel_rfl) rfl
theorem tyS24:yJ Tryz.prog 24 44 4 64:=mkS (z:=.agg #[.bool false,.slice none 0 0,.bool false,.slice none 0 0]) (k:=3) Tryz.underlying24 (by kernel_rfl) rfl
theorem tyS25:yJ Tryz.prog 25 51 18 272:=mkS (z:=.agg #[.int .i64 0,.int .i64 0,.int .i64 0,.int .i64 0,.bool false,.slice none 0 0,.bool false,.slice none 0 0,.slice none 0 0,.slice none 0 0,.bool false,.slice none 0 0,.bool false,.slice none 0 0,.bool false,.slice none 0 0,.bool false,.slice none 0 0]) (k:=17) Tryz.underlying25 (by kernel_rfl) rfl
theorem tyS29:yJ Tryz.prog 29 58 8 128:=mkS (z:=.agg #[.bool false,.slice none 0 0,.bool false,.slice none 0 0,.bool false,.slice none 0 0,.bool false,.slice none 0 0]) (k:=7) Tryz.underlying29 (by kernel_rfl) rfl
theorem tyS49:yJ Tryz.prog 49 92 5 72:=mkS (z:=.agg #[.int .i64 0,.bool false,.slice none 0 0,.bool false,.slice none 0 0]) (k:=4) Tryz.underlying49 (by kernel_rfl) rfl
theorem tyS62:yJ Tryz.prog 62 24 1 24:=mkS (z:=.slice none 0 0) (k:=0) Tryz.underlying62 (by kernel_rfl) rfl
theorem tyZ108q:zL Tryz.prog 108 ((eQ 0)++(eQ 0)++[pB false]++(eQ 0)++(eQ 0)):=mkZ (z:=.agg #[.bool false,.slice none 0 0,.bool false,.slice none 0 0,.bool false,.slice none 0 0,.bool false,.slice none 0 0,.bool false,.bool false,.slice none 0 0,.bool false,.slice none 0 0,.bool false,.slice none 0 0,.bool false,.slice none 0 0]) (k:=17) (by kernel_rfl) rfl (fun M=>bR.app (bR.app (bR.app (bR.app (eQ0 M) (eQ0 M)) (show bR M [pB false] [.bool false] from⟨rfl,trivial⟩)) (eQ0 M)) (eQ0 M))
theorem tyZ113q:zL Tryz.prog 113 ([pS bE.cod ([]:List bE)]++[pS cQ ([]:List Rat)]++[pS cQ ([]:List Rat)]++[pS aK.cod ([]:List aK)]):=mkZ (z:=.agg #[.slice none 0 0,.slice none 0 0,.slice none 0 0,.slice none 0 0]) (k:=4) (by kernel_rfl) rfl (fun M=>bR.app (bR.app (bR.app (show bR M [pS bE.cod ([]:List bE)] [.slice none 0 0] from⟨eJ bE.cod M,trivial⟩) (show bR M [pS cQ ([]:List Rat)] [.slice none 0 0] from⟨eJ cQ M,trivial⟩)) (show bR M [pS cQ ([]:List Rat)] [.slice none 0 0] from⟨eJ cQ M,trivial⟩)) (show bR M [pS aK.cod ([]:List aK)] [.slice none 0 0] from⟨eJ aK.cod M,trivial⟩))
theorem tyZ114q:zL Tryz.prog 114 [pS aH.cod ([]:List aH)]:=mkZ (z:=.slice none 0 0) (k:=1) (by kernel_rfl) rfl (fun M=>show bR M [pS aH.cod ([]:List aH)] [.slice none 0 0] from⟨eJ aH.cod M,trivial⟩)
theorem tyZ118q:zL Tryz.prog 118 ([pI .i64 0]++[pI .i64 0]):=mkZ (z:=.agg #[.int .i64 0,.int .i64 0]) (k:=2) (by kernel_rfl) rfl (fun M=>bR.app (show bR M [pI .i64 0] [.int .i64 0] from⟨rfl,trivial⟩) (show bR M [pI .i64 0] [.int .i64 0] from⟨rfl,trivial⟩))
theorem tyZ24q:zL Tryz.prog 24 [pS cQ ([]:List Rat)]:=mkZ (z:=.slice none 0 0) (k:=1) (by kernel_rfl) rfl (fun M=>show bR M [pS cQ ([]:List Rat)] [.slice none 0 0] from⟨eJ cQ M,trivial⟩)
theorem tyZ24_oq:zL Tryz.prog 24 [pO none 0 0]:=mkZ (z:=.slice none 0 0) (k:=1) (by kernel_rfl) rfl (fun M=>show bR M [pO none 0 0] [.slice none 0 0] from⟨.inl rfl,trivial⟩)
theorem tyZ27q:zL Tryz.prog 27 ([pS bE.cod ([]:List bE)]++[pS cQ ([]:List Rat)]++[pS cQ ([]:List Rat)]++[pS aK.cod ([]:List aK)]):=mkZ (z:=.agg #[.slice none 0 0,.slice none 0 0,.slice none 0 0,.slice none 0 0]) (k:=4) (by kernel_rfl) rfl (fun M=>bR.app (bR.app (bR.app (show bR M [pS bE.cod ([]:List bE)] [.slice none 0 0] from⟨eJ bE.cod M,trivial⟩) (show bR M [pS cQ ([]:List Rat)] [.slice none 0 0] from⟨eJ cQ M,trivial⟩)) (show bR M [pS cQ ([]:List Rat)] [.slice none 0 0] from⟨eJ cQ M,trivial⟩)) (show bR M [pS aK.cod ([]:List aK)] [.slice none 0 0] from⟨eJ aK.cod M,trivial⟩))
theorem tyZ27_o0_o1_o2_o3q:zL Tryz.prog 27 ([pO none 0 0]++[pO none 0 0]++[pO none 0 0]++[pO none 0 0]):=mkZ (z:=.agg #[.slice none 0 0,.slice none 0 0,.slice none 0 0,.slice none 0 0]) (k:=4) (by kernel_rfl) rfl (fun M=>bR.app (bR.app (bR.app (show bR M [pO none 0 0] [.slice none 0 0] from⟨.inl rfl,trivial⟩) (show bR M [pO none 0 0] [.slice none 0 0] from⟨.inl rfl,trivial⟩)) (show bR M [pO none 0 0] [.slice none 0 0] from⟨.inl rfl,trivial⟩)) (show bR M [pO none 0 0] [.slice none 0 0] from⟨.inl rfl,trivial⟩))
theorem tyZ3q:zL Tryz.prog 3 [pI .i64 0]:=mkZ (z:=.int .i64 0) (k:=1) (by kernel_rfl) rfl (fun M=>show bR M [pI .i64 0] [.int .i64 0] from⟨rfl,trivial⟩)
theorem tyZ44q:zL Tryz.prog 44 (eQ 0):=mkZ (z:=.agg #[.bool false,.slice none 0 0,.bool false,.slice none 0 0]) (k:=4) (by kernel_rfl) rfl (fun M=>eQ0 M)
theorem tyZ51q:zL Tryz.prog 51 ([pI .i64 0]++[pI .i64 0]++[pI .i64 0]++[pI .i64 0]++(eQ 0)++[pS aQ.cod ([]:List aQ)]++[pS aQ.cod ([]:List aQ)]++(eQ 0)++(eQ 0)):=mkZ (z:=.agg #[.int .i64 0,.int .i64 0,.int .i64 0,.int .i64 0,.bool false,.slice none 0 0,.bool false,.slice none 0 0,.slice none 0 0,.slice none 0 0,.bool false,.slice none 0 0,.bool false,.slice none 0 0,.bool false,.slice none 0 0,.bool false,.slice none 0 0]) (k:=18) (by kernel_rfl) rfl (fun M=>bR.app (bR.app (bR.app (bR.app (bR.app (bR.app (bR.app (bR.app (show bR M [pI .i64 0] [.int .i64 0] from⟨rfl,trivial⟩) (show bR M [pI .i64 0] [.int .i64 0] from⟨rfl,trivial⟩)) (show bR M [pI .i64 0] [.int .i64 0] from⟨rfl,trivial⟩)) (show bR M [pI .i64 0] [.int .i64 0] from⟨rfl,trivial⟩)) (eQ0 M)) (show bR M [pS aQ.cod ([]:List aQ)] [.slice none 0 0] from⟨eJ aQ.cod M,trivial⟩)) (show bR M [pS aQ.cod ([]:List aQ)] [.slice none 0 0] from⟨eJ aQ.cod M,trivial⟩)) (eQ0 M)) (eQ0 M))
theorem tyZ58q:zL Tryz.prog 58 ((eQ 0)++(eQ 0)):=mkZ (z:=.agg #[.bool false,.slice none 0 0,.bool false,.slice none 0 0,.bool false,.slice none 0 0,.bool false,.slice none 0 0]) (k:=8) (by kernel_rfl) rfl (fun M=>bR.app (eQ0 M) (eQ0 M))
theorem tyZ62q:zL Tryz.prog 62 [pS (sH cQ) ([]:List (List Rat))]:=mkZ (z:=.slice none 0 0) (k:=1) (by kernel_rfl) rfl (fun M=>show bR M [pS (sH cQ) ([]:List (List Rat))] [.slice none 0 0] from⟨eJ (sH cQ) M,trivial⟩)
theorem tyZ68q:zL Tryz.prog 68 ([pS cQ ([]:List Rat)]++[pS cQ ([]:List Rat)]++[pI .i64 0]):=mkZ (z:=.agg #[.slice none 0 0,.slice none 0 0,.int .i64 0]) (k:=3) (by kernel_rfl) rfl (fun M=>bR.app (bR.app (show bR M [pS cQ ([]:List Rat)] [.slice none 0 0] from⟨eJ cQ M,trivial⟩) (show bR M [pS cQ ([]:List Rat)] [.slice none 0 0] from⟨eJ cQ M,trivial⟩)) (show bR M [pI .i64 0] [.int .i64 0] from⟨rfl,trivial⟩))
theorem tyZ92q:zL Tryz.prog 92 ([pI .i64 0]++(eQ 0)):=mkZ (z:=.agg #[.int .i64 0,.bool false,.slice none 0 0,.bool false,.slice none 0 0]) (k:=5) (by kernel_rfl) rfl (fun M=>bR.app (show bR M [pI .i64 0] [.int .i64 0] from⟨rfl,trivial⟩) (eQ0 M))
def eG (a0:Int) (a1:Int):Option Int:=
 bif(decide (a0<0)) then((bQ (a0+1)).bind fun v2=>(bQ (-v2)).bind fun v4=>(r6 v4 a1).bind fun v6=>some v6) else((r6 a0 a1).bind fun v8=>some v8)
theorem mF {a0:Int} {a1:Int} {r:Int} (hF:eG a0 a1=some r):Ct Tryz.prog 24 [.vc (pI .i64 a0),.vc (pI .i64 a1)] (.vc (pI .i64 r)):=by
 unfold eG at hF
 refine a9 Tryz.func24 rfl (by kernel_rfl) Tryz.ntmps24 rfl (fun w0 M0=>?_)
 refine aD (aE (aB (aL (.inr rfl)) ⟨bC _ _,trivial⟩ ?_))
 refine aC (aA (aD (aD (aE (aF ?_)))))
 refine aB (dQ rfl) ⟨rfl,bC _ _,trivial⟩ ?_
 refine aC (aA (bO rfl (fun h1=>?_) (fun h1=>?_)))
 ·have hF:=aT h1 hF
  refine aE (aF ?_)
  obtain⟨v2,h3,hF⟩:=aO hF
  refine aB (bI rfl h3) ⟨rfl,bC _ _,trivial⟩ ?_
  obtain⟨v4,h5,hF⟩:=aO hF
  refine aB (aDu rfl h5) ⟨rfl,trivial⟩ ?_
  refine bB ?_
  refine aC (aA (aD (aE (aF ?_))))
  refine aF ?_
  obtain⟨v6,h7,hF⟩:=aO hF
  refine aB (mZ rfl h7) ⟨rfl,rfl,trivial⟩ ?_
  refine bB ?_
  refine aC (aA (aX (aW ?_)))
  obtain rfl:=bX hF
  exact aI (.inl rfl) Tryz.results24 (.tmp rfl .nil) rfl rfl
 have hF:=aU h1 hF
 refine aV (aA (aD (aE (aF ?_))))
 refine aF ?_
 obtain⟨v8,h9,hF⟩:=aO hF
 refine aB (mZ rfl h9) ⟨rfl,rfl,trivial⟩ ?_
 refine bB ?_
 refine aC (aA (aX (aW ?_)))
 obtain rfl:=bX hF
 exact aI (.inl rfl) Tryz.results24 (.tmp rfl .nil) rfl rfl
def bU (a0:List Int) (a1:Int) (a2:Int):Option Int:=
 bif(decide (a1<0)) then(some 0) else(bif(decide ((a0.length:Int)≤a1)) then(some 0) else((dO a0 a1).bind fun v3=>(eG v3 a2).bind fun v5=>some v5))
theorem cP {a0:List Int} {a1:Int} {a2:Int} {r:Int} (hF:bU a0 a1 a2=some r):Ct Tryz.prog 26 [.vc (pS cI a0),.vc (pI .i64 a1),.vc (pI .i64 a2)] (.vc (pI .i64 r)):=by
 unfold bU at hF
 refine a9 Tryz.func26 rfl (by kernel_rfl) Tryz.ntmps26 rfl (fun w0 M0=>?_)
 refine aD (aE (aB (aL (.inr rfl)) ⟨bC _ _,trivial⟩ ?_))
 refine aC (aA (aD (aD (aE (aF ?_)))))
 refine aB (dQ rfl) ⟨rfl,bC _ _,trivial⟩ ?_
 refine aF ?_
 refine cU (fun h1=>?_) (fun h1=>?_)
 ·have hF:=aT h1 hF
  refine aJ ?_
  refine aJ ?_
  refine aJ ?_
  refine aJ ?_
  refine aB (bK rfl) ⟨rfl,dH _,trivial⟩ ?_
  refine aC (aA (kT rfl ?_))
  refine aD (aE (aB (aL (.inr rfl)) ⟨bC _ _,trivial⟩ ?_))
  refine aC (aA (aX (aW ?_)))
  obtain rfl:=bX hF
  exact aI (.inl rfl) Tryz.results26 (.tmp rfl .nil) rfl rfl
 have hF:=aU h1 hF
 refine aZ (aL (.inl rfl)) ⟨rfl,trivial⟩ ?_
 refine aZ (aL (.inl rfl)) ⟨rfl,trivial⟩ ?_
 refine aZ (bZ rfl tyS22) ⟨rfl,trivial⟩ ?_
 refine aZ (sB rfl) ⟨rfl,rfl,trivial⟩ ?_
 refine aB (bL rfl) ⟨rfl,rfl,trivial⟩ ?_
 refine aC (aA (bO rfl (fun h2=>?_) (fun h2=>?_)))
 ·have hF:=aT h2 hF
  refine aD (aE (aB (aL (.inr rfl)) ⟨bC _ _,trivial⟩ ?_))
  refine aC (aA (aX (aW ?_)))
  obtain rfl:=bX hF
  exact aI (.inl rfl) Tryz.results26 (.tmp rfl .nil) rfl rfl
 have hF:=aU h2 hF
 refine aV (aA (aD (aE (aF ?_))))
 refine aF ?_
 obtain⟨v3,h4,hF⟩:=aO hF
 refine aB (dX rfl tyS22 h4) ⟨rfl,rfl,trivial⟩ ?_
 refine aB (dM 1 rfl rfl (.one tyO3)) ⟨rfl,trivial⟩ ?_
 refine aF ?_
 obtain⟨v5,h6,hF⟩:=aO hF
 refine aB (aG rfl (mF h6) rfl) ⟨rfl,rfl,trivial⟩ ?_
 refine bB ?_
 refine aC (aA (aX (aW ?_)))
 obtain rfl:=bX hF
 exact aI (.inl rfl) Tryz.results26 (.tmp rfl .nil) rfl rfl
def lP (K:Nat) (x19:List aQ):Option (List aQ):=
 some x19
def eE (K:Nat) (a1:Int):Nat→(List aQ)→Int→Int→Option (List aQ)
 |0,_,_,_=>none
 |k+1,x11,x17,x18=>bif(decide (x18<a1)) then((r6 x17 7).bind fun v28=>(dO [0,1,(-1),0,2,(-1),1] v28).bind fun v30=>(r4 x17 7).bind fun v32=>bif(v30 != 0) then((r6 v32 3).bind fun v35=>(bQ (1+v35)).bind fun v37=>(wP v30 v37).bind fun v39=>(tB x11 [(⟨x18,v39⟩:aQ)]).bind fun x41=>(r4 v32 3).bind fun v48=>(bQ (x18+1)).bind fun v50=>eE K a1 k x41 v48 v50) else((r4 v32 3).bind fun v52=>(bQ (x18+1)).bind fun v54=>eE K a1 k x11 v52 v54)) else(some x11)
def dZ (K:Nat) (a0:Int) (a1:Int):Option (List aQ):=
 (eE K a1 K ([]:List aQ) a0 0).bind fun x19=>lP K x19
theorem lN {K:Nat} {a0:Int} {a1:Int} {r:List aQ} (hF:dZ K a0 a1=some r):Ct Tryz.prog 67 [.vc (pI .i64 a0),.vc (pI .i64 a1)] (.vc (pS aQ.cod r)):=by
 unfold dZ at hF
 refine a9 Tryz.func67 rfl (by kernel_rfl) Tryz.ntmps67 rfl (fun w0 M0=>?_)
 refine aD (aE (aB (aL (.inr rfl)) ⟨eJ aQ.cod,trivial⟩ ?_))
 refine aC (aA (aD (aE (sA aQ.cod 92 rfl ?_))))
 refine aC (aA (aD (aD (aE (aB (aL (.inr rfl)) ⟨bC _ _,trivial⟩ ?_)))))
 refine aC (aA (bN (cL (fun H E=>∃(x19:List aQ),∃(b20:Option Nat),∃(c21:Nat),∃(n22:Nat),lP K x19=some r∧x19.length=n22∧H=[hO aQ.cod b20 c21 92 n22 x19]∧E=[(5,.vc (pO b20 n22 c21))]) ?_ (fun Jj26=>?_))))
 ·rintro _ _ ⟨x19,b20,c21,n22,hF,q23,rfl,rfl⟩
  unfold lP at hF
  refine aA (aD (aE (aF ?_)))
  refine bB ?_
  refine aC (aA (aX (aW (t5 0 [4,5,34] rfl q23 ⟨rfl,rfl,rfl,trivial⟩ rfl ?_))))
  obtain rfl:=bX hF
  exact aI (.inl rfl) Tryz.results67 (.tmp rfl .nil) rfl rfl
 obtain⟨x19',hL,hRl25⟩:=aO hF
 refine gY (fun k a w=>∃(x11:List aQ),∃(x17:Int),∃(x18:Int),∃(b12:Option Nat),∃(c13:Nat),∃(n14:Nat),eE K a1 k x11 x17 x18=some x19'∧x11.length=n14∧hs _ [hO aQ.cod b12 c13 92 n14 x11] [(0,.vc (pI .i64 x17)),(1,.vc (pI .i64 a1)),(5,.vc (pO b12 n14 c13)),(6,.vc (pI .i64 x18))] a w) K (fun a w ⟨_,_,_,_,_,_,hF,_,_⟩=>by cases hF) (fun k a w ⟨x11,x17,x18,b12,c13,n14,hF,q15,hh⟩=>gX ?_ hh) (fun a w hh=>⟨([]:List aQ),a0,0,none,0,0,hL,rfl,bA [0] rfl (by decide) (by exact⟨rfl,rfl,rfl,rfl,trivial⟩) hh⟩)
 rw [eE.eq_2] at hF
 refine aD (aD (aE (aF ?_)))
 refine aF ?_
 refine aB (dQ rfl) ⟨rfl,rfl,trivial⟩ ?_
 refine aC (aA (bO rfl (fun h27=>?_) (fun h27=>?_)))
 ·have hF:=aT h27 hF
  refine aV (aA (aD (bN (aD (aE (aB (pX (C:=cI) (xs:=[.const (.int .i64 (0)),.const (.int .i64 (1)),.const (.int .i64 (-1)),.const (.int .i64 (0)),.const (.int .i64 (2)),.const (.int .i64 (-1)),.const (.int .i64 (1))]) (ps:=[.vc (pI .i64 0),.vc (pI .i64 1),.vc (pI .i64 (-1)),.vc (pI .i64 0),.vc (pI .i64 2),.vc (pI .i64 (-1)),.vc (pI .i64 1)]) (zs:=[0,1,(-1),0,2,(-1),1]) rfl tyS22 rfl ⟨⟨trivial,rfl⟩,⟨trivial,rfl⟩,⟨trivial,rfl⟩,⟨trivial,rfl⟩,⟨trivial,rfl⟩,⟨trivial,rfl⟩,⟨trivial,rfl⟩,trivial⟩ rfl) ⟨bC _ _,bC _ _,bC _ _,bC _ _,bC _ _,bC _ _,bC _ _,trivial⟩ ?_))))))
  refine aF ?_
  obtain⟨v28,h29,hF⟩:=aO hF
  refine aB (mZ rfl h29) ⟨rfl,bC _ _,trivial⟩ ?_
  obtain⟨v30,h31,hF⟩:=aO hF
  refine aB (dX rfl tyS22 h31) ⟨rfl,rfl,trivial⟩ ?_
  refine aB (dM 1 rfl rfl (.one tyO3)) ⟨rfl,trivial⟩ ?_
  refine bB ?_
  refine aC (aA (aD (aE (aF ?_))))
  obtain⟨v32,h33,hF⟩:=aO hF
  refine aB (oD rfl h33) ⟨rfl,bC _ _,trivial⟩ ?_
  refine bB ?_
  refine aC (aA (aD (aD (aE (aF ?_)))))
  refine aB (sC rfl) ⟨rfl,bC _ _,trivial⟩ ?_
  refine aC (aA (bO rfl (fun h34=>?_) (fun h34=>?_)))
  ·have hF:=aT h34 hF
   refine aE (aF ?_)
   refine aF ?_
   refine aF ?_
   refine aF ?_
   obtain⟨v35,h36,hF⟩:=aO hF
   refine aB (mZ rfl h36) ⟨rfl,bC _ _,trivial⟩ ?_
   obtain⟨v37,h38,hF⟩:=aO hF
   refine aB (bI rfl h38) ⟨bC _ _,rfl,trivial⟩ ?_
   obtain⟨v39,h40,hF⟩:=aO hF
   refine aB (aG rfl (bV h40) rfl) ⟨rfl,rfl,trivial⟩ ?_
   refine aB (fA (is:=[0,1]) (xs:=[.tmp 23,.tmp 28]) (ps:=[.vc (pI .i64 x18),.va (eQ v39)]) rfl tyB92q rfl rfl ⟨trivial,trivial,trivial⟩ rfl) ⟨rfl,rfl,trivial⟩ ?_
   refine aB (pX (C:=aQ.cod) (xs:=[.tmp 29]) (ps:=[.va ([pI .i64 x18]++(eQ v39))]) (zs:=[(⟨x18,v39⟩:aQ)]) rfl tyS49 rfl ⟨⟨trivial,rfl⟩,trivial⟩ rfl) ⟨rfl,trivial⟩ ?_
   obtain⟨x41,h42,hF⟩:=aO hF
   refine nY 0 rfl tyS49 rfl rfl q15 rfl rfl h42 (fun b43 c44 H45 e46=>?_)
   cases e46
   refine bB ?_
   refine aC (aA (aE (aF ?_)))
   obtain⟨v48,h49,hF⟩:=aO hF
   refine aB (oD rfl h49) ⟨rfl,bC _ _,trivial⟩ ?_
   refine bB ?_
   refine aC (bF (aA (aE (aF ?_))))
   obtain⟨v50,h51,hF⟩:=aO hF
   refine aB (bI rfl h51) ⟨rfl,bC _ _,trivial⟩ ?_
   refine bB ?_
   refine aC ?_
   exact bG (fun a w hh=>⟨x41,v48,v50,b43,c44,(n14+[(⟨x18,v39⟩:aQ)].length),hF,(gB h42 q15),bA [0] rfl (by decide) (by exact⟨rfl,rfl,rfl,rfl,trivial⟩) hh⟩)
  have hF:=aU h34 hF
  refine aV (aA (aE (aF ?_)))
  obtain⟨v52,h53,hF⟩:=aO hF
  refine aB (oD rfl h53) ⟨rfl,bC _ _,trivial⟩ ?_
  refine bB ?_
  refine aC (bF (aA (aE (aF ?_))))
  obtain⟨v54,h55,hF⟩:=aO hF
  refine aB (bI rfl h55) ⟨rfl,bC _ _,trivial⟩ ?_
  refine bB ?_
  refine aC ?_
  exact bG (fun a w hh=>⟨x11,v52,v54,b12,c13,n14,hF,q15,bA [0] rfl (by decide) (by exact⟨rfl,rfl,rfl,rfl,trivial⟩) hh⟩)
 have hF:=aU h27 hF
 refine dE ?_
 obtain rfl:=bX hF
 exact bS Jj26 ⟨x11,b12,c13,n14,hRl25,q15,rfl,rfl⟩ [0] rfl ⟨rfl,trivial⟩
def iW (K:Nat) (x75:List Rat) (x81:List bE) (x93:List Rat) (x114:List aK):Option bH:=
 some (⟨x81,x75,x93,x114⟩:bH)
def eU (K:Nat) (x107:List aK) (x113:Int) (v129:Int) (recl120:(List aK)→Int→Option (List aK)) (x159:aK):Option (List aK):=
 (s5 x159.mu).bind fun v161=>bif(v161==0) then((tB x107 [(⟨x159.kind,x159.a,x159.b,x159.edge,x159.gap,x159.j,[],0,x159.e⟩:aK)]).bind fun x164=>(bQ (x113+1)).bind fun v171=>recl120 x164 v171) else((r6 v129 5).bind fun v173=>bif(v173==0) then((tB x107 [(⟨x159.kind,x159.a,x159.b,x159.edge,x159.gap,x159.j,[],0,x159.e⟩:aK)]).bind fun x176=>(bQ (x113+1)).bind fun v183=>recl120 x176 v183) else((tB x107 [x159]).bind fun x185=>(bQ (x113+1)).bind fun v192=>recl120 x185 v192))
def cX (K:Nat) (a0:List Int) (a1:Bool) (v4:Int):Nat→(List aK)→Int→Option (List aK)
 |0,_,_=>none
 |k+1,x107,x113=>(bU a0 8 5).bind fun v122=>bif(decide (x113<v122)) then((bQ (3*x113)).bind fun v125=>(bQ (9+v125)).bind fun v127=>(bU a0 v127 1099511627776).bind fun v129=>(dZ K v129 v4).bind fun v131=>(bQ (3*x113)).bind fun v133=>(bQ (10+v133)).bind fun v135=>(bU a0 v135 1099511627776).bind fun v137=>(dZ K v137 v4).bind fun v139=>(bQ (3*x113)).bind fun v141=>(bQ (11+v141)).bind fun v143=>(bU a0 v143 5).bind fun v145=>(bQ (3*x113)).bind fun v147=>(bQ (11+v147)).bind fun v149=>(bU a0 v149 3).bind fun v151=>(bQ (1+v151)).bind fun v153=>(wP v145 v153).bind fun v155=>bif(!a1) then((bQ (v4-1)).bind fun v195=>(dZ K v129 v195).bind fun v197=>eU K x107 x113 v129 (cX K a0 a1 v4 k) (⟨0,0,x113,0,0,v197,v139,v155,0⟩:aK)) else(eU K x107 x113 v129 (cX K a0 a1 v4 k) (⟨0,0,x113,0,0,v131,v139,v155,0⟩:aK))) else(some x107)
def g9 (K:Nat) (a0:List Int) (a1:Bool) (v4:Int) (x75:List Rat) (x81:List bE) (x93:List Rat):Option bH:=
 (cX K a0 a1 v4 K ([]:List aK) 0).bind fun x114=>iW K x75 x81 x93 x114
def lA (K:Nat) (x69:List Rat) (x75:List Rat) (x81:List bE) (x235:List aK):Option bH:=
 some (⟨x81,x75,x69,x235⟩:bH)
def fQ (K:Nat) (x228:List aK) (x234:Int) (v250:Int) (v252:List aQ) (v260:List aQ) (v276:Rat) (recl241:(List aK)→Int→Option (List aK)):Option (List aK):=
 (s5 v276).bind fun v281=>bif(v281==0) then((tB x228 [(⟨0,0,x234,0,0,v252,[],0,0⟩:aK)]).bind fun x284=>(bQ (x234+1)).bind fun v291=>recl241 x284 v291) else((r6 v250 5).bind fun v293=>bif(v293==0) then((tB x228 [(⟨0,0,x234,0,0,v252,[],0,0⟩:aK)]).bind fun x296=>(bQ (x234+1)).bind fun v303=>recl241 x296 v303) else((tB x228 [(⟨0,0,x234,0,0,v252,v260,v276,0⟩:aK)]).bind fun x305=>(bQ (x234+1)).bind fun v312=>recl241 x305 v312))
def dV (K:Nat) (a0:List Int) (v4:Int):Nat→(List aK)→Int→Option (List aK)
 |0,_,_=>none
 |k+1,x228,x234=>(bU a0 8 5).bind fun v243=>bif(decide (x234<v243)) then((bQ (3*x234)).bind fun v246=>(bQ (9+v246)).bind fun v248=>(bU a0 v248 1099511627776).bind fun v250=>(dZ K v250 v4).bind fun v252=>(bQ (3*x234)).bind fun v254=>(bQ (10+v254)).bind fun v256=>(bU a0 v256 1099511627776).bind fun v258=>(dZ K v258 v4).bind fun v260=>(bQ (3*x234)).bind fun v262=>(bQ (11+v262)).bind fun v264=>(bU a0 v264 5).bind fun v266=>(bQ (3*x234)).bind fun v268=>(bQ (11+v268)).bind fun v270=>(bU a0 v270 3).bind fun v272=>(bQ (1+v272)).bind fun v274=>(wP v266 v274).bind fun v276=>fQ K x228 x234 v250 v252 v260 v276 (dV K a0 v4 k)) else(some x228)
def lG (K:Nat) (a0:List Int) (v4:Int) (x69:List Rat) (x75:List Rat) (x81:List bE):Option bH:=
 (dV K a0 v4 K ([]:List aK) 0).bind fun x235=>lA K x69 x75 x81 x235
def gZ (K:Nat) (a0:List Int) (a1:Bool) (v4:Int) (x69:List Rat) (x75:List Rat) (x81:List bE):Option bH:=
 (bU a0 5 3).bind fun v89=>bif(decide (0<v89)) then(bif(!a1) then((bQ (v4-1)).bind fun v202=>(bU a0 6 9).bind fun v204=>(bQ (v204-4)).bind fun v206=>(bU a0 7 3).bind fun v208=>(bQ (1+v208)).bind fun v210=>(wP v206 v210).bind fun v212=>(dO x69 v202).bind fun v214=>(n8 x69 v202 v212).bind fun x216=>g9 K a0 a1 v4 x75 x81 x216) else(g9 K a0 a1 v4 x75 x81 x69)) else(lG K a0 v4 x69 x75 x81)
def f9 (K:Nat) (a0:List Int) (v4:Int):Nat→(List Rat)→(List Rat)→(List bE)→Int→Option ((List Rat)×(List Rat)×(List bE))
 |0,_,_,_,_=>none
 |k+1,x50,x56,x62,x68=>bif(decide (x68<v4)) then((bQ (1+x68)).bind fun v315=>(bU a0 v315 1073741824).bind fun v317=>(r6 v317 3).bind fun v321=>(bQ (1+v321)).bind fun v323=>(r4 v317 3).bind fun v325=>(r6 v325 4).bind fun v327=>(bQ (1+v327)).bind fun v329=>(wP v323 v329).bind fun v331=>(tB x62 [(⟨v331,0,false,0,0⟩:bE)]).bind fun x333=>(r4 v317 12).bind fun v342=>(r6 v342 13).bind fun v344=>(bQ (v344-6)).bind fun v346=>(r4 v317 156).bind fun v348=>(r6 v348 3).bind fun v350=>(bQ (1+v350)).bind fun v352=>(wP v346 v352).bind fun v354=>(tB x56 [v354]).bind fun x356=>(tB x50 [0]).bind fun x363=>(bQ (x68+1)).bind fun v370=>f9 K a0 v4 k x363 x356 x333 v370) else(some (x50,x56,x62))
def iQ (K:Nat) (a0:List Int) (a1:Bool):Option bH:=
 (bU a0 0 4).bind fun v2=>(bQ (1+v2)).bind fun v4=>(f9 K a0 v4 K ([]:List Rat) ([]:List Rat) ([]:List bE) 0).bind fun(x69,x75,x81)=>gZ K a0 a1 v4 x69 x75 x81
theorem wH {K:Nat} {a0:List Int} {a1:Bool} {r:bH} (hF:iQ K a0 a1=some r):Ct Tryz.prog 16 [.vc (pS cI a0),.vc (pB a1)] (.va (bH.enc r)):=by
 unfold iQ at hF
 refine a9 Tryz.func16 rfl (by kernel_rfl) Tryz.ntmps16 rfl (fun w0 M0=>?_)
 refine aD (aE (bJ rfl tyZ27q (fun b1=>?_)))
 refine aC (aA (aD (aE (aF ?_))))
 obtain⟨v2,h3,hF⟩:=aO hF
 refine aB (aG rfl (cP h3) rfl) ⟨rfl,bC _ _,bC _ _,trivial⟩ ?_
 obtain⟨v4,h5,hF⟩:=aO hF
 refine aB (bI rfl h5) ⟨bC _ _,rfl,trivial⟩ ?_
 refine bB ?_
 refine aC (aA (aD (aE (yR bE.cod 108 ?_))))
 refine yR cQ 44 ?_
 refine yR cQ 44 ?_
 refine yR aK.cod 51 ?_
 refine bJ rfl tyZ27_o0_o1_o2_o3q (fun b30=>?_)
 refine aC (aA (aD (aD (aE (aB (aL (.inr rfl)) ⟨bC _ _,trivial⟩ ?_)))))
 refine aC (aA (bN (cL (fun H E=>∃(x69:List Rat),∃(x75:List Rat),∃(x81:List bE),∃(b70:Option Nat),∃(c71:Nat),∃(n72:Nat),∃(b76:Option Nat),∃(c77:Nat),∃(n78:Nat),∃(b82:Option Nat),∃(c83:Nat),∃(n84:Nat),gZ K a0 a1 v4 x69 x75 x81=some r∧x69.length=n72∧x75.length=n78∧x81.length=n84∧H=[⟨some b30,1,27,4,1,([pO b82 n84 c83]++[pO b76 n78 c77]++[pO b70 n72 c71]++[pO none 0 0])⟩,hO aK.cod none 0 51 0 ([]:List aK),hO cQ b70 c71 44 n72 x69,hO cQ b76 c77 44 n78 x75,hO bE.cod b82 c83 108 n84 x81,⟨some b1,1,27,4,1,([pS bE.cod ([]:List bE)]++[pS cQ ([]:List Rat)]++[pS cQ ([]:List Rat)]++[pS aK.cod ([]:List aK)])⟩]∧E=[(0,.vc (pS cI a0)),(1,.vc (pB a1)),(4,.vc (pP (some b1) 0)),(5,.vc (pI .i64 v4)),(6,.vc (pP (some b30) 0))]) ?_ (fun Jj88=>?_))))
 ·rintro _ _ ⟨x69,x75,x81,b70,c71,n72,b76,c77,n78,b82,c83,n84,hF,q73,q79,q85,rfl,rfl⟩
  unfold gZ at hF
  refine aA (aD (aE (aF ?_)))
  obtain⟨v89,h90,hF⟩:=aO hF
  refine aB (aG rfl (cP h90) rfl) ⟨rfl,bC _ _,bC _ _,trivial⟩ ?_
  refine aB (p8 rfl) ⟨rfl,bC _ _,trivial⟩ ?_
  refine aF ?_
  refine cU (fun h91=>?_) (fun h91=>?_)
  ·have hF:=aT h91 hF
   refine aZ (aL (.inl rfl)) ⟨rfl,trivial⟩ ?_
   refine aZ (lK rfl) ⟨rfl,trivial⟩ ?_
   refine aB (bK rfl) ⟨rfl,rfl,trivial⟩ ?_
   refine bB ?_
   refine aC (aA (aD (rB (fun H E=>∃(x93:List Rat),g9 K a0 a1 v4 x75 x81 x93=some r∧x93.length=n72∧H=[⟨some b30,1,27,4,1,([pO b82 n84 c83]++[pO b76 n78 c77]++[pO b70 n72 c71]++[pO none 0 0])⟩,hO aK.cod none 0 51 0 ([]:List aK),hO cQ b70 c71 44 n72 x93,hO cQ b76 c77 44 n78 x75,hO bE.cod b82 c83 108 n84 x81,⟨some b1,1,27,4,1,([pS bE.cod ([]:List bE)]++[pS cQ ([]:List Rat)]++[pS cQ ([]:List Rat)]++[pS aK.cod ([]:List aK)])⟩]∧E=[(0,.vc (pS cI a0)),(4,.vc (pP (some b1) 0)),(5,.vc (pI .i64 v4)),(6,.vc (pP (some b30) 0)),(9,.vc (pB (!a1)))]) ?_ (fun Jj99=>?_))))
   ·rintro _ _ ⟨x93,hF,q97,rfl,rfl⟩
    unfold g9 at hF
    refine aD (aD (aE (aB (aL (.inr rfl)) ⟨bC _ _,trivial⟩ ?_)))
    refine aC (aA (bN (cL (fun H E=>∃(x114:List aK),∃(b115:Option Nat),∃(c116:Nat),∃(n117:Nat),iW K x75 x81 x93 x114=some r∧x114.length=n117∧H=[⟨some b30,1,27,4,1,([pO b82 n84 c83]++[pO b76 n78 c77]++[pO b70 n72 c71]++[pO b115 n117 c116])⟩,hO aK.cod b115 c116 51 n117 x114,hO cQ b70 c71 44 n72 x93,hO cQ b76 c77 44 n78 x75,hO bE.cod b82 c83 108 n84 x81,⟨some b1,1,27,4,1,([pS bE.cod ([]:List bE)]++[pS cQ ([]:List Rat)]++[pS cQ ([]:List Rat)]++[pS aK.cod ([]:List aK)])⟩]∧E=[(4,.vc (pP (some b1) 0)),(6,.vc (pP (some b30) 0))]) ?_ (fun Jj121=>?_))))
    ·rintro _ _ ⟨x114,b115,c116,n117,hF,q118,rfl,rfl⟩
     unfold iW at hF
     refine aA (aD (aE (wQ 4 0 0 rfl q85 rfl rfl rfl rfl rfl ?_)))
     refine wQ 3 0 1 rfl q79 rfl rfl rfl rfl rfl ?_
     refine wQ 2 0 2 rfl q97 rfl rfl rfl rfl rfl ?_
     refine wQ 1 0 3 rfl q118 rfl rfl rfl rfl rfl ?_
     refine aB (bD 0 4 rfl rfl rfl rfl (.agg tyA27)) ⟨rfl,trivial⟩ ?_
     refine aY (dA 1 rfl rfl rfl tyA27.s) ⟨rfl,rfl,trivial⟩ ?_
     refine aC (aA (aX (aW ?_)))
     obtain rfl:=bX hF
     exact aI (.inl rfl) Tryz.results16 (bM 1 4 rfl rfl rfl rfl (.agg tyA27) .nil) rfl rfl
    obtain⟨x114',hL,hRl120⟩:=aO hF
    refine gY (fun k a w=>∃(x107:List aK),∃(x113:Int),∃(b108:Option Nat),∃(c109:Nat),∃(n110:Nat),cX K a0 a1 v4 k x107 x113=some x114'∧x107.length=n110∧hs _ [⟨some b30,1,27,4,1,([pO b82 n84 c83]++[pO b76 n78 c77]++[pO b70 n72 c71]++[pO b108 n110 c109])⟩,hO aK.cod b108 c109 51 n110 x107,hO cQ b70 c71 44 n72 x93,hO cQ b76 c77 44 n78 x75,hO bE.cod b82 c83 108 n84 x81,⟨some b1,1,27,4,1,([pS bE.cod ([]:List bE)]++[pS cQ ([]:List Rat)]++[pS cQ ([]:List Rat)]++[pS aK.cod ([]:List aK)])⟩] [(0,.vc (pS cI a0)),(4,.vc (pP (some b1) 0)),(5,.vc (pI .i64 v4)),(6,.vc (pP (some b30) 0)),(9,.vc (pB (!a1))),(10,.vc (pI .i64 x113))] a w) K (fun a w ⟨_,_,_,_,_,hF,_,_⟩=>by cases hF) (fun k a w ⟨x107,x113,b108,c109,n110,hF,q111,hh⟩=>gX ?_ hh) (fun a w hh=>⟨([]:List aK),0,none,0,0,hL,rfl,bA [0,1,2,3,4,5] rfl (by decide) (by exact⟨rfl,rfl,rfl,rfl,rfl,rfl,trivial⟩) hh⟩)
    rw [cX.eq_2] at hF
    refine aD (aD (aE (aF ?_)))
    refine aF ?_
    obtain⟨v122,h123,hF⟩:=aO hF
    refine aB (aG rfl (cP h123) rfl) ⟨rfl,bC _ _,bC _ _,trivial⟩ ?_
    refine aB (dQ rfl) ⟨rfl,rfl,trivial⟩ ?_
    refine aC (aA (bO rfl (fun h124=>?_) (fun h124=>?_)))
    ·have hF:=aT h124 hF
     refine aV (aA (aD (bN (aD (aE (aF ?_))))))
     refine aF ?_
     obtain⟨v125,h126,hF⟩:=aO hF
     refine aB (lL rfl h126) ⟨bC _ _,rfl,trivial⟩ ?_
     obtain⟨v127,h128,hF⟩:=aO hF
     refine aB (bI rfl h128) ⟨bC _ _,rfl,trivial⟩ ?_
     obtain⟨v129,h130,hF⟩:=aO hF
     refine aB (aG rfl (cP h130) rfl) ⟨rfl,rfl,bC _ _,trivial⟩ ?_
     refine bB ?_
     refine aC (aA (aD (aE (aF ?_))))
     refine aF ?_
     obtain⟨v131,h132,hF⟩:=aO hF
     refine aB (aG rfl (lN h132) rfl) ⟨rfl,rfl,trivial⟩ ?_
     refine aF ?_
     refine aF ?_
     obtain⟨v133,h134,hF⟩:=aO hF
     refine aB (lL rfl h134) ⟨bC _ _,rfl,trivial⟩ ?_
     obtain⟨v135,h136,hF⟩:=aO hF
     refine aB (bI rfl h136) ⟨bC _ _,rfl,trivial⟩ ?_
     obtain⟨v137,h138,hF⟩:=aO hF
     refine aB (aG rfl (cP h138) rfl) ⟨rfl,rfl,bC _ _,trivial⟩ ?_
     refine aF ?_
     obtain⟨v139,h140,hF⟩:=aO hF
     refine aB (aG rfl (lN h140) rfl) ⟨rfl,rfl,trivial⟩ ?_
     refine aF ?_
     refine aF ?_
     obtain⟨v141,h142,hF⟩:=aO hF
     refine aB (lL rfl h142) ⟨bC _ _,rfl,trivial⟩ ?_
     obtain⟨v143,h144,hF⟩:=aO hF
     refine aB (bI rfl h144) ⟨bC _ _,rfl,trivial⟩ ?_
     obtain⟨v145,h146,hF⟩:=aO hF
     refine aB (aG rfl (cP h146) rfl) ⟨rfl,rfl,bC _ _,trivial⟩ ?_
     refine aF ?_
     refine aF ?_
     obtain⟨v147,h148,hF⟩:=aO hF
     refine aB (lL rfl h148) ⟨bC _ _,rfl,trivial⟩ ?_
     obtain⟨v149,h150,hF⟩:=aO hF
     refine aB (bI rfl h150) ⟨bC _ _,rfl,trivial⟩ ?_
     obtain⟨v151,h152,hF⟩:=aO hF
     refine aB (aG rfl (cP h152) rfl) ⟨rfl,rfl,bC _ _,trivial⟩ ?_
     obtain⟨v153,h154,hF⟩:=aO hF
     refine aB (bI rfl h154) ⟨bC _ _,rfl,trivial⟩ ?_
     obtain⟨v155,h156,hF⟩:=aO hF
     refine aB (aG rfl (bV h156) rfl) ⟨rfl,rfl,trivial⟩ ?_
     refine aF ?_
     refine aB (fA (is:=[5,6,7,2]) (xs:=[.tmp 92,.tmp 99,.tmp 111,.tmp 112]) (ps:=[.vc (pS aQ.cod v131),.vc (pS aQ.cod v139),.va (eQ v155),.vc (pI .i64 x113)]) rfl tyB51q rfl rfl ⟨trivial,trivial,trivial,trivial,trivial⟩ rfl) ⟨rfl,rfl,rfl,rfl,trivial⟩ ?_
     refine bJ rfl tyZ51q (fun b157=>?_)
     refine aY (dA 0 rfl rfl rfl tyA51.s) ⟨rfl,rfl,trivial⟩ ?_
     refine aC (aA (aD (rB (fun H E=>∃(x159:aK),eU K x107 x113 v129 (cX K a0 a1 v4 k) x159=some x114'∧H=[⟨some b157,1,51,18,1,(aK.enc x159)⟩,⟨some b30,1,27,4,1,([pO b82 n84 c83]++[pO b76 n78 c77]++[pO b70 n72 c71]++[pO b108 n110 c109])⟩,hO aK.cod b108 c109 51 n110 x107,hO cQ b70 c71 44 n72 x93,hO cQ b76 c77 44 n78 x75,hO bE.cod b82 c83 108 n84 x81,⟨some b1,1,27,4,1,([pS bE.cod ([]:List bE)]++[pS cQ ([]:List Rat)]++[pS cQ ([]:List Rat)]++[pS aK.cod ([]:List aK)])⟩]∧E=[(0,.vc (pS cI a0)),(4,.vc (pP (some b1) 0)),(5,.vc (pI .i64 v4)),(6,.vc (pP (some b30) 0)),(9,.vc (pB (!a1))),(10,.vc (pI .i64 x113)),(11,.vc (pI .i64 v129)),(12,.vc (pP (some b157) 0))]) ?_ (fun Jj160=>?_))))
     ·rintro _ _ ⟨x159,hF,rfl,rfl⟩
      unfold eU at hF
      refine aD (aD (aE (aB (a8 (off:=0) (k:=10) rfl tyF51_7) ⟨rfl,trivial⟩ ?_)))
      refine aB (bD 0 4 rfl rfl rfl rfl (.agg tyA44)) ⟨rfl,trivial⟩ ?_
      obtain⟨v161,h162,hF⟩:=aO hF
      refine aB (aG rfl (nV h162) rfl) ⟨rfl,trivial⟩ ?_
      refine aB (iJ rfl) ⟨rfl,bC _ _,trivial⟩ ?_
      refine aF ?_
      refine cU (fun h163=>?_) (fun h163=>?_)
      ·have hF:=aT h163 hF
       refine aJ ?_
       refine aJ ?_
       refine aJ ?_
       refine aB (bK rfl) ⟨rfl,dH _,trivial⟩ ?_
       refine aC (aA (kT rfl ?_))
       refine aD (aE (aB (a8 (off:=0) (k:=9) rfl tyF51_6) ⟨rfl,trivial⟩ ?_))
       refine aY (dA 0 rfl rfl rfl tyO49.s) ⟨rfl,eJ aQ.cod,trivial⟩ ?_
       refine aC (aA (aE (aB (fA (is:=[]) (xs:=[]) (ps:=[]) rfl tyB44q rfl rfl trivial rfl) trivial ?_)))
       refine aB (a8 (off:=0) (k:=10) rfl tyF51_7) ⟨rfl,trivial⟩ ?_
       refine aY (dA 0 rfl rfl rfl tyA44.s) ⟨rfl,rfl,trivial⟩ ?_
       refine aC (aA (aE (aB (a8 (off:=0) (k:=3) rfl tyF27_3) ⟨rfl,trivial⟩ ?_)))
       refine aB (bD 1 1 rfl rfl rfl rfl (.one tyO25)) ⟨rfl,trivial⟩ ?_
       refine aB (bD 0 18 rfl rfl rfl rfl (.agg tyA51)) ⟨rfl,trivial⟩ ?_
       refine aB (pX (C:=aK.cod) (xs:=[.tmp 134]) (ps:=[.va ([pI .i64 x159.kind]++[pI .i64 x159.a]++[pI .i64 x159.b]++[pI .i64 x159.edge]++(eQ x159.gap)++[pS aQ.cod x159.j]++[pS aQ.cod []]++(eQ 0)++(eQ x159.e))]) (zs:=[(⟨x159.kind,x159.a,x159.b,x159.edge,x159.gap,x159.j,[],0,x159.e⟩:aK)]) rfl tyS25 rfl ⟨⟨trivial,rfl⟩,trivial⟩ rfl) ⟨rfl,trivial⟩ ?_
       obtain⟨x164,h165,hF⟩:=aO hF
       refine nY 2 rfl tyS25 rfl rfl q111 rfl rfl h165 (fun b166 c167 H168 e169=>?_)
       cases e169
       refine aB (a8 (off:=0) (k:=3) rfl tyF27_3) ⟨rfl,trivial⟩ ?_
       refine aY (dA 1 rfl rfl rfl tyO25.s) ⟨rfl,rfl,trivial⟩ ?_
       refine aC (bF (aA (aE (aF ?_))))
       obtain⟨v171,h172,hF⟩:=aO hF
       refine aB (bI rfl h172) ⟨rfl,bC _ _,trivial⟩ ?_
       refine bB ?_
       refine aC ?_
       exact bG (fun a w hh=>⟨x164,v171,b166,c167,(n110+[(⟨x159.kind,x159.a,x159.b,x159.edge,x159.gap,x159.j,[],0,x159.e⟩:aK)].length),hF,(gB h165 q111),bA [1,2,3,4,5,6] rfl (by decide) (by exact⟨rfl,rfl,rfl,rfl,rfl,rfl,trivial⟩) hh⟩)
      have hF:=aU h163 hF
      refine aZ (aL (.inl rfl)) ⟨rfl,trivial⟩ ?_
      obtain⟨v173,h174,hF⟩:=aO hF
      refine aZ (mZ rfl h174) ⟨rfl,bC _ _,trivial⟩ ?_
      refine aZ (iJ rfl) ⟨rfl,bC _ _,trivial⟩ ?_
      refine aB (bL rfl) ⟨rfl,rfl,trivial⟩ ?_
      refine aC (aA (bO rfl (fun h175=>?_) (fun h175=>?_)))
      ·have hF:=aT h175 hF
       refine aD (aE (aB (a8 (off:=0) (k:=9) rfl tyF51_6) ⟨rfl,trivial⟩ ?_))
       refine aY (dA 0 rfl rfl rfl tyO49.s) ⟨rfl,eJ aQ.cod,trivial⟩ ?_
       refine aC (aA (aE (aB (fA (is:=[]) (xs:=[]) (ps:=[]) rfl tyB44q rfl rfl trivial rfl) trivial ?_)))
       refine aB (a8 (off:=0) (k:=10) rfl tyF51_7) ⟨rfl,trivial⟩ ?_
       refine aY (dA 0 rfl rfl rfl tyA44.s) ⟨rfl,rfl,trivial⟩ ?_
       refine aC (aA (aE (aB (a8 (off:=0) (k:=3) rfl tyF27_3) ⟨rfl,trivial⟩ ?_)))
       refine aB (bD 1 1 rfl rfl rfl rfl (.one tyO25)) ⟨rfl,trivial⟩ ?_
       refine aB (bD 0 18 rfl rfl rfl rfl (.agg tyA51)) ⟨rfl,trivial⟩ ?_
       refine aB (pX (C:=aK.cod) (xs:=[.tmp 134]) (ps:=[.va ([pI .i64 x159.kind]++[pI .i64 x159.a]++[pI .i64 x159.b]++[pI .i64 x159.edge]++(eQ x159.gap)++[pS aQ.cod x159.j]++[pS aQ.cod []]++(eQ 0)++(eQ x159.e))]) (zs:=[(⟨x159.kind,x159.a,x159.b,x159.edge,x159.gap,x159.j,[],0,x159.e⟩:aK)]) rfl tyS25 rfl ⟨⟨trivial,rfl⟩,trivial⟩ rfl) ⟨rfl,trivial⟩ ?_
       obtain⟨x176,h177,hF⟩:=aO hF
       refine nY 2 rfl tyS25 rfl rfl q111 rfl rfl h177 (fun b178 c179 H180 e181=>?_)
       cases e181
       refine aB (a8 (off:=0) (k:=3) rfl tyF27_3) ⟨rfl,trivial⟩ ?_
       refine aY (dA 1 rfl rfl rfl tyO25.s) ⟨rfl,rfl,trivial⟩ ?_
       refine aC (bF (aA (aE (aF ?_))))
       obtain⟨v183,h184,hF⟩:=aO hF
       refine aB (bI rfl h184) ⟨rfl,bC _ _,trivial⟩ ?_
       refine bB ?_
       refine aC ?_
       exact bG (fun a w hh=>⟨x176,v183,b178,c179,(n110+[(⟨x159.kind,x159.a,x159.b,x159.edge,x159.gap,x159.j,[],0,x159.e⟩:aK)].length),hF,(gB h177 q111),bA [1,2,3,4,5,6] rfl (by decide) (by exact⟨rfl,rfl,rfl,rfl,rfl,rfl,trivial⟩) hh⟩)
      have hF:=aU h175 hF
      refine aV (aA (aE (aB (a8 (off:=0) (k:=3) rfl tyF27_3) ⟨rfl,trivial⟩ ?_)))
      refine aB (bD 1 1 rfl rfl rfl rfl (.one tyO25)) ⟨rfl,trivial⟩ ?_
      refine aB (bD 0 18 rfl rfl rfl rfl (.agg tyA51)) ⟨rfl,trivial⟩ ?_
      refine aB (pX (C:=aK.cod) (xs:=[.tmp 134]) (ps:=[.va (aK.enc x159)]) (zs:=[x159]) rfl tyS25 rfl ⟨⟨trivial,rfl⟩,trivial⟩ rfl) ⟨rfl,trivial⟩ ?_
      obtain⟨x185,h186,hF⟩:=aO hF
      refine nY 2 rfl tyS25 rfl rfl q111 rfl rfl h186 (fun b187 c188 H189 e190=>?_)
      cases e190
      refine aB (a8 (off:=0) (k:=3) rfl tyF27_3) ⟨rfl,trivial⟩ ?_
      refine aY (dA 1 rfl rfl rfl tyO25.s) ⟨rfl,rfl,trivial⟩ ?_
      refine aC (bF (aA (aE (aF ?_))))
      obtain⟨v192,h193,hF⟩:=aO hF
      refine aB (bI rfl h193) ⟨rfl,bC _ _,trivial⟩ ?_
      refine bB ?_
      refine aC ?_
      exact bG (fun a w hh=>⟨x185,v192,b187,c188,(n110+[x159].length),hF,(gB h186 q111),bA [1,2,3,4,5,6] rfl (by decide) (by exact⟨rfl,rfl,rfl,rfl,rfl,rfl,trivial⟩) hh⟩)
     refine aD (aE (aF ?_))
     refine aC (aA (bO rfl (fun h194=>?_) (fun h194=>?_)))
     ·have hF:=aT h194 hF
      refine aE (aF ?_)
      refine aF ?_
      obtain⟨v195,h196,hF⟩:=aO hF
      refine aB (fH rfl h196) ⟨rfl,bC _ _,trivial⟩ ?_
      obtain⟨v197,h198,hF⟩:=aO hF
      refine aB (aG rfl (lN h198) rfl) ⟨rfl,rfl,trivial⟩ ?_
      refine aB (a8 (off:=0) (k:=8) rfl tyF51_5) ⟨rfl,trivial⟩ ?_
      refine aY (dA 0 rfl rfl rfl tyO49.s) ⟨rfl,rfl,trivial⟩ ?_
      refine aC ?_
      exact bS Jj160 ⟨(⟨0,0,x113,0,0,v197,v139,v155,0⟩:aK),hF,rfl,rfl⟩ [0,1,2,3,4,5,6] rfl ⟨rfl,rfl,rfl,rfl,rfl,rfl,rfl,rfl,trivial⟩
     have hF:=aU h194 hF
     refine aV ?_
     exact bS Jj160 ⟨(⟨0,0,x113,0,0,v131,v139,v155,0⟩:aK),hF,rfl,rfl⟩ [0,1,2,3,4,5,6] rfl ⟨rfl,rfl,rfl,rfl,rfl,rfl,rfl,rfl,trivial⟩
    have hF:=aU h124 hF
    refine dE ?_
    obtain rfl:=bX hF
    exact bS Jj121 ⟨x107,b108,c109,n110,hRl120,q111,rfl,rfl⟩ [0,1,2,3,4,5] rfl ⟨rfl,rfl,trivial⟩
   refine aD (aE (aF ?_))
   refine aC (aA (bO rfl (fun h199=>?_) (fun h199=>?_)))
   ·have hF:=aT h199 hF
    obtain⟨v202,h203,hF⟩:=aO hF
    obtain⟨v204,h205,hF⟩:=aO hF
    obtain⟨v206,h207,hF⟩:=aO hF
    obtain⟨v208,h209,hF⟩:=aO hF
    obtain⟨v210,h211,hF⟩:=aO hF
    obtain⟨v212,h213,hF⟩:=aO hF
    obtain⟨v214,h215,hF⟩:=aO hF
    refine bP [0,1,0,4,0,16,48,0,176,432,1008,2047,4095] 12 1 [.v (.vc (pP (some b30) 2)),.v (.vc (pO b70 n72 c71)),.v (.vc (pI .i64 v4)),.v (.vc (pI .i64 v202)),.v (.vc (pS cI a0)),.v (.vc (pI .i64 v204)),.v (.vc (pI .i64 v206)),.v (.vc (pS cI a0)),.v (.vc (pI .i64 v208)),.v (.vc (pI .i64 v210)),.v (.va (eQ v212)),.v (.vc (pE b70 v202 cQ.n 0))] aR ⟨d0 (a8 (off:=0) (k:=2) rfl tyF27_2) ⟨rfl,trivial⟩,d0 (bD 0 1 rfl rfl rfl rfl (.one tyO24)) ⟨rfl,trivial⟩,d0 (aL (.inl rfl)) ⟨rfl,trivial⟩,d0 (fH rfl h203) ⟨rfl,bC _ _,trivial⟩,d0 (aL (.inl rfl)) ⟨rfl,trivial⟩,d0 (aG rfl (cP h205) rfl) ⟨rfl,bC _ _,bC _ _,trivial⟩,d0 (fH rfl h207) ⟨rfl,bC _ _,trivial⟩,d0 (aL (.inl rfl)) ⟨rfl,trivial⟩,d0 (aG rfl (cP h209) rfl) ⟨rfl,bC _ _,bC _ _,trivial⟩,d0 (bI rfl h211) ⟨bC _ _,rfl,trivial⟩,d0 (aG rfl (bV h213) rfl) ⟨rfl,rfl,trivial⟩,d0 (cE (C:=cQ) 2 rfl tyS24 rfl q73 (aN h215).1 (aN h215).2.1) ⟨rfl,rfl,trivial⟩,trivial⟩ (fun bs201 G200=>?_)
    obtain⟨x216,h217,hF⟩:=aO hF
    refine aY (fL 2 rfl rfl h215 h217 tyA44.s) ⟨rfl,rfl,trivial⟩ ?_
    refine aC ?_
    exact bS Jj99 ⟨x216,hF,(b0 h217 q73),rfl,rfl⟩ [0,1,2,3,4,5] rfl ⟨rfl,rfl,rfl,rfl,rfl,trivial⟩
   have hF:=aU h199 hF
   refine aV ?_
   exact bS Jj99 ⟨x69,hF,q73,rfl,rfl⟩ [0,1,2,3,4,5] rfl ⟨rfl,rfl,rfl,rfl,rfl,trivial⟩
  have hF:=aU h91 hF
  refine aJ ?_
  refine aJ ?_
  refine aB (bL rfl) ⟨rfl,dH _,trivial⟩ ?_
  refine bB ?_
  refine aC (aA (aD (rB (fun H E=>lG K a0 v4 x69 x75 x81=some r∧H=[⟨some b30,1,27,4,1,([pO b82 n84 c83]++[pO b76 n78 c77]++[pO b70 n72 c71]++[pO none 0 0])⟩,hO aK.cod none 0 51 0 ([]:List aK),hO cQ b70 c71 44 n72 x69,hO cQ b76 c77 44 n78 x75,hO bE.cod b82 c83 108 n84 x81,⟨some b1,1,27,4,1,([pS bE.cod ([]:List bE)]++[pS cQ ([]:List Rat)]++[pS cQ ([]:List Rat)]++[pS aK.cod ([]:List aK)])⟩]∧E=[(0,.vc (pS cI a0)),(4,.vc (pP (some b1) 0)),(5,.vc (pI .i64 v4)),(6,.vc (pP (some b30) 0)),(9,.vc (pB false))]) ?_ (fun Jj220=>?_))))
  ·rintro _ _ ⟨hF,rfl,rfl⟩
   unfold lG at hF
   refine aD (aD (aE (aB (aL (.inr rfl)) ⟨bC _ _,trivial⟩ ?_)))
   refine aC (aA (bN (cL (fun H E=>∃(x235:List aK),∃(b236:Option Nat),∃(c237:Nat),∃(n238:Nat),lA K x69 x75 x81 x235=some r∧x235.length=n238∧H=[⟨some b30,1,27,4,1,([pO b82 n84 c83]++[pO b76 n78 c77]++[pO b70 n72 c71]++[pO b236 n238 c237])⟩,hO aK.cod b236 c237 51 n238 x235,hO cQ b70 c71 44 n72 x69,hO cQ b76 c77 44 n78 x75,hO bE.cod b82 c83 108 n84 x81,⟨some b1,1,27,4,1,([pS bE.cod ([]:List bE)]++[pS cQ ([]:List Rat)]++[pS cQ ([]:List Rat)]++[pS aK.cod ([]:List aK)])⟩]∧E=[(4,.vc (pP (some b1) 0)),(6,.vc (pP (some b30) 0))]) ?_ (fun Jj242=>?_))))
   ·rintro _ _ ⟨x235,b236,c237,n238,hF,q239,rfl,rfl⟩
    unfold lA at hF
    refine aA (aD (aE (wQ 4 0 0 rfl q85 rfl rfl rfl rfl rfl ?_)))
    refine wQ 3 0 1 rfl q79 rfl rfl rfl rfl rfl ?_
    refine wQ 2 0 2 rfl q73 rfl rfl rfl rfl rfl ?_
    refine wQ 1 0 3 rfl q239 rfl rfl rfl rfl rfl ?_
    refine aB (bD 0 4 rfl rfl rfl rfl (.agg tyA27)) ⟨rfl,trivial⟩ ?_
    refine aY (dA 1 rfl rfl rfl tyA27.s) ⟨rfl,rfl,trivial⟩ ?_
    refine aC (aA (aX (aW ?_)))
    obtain rfl:=bX hF
    exact aI (.inl rfl) Tryz.results16 (bM 1 4 rfl rfl rfl rfl (.agg tyA27) .nil) rfl rfl
   obtain⟨x235',hL,hRl241⟩:=aO hF
   refine gY (fun k a w=>∃(x228:List aK),∃(x234:Int),∃(b229:Option Nat),∃(c230:Nat),∃(n231:Nat),dV K a0 v4 k x228 x234=some x235'∧x228.length=n231∧hs _ [⟨some b30,1,27,4,1,([pO b82 n84 c83]++[pO b76 n78 c77]++[pO b70 n72 c71]++[pO b229 n231 c230])⟩,hO aK.cod b229 c230 51 n231 x228,hO cQ b70 c71 44 n72 x69,hO cQ b76 c77 44 n78 x75,hO bE.cod b82 c83 108 n84 x81,⟨some b1,1,27,4,1,([pS bE.cod ([]:List bE)]++[pS cQ ([]:List Rat)]++[pS cQ ([]:List Rat)]++[pS aK.cod ([]:List aK)])⟩] [(0,.vc (pS cI a0)),(4,.vc (pP (some b1) 0)),(5,.vc (pI .i64 v4)),(6,.vc (pP (some b30) 0)),(9,.vc (pB false)),(10,.vc (pI .i64 x234))] a w) K (fun a w ⟨_,_,_,_,_,hF,_,_⟩=>by cases hF) (fun k a w ⟨x228,x234,b229,c230,n231,hF,q232,hh⟩=>gX ?_ hh) (fun a w hh=>⟨([]:List aK),0,none,0,0,hL,rfl,bA [0,1,2,3,4,5] rfl (by decide) (by exact⟨rfl,rfl,rfl,rfl,rfl,rfl,trivial⟩) hh⟩)
   rw [dV.eq_2] at hF
   refine aD (aD (aE (aF ?_)))
   refine aF ?_
   obtain⟨v243,h244,hF⟩:=aO hF
   refine aB (aG rfl (cP h244) rfl) ⟨rfl,bC _ _,bC _ _,trivial⟩ ?_
   refine aB (dQ rfl) ⟨rfl,rfl,trivial⟩ ?_
   refine aC (aA (bO rfl (fun h245=>?_) (fun h245=>?_)))
   ·have hF:=aT h245 hF
    refine aV (aA (aD (bN (aD (aE (aF ?_))))))
    refine aF ?_
    obtain⟨v246,h247,hF⟩:=aO hF
    refine aB (lL rfl h247) ⟨bC _ _,rfl,trivial⟩ ?_
    obtain⟨v248,h249,hF⟩:=aO hF
    refine aB (bI rfl h249) ⟨bC _ _,rfl,trivial⟩ ?_
    obtain⟨v250,h251,hF⟩:=aO hF
    refine aB (aG rfl (cP h251) rfl) ⟨rfl,rfl,bC _ _,trivial⟩ ?_
    refine bB ?_
    refine aC (aA (aD (aE (aF ?_))))
    refine aF ?_
    obtain⟨v252,h253,hF⟩:=aO hF
    refine aB (aG rfl (lN h253) rfl) ⟨rfl,rfl,trivial⟩ ?_
    refine aF ?_
    refine aF ?_
    obtain⟨v254,h255,hF⟩:=aO hF
    refine aB (lL rfl h255) ⟨bC _ _,rfl,trivial⟩ ?_
    obtain⟨v256,h257,hF⟩:=aO hF
    refine aB (bI rfl h257) ⟨bC _ _,rfl,trivial⟩ ?_
    obtain⟨v258,h259,hF⟩:=aO hF
    refine aB (aG rfl (cP h259) rfl) ⟨rfl,rfl,bC _ _,trivial⟩ ?_
    refine aF ?_
    obtain⟨v260,h261,hF⟩:=aO hF
    refine aB (aG rfl (lN h261) rfl) ⟨rfl,rfl,trivial⟩ ?_
    refine aF ?_
    refine aF ?_
    obtain⟨v262,h263,hF⟩:=aO hF
    refine aB (lL rfl h263) ⟨bC _ _,rfl,trivial⟩ ?_
    obtain⟨v264,h265,hF⟩:=aO hF
    refine aB (bI rfl h265) ⟨bC _ _,rfl,trivial⟩ ?_
    obtain⟨v266,h267,hF⟩:=aO hF
    refine aB (aG rfl (cP h267) rfl) ⟨rfl,rfl,bC _ _,trivial⟩ ?_
    refine aF ?_
    refine aF ?_
    obtain⟨v268,h269,hF⟩:=aO hF
    refine aB (lL rfl h269) ⟨bC _ _,rfl,trivial⟩ ?_
    obtain⟨v270,h271,hF⟩:=aO hF
    refine aB (bI rfl h271) ⟨bC _ _,rfl,trivial⟩ ?_
    obtain⟨v272,h273,hF⟩:=aO hF
    refine aB (aG rfl (cP h273) rfl) ⟨rfl,rfl,bC _ _,trivial⟩ ?_
    obtain⟨v274,h275,hF⟩:=aO hF
    refine aB (bI rfl h275) ⟨bC _ _,rfl,trivial⟩ ?_
    obtain⟨v276,h277,hF⟩:=aO hF
    refine aB (aG rfl (bV h277) rfl) ⟨rfl,rfl,trivial⟩ ?_
    refine aF ?_
    refine aB (fA (is:=[5,6,7,2]) (xs:=[.tmp 92,.tmp 99,.tmp 111,.tmp 112]) (ps:=[.vc (pS aQ.cod v252),.vc (pS aQ.cod v260),.va (eQ v276),.vc (pI .i64 x234)]) rfl tyB51q rfl rfl ⟨trivial,trivial,trivial,trivial,trivial⟩ rfl) ⟨rfl,rfl,rfl,rfl,trivial⟩ ?_
    refine bJ rfl tyZ51q (fun b278=>?_)
    refine aY (dA 0 rfl rfl rfl tyA51.s) ⟨rfl,rfl,trivial⟩ ?_
    refine aC (aA (aD (rB (fun H E=>fQ K x228 x234 v250 v252 v260 v276 (dV K a0 v4 k)=some x235'∧H=[⟨some b278,1,51,18,1,([pI .i64 0]++[pI .i64 0]++[pI .i64 x234]++[pI .i64 0]++(eQ 0)++[pS aQ.cod v252]++[pS aQ.cod v260]++(eQ v276)++(eQ 0))⟩,⟨some b30,1,27,4,1,([pO b82 n84 c83]++[pO b76 n78 c77]++[pO b70 n72 c71]++[pO b229 n231 c230])⟩,hO aK.cod b229 c230 51 n231 x228,hO cQ b70 c71 44 n72 x69,hO cQ b76 c77 44 n78 x75,hO bE.cod b82 c83 108 n84 x81,⟨some b1,1,27,4,1,([pS bE.cod ([]:List bE)]++[pS cQ ([]:List Rat)]++[pS cQ ([]:List Rat)]++[pS aK.cod ([]:List aK)])⟩]∧E=[(0,.vc (pS cI a0)),(4,.vc (pP (some b1) 0)),(5,.vc (pI .i64 v4)),(6,.vc (pP (some b30) 0)),(9,.vc (pB false)),(10,.vc (pI .i64 x234)),(11,.vc (pI .i64 v250)),(12,.vc (pP (some b278) 0))]) ?_ (fun Jj280=>?_))))
    ·rintro _ _ ⟨hF,rfl,rfl⟩
     unfold fQ at hF
     refine aD (aD (aE (aB (a8 (off:=0) (k:=10) rfl tyF51_7) ⟨rfl,trivial⟩ ?_)))
     refine aB (bD 0 4 rfl rfl rfl rfl (.agg tyA44)) ⟨rfl,trivial⟩ ?_
     obtain⟨v281,h282,hF⟩:=aO hF
     refine aB (aG rfl (nV h282) rfl) ⟨rfl,trivial⟩ ?_
     refine aB (iJ rfl) ⟨rfl,bC _ _,trivial⟩ ?_
     refine aF ?_
     refine cU (fun h283=>?_) (fun h283=>?_)
     ·have hF:=aT h283 hF
      refine aJ ?_
      refine aJ ?_
      refine aJ ?_
      refine aB (bK rfl) ⟨rfl,dH _,trivial⟩ ?_
      refine aC (aA (kT rfl ?_))
      refine aD (aE (aB (a8 (off:=0) (k:=9) rfl tyF51_6) ⟨rfl,trivial⟩ ?_))
      refine aY (dA 0 rfl rfl rfl tyO49.s) ⟨rfl,eJ aQ.cod,trivial⟩ ?_
      refine aC (aA (aE (aB (fA (is:=[]) (xs:=[]) (ps:=[]) rfl tyB44q rfl rfl trivial rfl) trivial ?_)))
      refine aB (a8 (off:=0) (k:=10) rfl tyF51_7) ⟨rfl,trivial⟩ ?_
      refine aY (dA 0 rfl rfl rfl tyA44.s) ⟨rfl,rfl,trivial⟩ ?_
      refine aC (aA (aE (aB (a8 (off:=0) (k:=3) rfl tyF27_3) ⟨rfl,trivial⟩ ?_)))
      refine aB (bD 1 1 rfl rfl rfl rfl (.one tyO25)) ⟨rfl,trivial⟩ ?_
      refine aB (bD 0 18 rfl rfl rfl rfl (.agg tyA51)) ⟨rfl,trivial⟩ ?_
      refine aB (pX (C:=aK.cod) (xs:=[.tmp 134]) (ps:=[.va ([pI .i64 0]++[pI .i64 0]++[pI .i64 x234]++[pI .i64 0]++(eQ 0)++[pS aQ.cod v252]++[pS aQ.cod []]++(eQ 0)++(eQ 0))]) (zs:=[(⟨0,0,x234,0,0,v252,[],0,0⟩:aK)]) rfl tyS25 rfl ⟨⟨trivial,rfl⟩,trivial⟩ rfl) ⟨rfl,trivial⟩ ?_
      obtain⟨x284,h285,hF⟩:=aO hF
      refine nY 2 rfl tyS25 rfl rfl q232 rfl rfl h285 (fun b286 c287 H288 e289=>?_)
      cases e289
      refine aB (a8 (off:=0) (k:=3) rfl tyF27_3) ⟨rfl,trivial⟩ ?_
      refine aY (dA 1 rfl rfl rfl tyO25.s) ⟨rfl,rfl,trivial⟩ ?_
      refine aC (bF (aA (aE (aF ?_))))
      obtain⟨v291,h292,hF⟩:=aO hF
      refine aB (bI rfl h292) ⟨rfl,bC _ _,trivial⟩ ?_
      refine bB ?_
      refine aC ?_
      exact bG (fun a w hh=>⟨x284,v291,b286,c287,(n231+[(⟨0,0,x234,0,0,v252,[],0,0⟩:aK)].length),hF,(gB h285 q232),bA [1,2,3,4,5,6] rfl (by decide) (by exact⟨rfl,rfl,rfl,rfl,rfl,rfl,trivial⟩) hh⟩)
     have hF:=aU h283 hF
     refine aZ (aL (.inl rfl)) ⟨rfl,trivial⟩ ?_
     obtain⟨v293,h294,hF⟩:=aO hF
     refine aZ (mZ rfl h294) ⟨rfl,bC _ _,trivial⟩ ?_
     refine aZ (iJ rfl) ⟨rfl,bC _ _,trivial⟩ ?_
     refine aB (bL rfl) ⟨rfl,rfl,trivial⟩ ?_
     refine aC (aA (bO rfl (fun h295=>?_) (fun h295=>?_)))
     ·have hF:=aT h295 hF
      refine aD (aE (aB (a8 (off:=0) (k:=9) rfl tyF51_6) ⟨rfl,trivial⟩ ?_))
      refine aY (dA 0 rfl rfl rfl tyO49.s) ⟨rfl,eJ aQ.cod,trivial⟩ ?_
      refine aC (aA (aE (aB (fA (is:=[]) (xs:=[]) (ps:=[]) rfl tyB44q rfl rfl trivial rfl) trivial ?_)))
      refine aB (a8 (off:=0) (k:=10) rfl tyF51_7) ⟨rfl,trivial⟩ ?_
      refine aY (dA 0 rfl rfl rfl tyA44.s) ⟨rfl,rfl,trivial⟩ ?_
      refine aC (aA (aE (aB (a8 (off:=0) (k:=3) rfl tyF27_3) ⟨rfl,trivial⟩ ?_)))
      refine aB (bD 1 1 rfl rfl rfl rfl (.one tyO25)) ⟨rfl,trivial⟩ ?_
      refine aB (bD 0 18 rfl rfl rfl rfl (.agg tyA51)) ⟨rfl,trivial⟩ ?_
      refine aB (pX (C:=aK.cod) (xs:=[.tmp 134]) (ps:=[.va ([pI .i64 0]++[pI .i64 0]++[pI .i64 x234]++[pI .i64 0]++(eQ 0)++[pS aQ.cod v252]++[pS aQ.cod []]++(eQ 0)++(eQ 0))]) (zs:=[(⟨0,0,x234,0,0,v252,[],0,0⟩:aK)]) rfl tyS25 rfl ⟨⟨trivial,rfl⟩,trivial⟩ rfl) ⟨rfl,trivial⟩ ?_
      obtain⟨x296,h297,hF⟩:=aO hF
      refine nY 2 rfl tyS25 rfl rfl q232 rfl rfl h297 (fun b298 c299 H300 e301=>?_)
      cases e301
      refine aB (a8 (off:=0) (k:=3) rfl tyF27_3) ⟨rfl,trivial⟩ ?_
      refine aY (dA 1 rfl rfl rfl tyO25.s) ⟨rfl,rfl,trivial⟩ ?_
      refine aC (bF (aA (aE (aF ?_))))
      obtain⟨v303,h304,hF⟩:=aO hF
      refine aB (bI rfl h304) ⟨rfl,bC _ _,trivial⟩ ?_
      refine bB ?_
      refine aC ?_
      exact bG (fun a w hh=>⟨x296,v303,b298,c299,(n231+[(⟨0,0,x234,0,0,v252,[],0,0⟩:aK)].length),hF,(gB h297 q232),bA [1,2,3,4,5,6] rfl (by decide) (by exact⟨rfl,rfl,rfl,rfl,rfl,rfl,trivial⟩) hh⟩)
     have hF:=aU h295 hF
     refine aV (aA (aE (aB (a8 (off:=0) (k:=3) rfl tyF27_3) ⟨rfl,trivial⟩ ?_)))
     refine aB (bD 1 1 rfl rfl rfl rfl (.one tyO25)) ⟨rfl,trivial⟩ ?_
     refine aB (bD 0 18 rfl rfl rfl rfl (.agg tyA51)) ⟨rfl,trivial⟩ ?_
     refine aB (pX (C:=aK.cod) (xs:=[.tmp 134]) (ps:=[.va ([pI .i64 0]++[pI .i64 0]++[pI .i64 x234]++[pI .i64 0]++(eQ 0)++[pS aQ.cod v252]++[pS aQ.cod v260]++(eQ v276)++(eQ 0))]) (zs:=[(⟨0,0,x234,0,0,v252,v260,v276,0⟩:aK)]) rfl tyS25 rfl ⟨⟨trivial,rfl⟩,trivial⟩ rfl) ⟨rfl,trivial⟩ ?_
     obtain⟨x305,h306,hF⟩:=aO hF
     refine nY 2 rfl tyS25 rfl rfl q232 rfl rfl h306 (fun b307 c308 H309 e310=>?_)
     cases e310
     refine aB (a8 (off:=0) (k:=3) rfl tyF27_3) ⟨rfl,trivial⟩ ?_
     refine aY (dA 1 rfl rfl rfl tyO25.s) ⟨rfl,rfl,trivial⟩ ?_
     refine aC (bF (aA (aE (aF ?_))))
     obtain⟨v312,h313,hF⟩:=aO hF
     refine aB (bI rfl h313) ⟨rfl,bC _ _,trivial⟩ ?_
     refine bB ?_
     refine aC ?_
     exact bG (fun a w hh=>⟨x305,v312,b307,c308,(n231+[(⟨0,0,x234,0,0,v252,v260,v276,0⟩:aK)].length),hF,(gB h306 q232),bA [1,2,3,4,5,6] rfl (by decide) (by exact⟨rfl,rfl,rfl,rfl,rfl,rfl,trivial⟩) hh⟩)
    refine aD (aE (aF ?_))
    refine aC (aA (qG rfl ?_))
    refine aV ?_
    exact bS Jj280 ⟨hF,rfl,rfl⟩ [0,1,2,3,4,5,6] rfl ⟨rfl,rfl,rfl,rfl,rfl,rfl,rfl,rfl,trivial⟩
   have hF:=aU h245 hF
   refine dE ?_
   obtain rfl:=bX hF
   exact bS Jj242 ⟨x228,b229,c230,n231,hRl241,q232,rfl,rfl⟩ [0,1,2,3,4,5] rfl ⟨rfl,rfl,trivial⟩
  refine aD (aE (aF ?_))
  refine aC (aA (qG rfl ?_))
  refine aV ?_
  exact bS Jj220 ⟨hF,rfl,rfl⟩ [0,1,2,3,4,5] rfl ⟨rfl,rfl,rfl,rfl,rfl,trivial⟩
 obtain⟨⟨x69',x75',x81'⟩,hL,hRl87⟩:=aO hF
 refine gY (fun k a w=>∃(x50:List Rat),∃(x56:List Rat),∃(x62:List bE),∃(x68:Int),∃(b51:Option Nat),∃(c52:Nat),∃(n53:Nat),∃(b57:Option Nat),∃(c58:Nat),∃(n59:Nat),∃(b63:Option Nat),∃(c64:Nat),∃(n65:Nat),f9 K a0 v4 k x50 x56 x62 x68=some (x69',x75',x81')∧x50.length=n53∧x56.length=n59∧x62.length=n65∧hs _ [⟨some b30,1,27,4,1,([pO b63 n65 c64]++[pO b57 n59 c58]++[pO b51 n53 c52]++[pO none 0 0])⟩,hO aK.cod none 0 51 0 ([]:List aK),hO cQ b51 c52 44 n53 x50,hO cQ b57 c58 44 n59 x56,hO bE.cod b63 c64 108 n65 x62,⟨some b1,1,27,4,1,([pS bE.cod ([]:List bE)]++[pS cQ ([]:List Rat)]++[pS cQ ([]:List Rat)]++[pS aK.cod ([]:List aK)])⟩] [(0,.vc (pS cI a0)),(1,.vc (pB a1)),(4,.vc (pP (some b1) 0)),(5,.vc (pI .i64 v4)),(6,.vc (pP (some b30) 0)),(7,.vc (pI .i64 x68))] a w) K (fun a w ⟨_,_,_,_,_,_,_,_,_,_,_,_,_,hF,_,_,_,_⟩=>by cases hF) (fun k a w ⟨x50,x56,x62,x68,b51,c52,n53,b57,c58,n59,b63,c64,n65,hF,q54,q60,q66,hh⟩=>gX ?_ hh) (fun a w hh=>⟨([]:List Rat),([]:List Rat),([]:List bE),0,none,0,0,none,0,0,none,0,0,hL,rfl,rfl,rfl,bA [0,1,2,3,4,5] rfl (by decide) (by exact⟨rfl,rfl,rfl,rfl,rfl,rfl,trivial⟩) hh⟩)
 rw [f9.eq_2] at hF
 refine aD (aD (aE (aF ?_)))
 refine aF ?_
 refine aB (dQ rfl) ⟨rfl,rfl,trivial⟩ ?_
 refine aC (aA (bO rfl (fun h314=>?_) (fun h314=>?_)))
 ·have hF:=aT h314 hF
  refine aV (aA (aD (bN (aD (aE (aF ?_))))))
  refine aF ?_
  obtain⟨v315,h316,hF⟩:=aO hF
  refine aB (bI rfl h316) ⟨bC _ _,rfl,trivial⟩ ?_
  obtain⟨v317,h318,hF⟩:=aO hF
  refine aB (aG rfl (cP h318) rfl) ⟨rfl,rfl,bC _ _,trivial⟩ ?_
  refine bB ?_
  refine aC (aA (aD ?_))
  obtain⟨v321,h322,hF⟩:=aO hF
  obtain⟨v323,h324,hF⟩:=aO hF
  obtain⟨v325,h326,hF⟩:=aO hF
  obtain⟨v327,h328,hF⟩:=aO hF
  obtain⟨v329,h330,hF⟩:=aO hF
  obtain⟨v331,h332,hF⟩:=aO hF
  refine bP [0,1,0,4,12,0,32,96,224,508,1020,2044,4095,8191,16383] 12 3 [.v (.vc (pP (some b30) 0)),.v (.vc (pO b63 n65 c64)),.v (.vc (pI .i64 v317)),.v (.vc (pI .i64 v321)),.v (.vc (pI .i64 v323)),.v (.vc (pI .i64 v317)),.v (.vc (pI .i64 v325)),.v (.vc (pI .i64 v327)),.v (.vc (pI .i64 v329)),.v (.va (eQ v331)),.v (.va ((eQ v331)++(eQ 0)++[pB false]++(eQ 0)++(eQ 0))),.v (.vc (pS bE.cod [(⟨v331,0,false,0,0⟩:bE)]))] aR ⟨d0 (a8 (off:=0) (k:=0) rfl tyF27_0) ⟨rfl,trivial⟩,d0 (bD 0 1 rfl rfl rfl rfl (.one tyO23)) ⟨rfl,trivial⟩,d0 (aL (.inl rfl)) ⟨rfl,trivial⟩,d0 (mZ rfl h322) ⟨rfl,bC _ _,trivial⟩,d0 (bI rfl h324) ⟨bC _ _,rfl,trivial⟩,d0 (aL (.inl rfl)) ⟨rfl,trivial⟩,d0 (oD rfl h326) ⟨rfl,bC _ _,trivial⟩,d0 (mZ rfl h328) ⟨rfl,bC _ _,trivial⟩,d0 (bI rfl h330) ⟨bC _ _,rfl,trivial⟩,d0 (aG rfl (bV h332) rfl) ⟨rfl,rfl,trivial⟩,d0 (fA (is:=[0]) (xs:=[.tmp 34]) (ps:=[.va (eQ v331)]) rfl tyB108q rfl rfl ⟨trivial,trivial⟩ rfl) ⟨rfl,trivial⟩,d0 (pX (C:=bE.cod) (xs:=[.tmp 35]) (ps:=[.va ((eQ v331)++(eQ 0)++[pB false]++(eQ 0)++(eQ 0))]) (zs:=[(⟨v331,0,false,0,0⟩:bE)]) rfl tyS23 rfl ⟨⟨trivial,rfl⟩,trivial⟩ rfl) ⟨rfl,trivial⟩,trivial⟩ (fun bs320 G319=>?_)
  obtain⟨x333,h334,hF⟩:=aO hF
  refine nY 4 rfl tyS23 rfl rfl q66 rfl rfl h334 (fun b335 c336 H337 e338=>?_)
  cases e338
  refine aB (a8 (off:=0) (k:=0) rfl tyF27_0) ⟨rfl,trivial⟩ ?_
  refine aY (dA 0 rfl rfl rfl tyO23.s) ⟨rfl,rfl,trivial⟩ ?_
  refine aC (aA (aD ?_))
  obtain⟨v342,h343,hF⟩:=aO hF
  obtain⟨v344,h345,hF⟩:=aO hF
  obtain⟨v346,h347,hF⟩:=aO hF
  obtain⟨v348,h349,hF⟩:=aO hF
  obtain⟨v350,h351,hF⟩:=aO hF
  obtain⟨v352,h353,hF⟩:=aO hF
  obtain⟨v354,h355,hF⟩:=aO hF
  refine bP [0,1,0,4,12,28,0,64,192,448,1020,2044,4095,8191,16383] 12 3 [.v (.vc (pP (some b30) 1)),.v (.vc (pO b57 n59 c58)),.v (.vc (pI .i64 v317)),.v (.vc (pI .i64 v342)),.v (.vc (pI .i64 v344)),.v (.vc (pI .i64 v346)),.v (.vc (pI .i64 v317)),.v (.vc (pI .i64 v348)),.v (.vc (pI .i64 v350)),.v (.vc (pI .i64 v352)),.v (.va (eQ v354)),.v (.vc (pS cQ [v354]))] aR ⟨d0 (a8 (off:=0) (k:=1) rfl tyF27_1) ⟨rfl,trivial⟩,d0 (bD 0 1 rfl rfl rfl rfl (.one tyO24)) ⟨rfl,trivial⟩,d0 (aL (.inl rfl)) ⟨rfl,trivial⟩,d0 (oD rfl h343) ⟨rfl,bC _ _,trivial⟩,d0 (mZ rfl h345) ⟨rfl,bC _ _,trivial⟩,d0 (fH rfl h347) ⟨rfl,bC _ _,trivial⟩,d0 (aL (.inl rfl)) ⟨rfl,trivial⟩,d0 (oD rfl h349) ⟨rfl,bC _ _,trivial⟩,d0 (mZ rfl h351) ⟨rfl,bC _ _,trivial⟩,d0 (bI rfl h353) ⟨bC _ _,rfl,trivial⟩,d0 (aG rfl (bV h355) rfl) ⟨rfl,rfl,trivial⟩,d0 (pX (C:=cQ) (xs:=[.tmp 49]) (ps:=[.va (eQ v354)]) (zs:=[v354]) rfl tyS24 rfl ⟨⟨trivial,rfl⟩,trivial⟩ rfl) ⟨rfl,trivial⟩,trivial⟩ (fun bs341 G340=>?_)
  obtain⟨x356,h357,hF⟩:=aO hF
  refine nY 3 rfl tyS24 rfl rfl q60 rfl rfl h357 (fun b358 c359 H360 e361=>?_)
  cases e361
  refine aB (a8 (off:=0) (k:=1) rfl tyF27_1) ⟨rfl,trivial⟩ ?_
  refine aY (dA 0 rfl rfl rfl tyO24.s) ⟨rfl,rfl,trivial⟩ ?_
  refine aC (aA (aE (aB (a8 (off:=0) (k:=2) rfl tyF27_2) ⟨rfl,trivial⟩ ?_)))
  refine aB (bD 0 1 rfl rfl rfl rfl (.one tyO24)) ⟨rfl,trivial⟩ ?_
  refine aB (fA (is:=[]) (xs:=[]) (ps:=[]) rfl tyB44q rfl rfl trivial rfl) trivial ?_
  refine aB (pX (C:=cQ) (xs:=[.tmp 55]) (ps:=[.va (eQ 0)]) (zs:=[0]) rfl tyS24 rfl ⟨⟨trivial,rfl⟩,trivial⟩ rfl) ⟨rfl,trivial⟩ ?_
  obtain⟨x363,h364,hF⟩:=aO hF
  refine nY 2 rfl tyS24 rfl rfl q54 rfl rfl h364 (fun b365 c366 H367 e368=>?_)
  cases e368
  refine aB (a8 (off:=0) (k:=2) rfl tyF27_2) ⟨rfl,trivial⟩ ?_
  refine aY (dA 0 rfl rfl rfl tyO24.s) ⟨rfl,rfl,trivial⟩ ?_
  refine aC (bF (aA (aE (aF ?_))))
  obtain⟨v370,h371,hF⟩:=aO hF
  refine aB (bI rfl h371) ⟨rfl,bC _ _,trivial⟩ ?_
  refine bB ?_
  refine aC ?_
  exact bG (fun a w hh=>⟨x363,x356,x333,v370,b365,c366,(n53+[0].length),b358,c359,(n59+[v354].length),b335,c336,(n65+[(⟨v331,0,false,0,0⟩:bE)].length),hF,(gB h364 q54),(gB h357 q60),(gB h334 q66),bA [0,1,2,3,4,5] rfl (by decide) (by exact⟨rfl,rfl,rfl,rfl,rfl,rfl,trivial⟩) hh⟩)
 have hF:=aU h314 hF
 refine dE ?_
 obtain⟨rfl,rfl,rfl⟩:=sm3 hF
 exact bS Jj88 ⟨x50,x56,x62,b51,c52,n53,b57,c58,n59,b63,c64,n65,hRl87,q54,q60,q66,rfl,rfl⟩ [0,1,2,3,4,5] rfl ⟨rfl,rfl,rfl,rfl,rfl,trivial⟩
def pW (K:Nat):Option Bool:=
 some true
def nC (K:Nat) (a0:List Rat):Nat→Int→Option (LR Bool Unit)
 |0,_=>none
 |k+1,x2=>bif(decide (x2<(a0.length:Int))) then((dO a0 x2).bind fun v6=>(aBl v6).bind fun v9=>bif(!v9) then(some (.ret false)) else((bQ (x2+1)).bind fun v12=>nC K a0 k v12)) else(some (.go ()))
def pK (K:Nat) (a0:List Rat):Option Bool:=
 (nC K a0 K 0).bind fun o=>match o with| .ret r=>some r| .go _=>pW K
theorem sU {K:Nat} {a0:List Rat} {r:Bool} (hF:pK K a0=some r):Ct Tryz.prog 150 [.vc (pS cQ a0)] (.vc (pB r)):=by
 unfold pK at hF
 refine a9 Tryz.func150 rfl (by kernel_rfl) Tryz.ntmps150 rfl (fun w0 M0=>?_)
 refine aD (aE (aB (aL (.inr rfl)) ⟨dH _,trivial⟩ ?_))
 refine aC (aA (aD (aD (aE (aF ?_)))))
 refine aB (bZ rfl tyS24) ⟨rfl,trivial⟩ ?_
 refine aB (aL (.inl rfl)) ⟨bC _ _,trivial⟩ ?_
 refine aC (aA (bN (cL (fun H E=>pW K=some r∧H=[]∧E=[]) ?_ (fun Jj4=>?_))))
 ·rintro _ _ ⟨hF,rfl,rfl⟩
  unfold pW at hF
  refine aA (aD (aE (aB (aL (.inr rfl)) ⟨dH _,trivial⟩ ?_)))
  refine aC (aA (aX (aW ?_)))
  obtain rfl:=bX hF
  exact aI (.inl rfl) Tryz.results150 (.tmp rfl .nil) rfl rfl
 obtain⟨ol3,hL,hRl3⟩:=aO hF
 refine gY (fun k a w=>∃(x2:Int),nC K a0 k x2=some ol3∧hs _ [] [(5,.vc (pS cQ a0)),(6,.vc (pI .i64 (a0.length:Int))),(7,.vc (pI .i64 x2))] a w) K (fun a w ⟨_,hF,_⟩=>by cases hF) (fun k a w ⟨x2,hF,hh⟩=>gX ?_ hh) (fun a w hh=>⟨0,hL,bA [] rfl (by decide) (by exact⟨rfl,rfl,rfl,trivial⟩) hh⟩)
 rw [nC.eq_2] at hF
 refine aD (aE (aB (dQ rfl) ⟨rfl,rfl,trivial⟩ ?_))
 refine aC (aA (aD (bO rfl (fun h5=>?_) (fun h5=>?_))))
 ·have hF:=aT h5 hF
  refine aV (aA (aD (bN (aD (aE ?_)))))
  obtain⟨v6,h7,hF⟩:=aO hF
  refine aB (dX rfl tyS24 h7) ⟨rfl,rfl,trivial⟩ ?_
  refine aB (dM 4 rfl rfl (.agg tyA44)) ⟨rfl,trivial⟩ ?_
  refine bJ rfl tyZ44q (fun b8=>?_)
  refine aY (dA 0 rfl rfl rfl tyA44.s) ⟨rfl,rfl,trivial⟩ ?_
  refine aC (aA (aD (aE (aB (bD 0 4 rfl rfl rfl rfl (.agg tyA44)) ⟨rfl,trivial⟩ ?_))))
  obtain⟨v9,h10,hF⟩:=aO hF
  refine aB (aG rfl (nB h10) rfl) ⟨rfl,trivial⟩ ?_
  refine aB (lK rfl) ⟨rfl,trivial⟩ ?_
  refine aC (aA (bO rfl (fun h11=>?_) (fun h11=>?_)))
  ·have hF:=aT h11 hF
   refine aD (aE (aB (aL (.inr rfl)) ⟨dH _,trivial⟩ ?_))
   refine aC (aA (aX (aW ?_)))
   obtain rfl:=bX hF
   obtain rfl:=bX hRl3
   exact aI (.inl rfl) Tryz.results150 (.tmp rfl .nil) rfl rfl
  have hF:=aU h11 hF
  refine aV (bF (aA (aE ?_)))
  obtain⟨v12,h13,hF⟩:=aO hF
  refine aB (bI rfl h13) ⟨rfl,bC _ _,trivial⟩ ?_
  refine aF ?_
  refine aC ?_
  exact bG (fun a w hh=>⟨v12,hF,bA [] rfl (by decide) (by exact⟨rfl,rfl,rfl,trivial⟩) hh⟩)
 have hF:=aU h5 hF
 refine dE ?_
 obtain rfl:=bX hF
 exact bS Jj4 ⟨hRl3,rfl,rfl⟩ [] rfl trivial
def o7 (K:Nat):Option Bool:=
 some true
def mL (K:Nat) (a0:List (List Rat)) (a1:List Rat):Nat→Int→Option (LR Bool Unit)
 |0,_=>none
 |k+1,x7=>bif(decide (x7<(a0.length:Int))) then((dO a0 x7).bind fun v11=>bif((v11.length:Int) != (a1.length:Int)) then(some (.ret false)) else((pK K v11).bind fun v14=>bif(!v14) then(some (.ret false)) else((bQ (x7+1)).bind fun v17=>mL K a0 a1 k v17))) else(some (.go ()))
def qW (K:Nat) (a0:List (List Rat)) (a1:List Rat):Option Bool:=
 bif((a0.length:Int) != (a1.length:Int)) then(some false) else(bif(decide (32<(a0.length:Int))) then(some false) else((pK K a1).bind fun v3=>bif(!v3) then(some false) else((mL K a0 a1 K 0).bind fun o=>match o with| .ret r=>some r| .go _=>o7 K)))
theorem wL {K:Nat} {a0:List (List Rat)} {a1:List Rat} {r:Bool} (hF:qW K a0 a1=some r):Ct Tryz.prog 108 [.vc (pS (sH cQ) a0),.vc (pS cQ a1)] (.vc (pB r)):=by
 unfold qW at hF
 refine a9 Tryz.func108 rfl (by kernel_rfl) Tryz.ntmps108 rfl (fun w0 M0=>?_)
 refine aD (aE (aB (aL (.inr rfl)) ⟨dH _,trivial⟩ ?_))
 refine aC (aA (aD (aD (aE (aF ?_)))))
 refine aB (bZ rfl tyS62) ⟨rfl,trivial⟩ ?_
 refine aF ?_
 refine aB (bZ rfl tyS24) ⟨rfl,trivial⟩ ?_
 refine aB (sC rfl) ⟨rfl,rfl,trivial⟩ ?_
 refine aF ?_
 refine cU (fun h1=>?_) (fun h1=>?_)
 ·have hF:=aT h1 hF
  refine aJ ?_
  refine aJ ?_
  refine aJ ?_
  refine aB (bK rfl) ⟨rfl,dH _,trivial⟩ ?_
  refine aF ?_
  refine aJ ?_
  refine aJ ?_
  refine aJ ?_
  refine aB (bK rfl) ⟨rfl,dH _,trivial⟩ ?_
  refine aC (aA (kT rfl ?_))
  refine aD (aE (aB (aL (.inr rfl)) ⟨dH _,trivial⟩ ?_))
  refine aC (aA (aX (aW ?_)))
  obtain rfl:=bX hF
  exact aI (.inl rfl) Tryz.results108 (.tmp rfl .nil) rfl rfl
 have hF:=aU h1 hF
 refine aZ (aL (.inl rfl)) ⟨rfl,trivial⟩ ?_
 refine aZ (bZ rfl tyS62) ⟨rfl,trivial⟩ ?_
 refine aZ (p8 rfl) ⟨rfl,bC _ _,trivial⟩ ?_
 refine aB (bL rfl) ⟨rfl,rfl,trivial⟩ ?_
 refine aF ?_
 refine cU (fun h2=>?_) (fun h2=>?_)
 ·have hF:=aT h2 hF
  refine aJ ?_
  refine aJ ?_
  refine aJ ?_
  refine aB (bK rfl) ⟨rfl,dH _,trivial⟩ ?_
  refine aC (aA (kT rfl ?_))
  refine aD (aE (aB (aL (.inr rfl)) ⟨dH _,trivial⟩ ?_))
  refine aC (aA (aX (aW ?_)))
  obtain rfl:=bX hF
  exact aI (.inl rfl) Tryz.results108 (.tmp rfl .nil) rfl rfl
 have hF:=aU h2 hF
 refine aZ (aL (.inl rfl)) ⟨rfl,trivial⟩ ?_
 obtain⟨v3,h4,hF⟩:=aO hF
 refine aZ (aG rfl (sU h4) rfl) ⟨rfl,trivial⟩ ?_
 refine aZ (lK rfl) ⟨rfl,trivial⟩ ?_
 refine aB (bL rfl) ⟨rfl,rfl,trivial⟩ ?_
 refine aC (aA (bO rfl (fun h5=>?_) (fun h5=>?_)))
 ·have hF:=aT h5 hF
  refine aD (aE (aB (aL (.inr rfl)) ⟨dH _,trivial⟩ ?_))
  refine aC (aA (aX (aW ?_)))
  obtain rfl:=bX hF
  exact aI (.inl rfl) Tryz.results108 (.tmp rfl .nil) rfl rfl
 have hF:=aU h5 hF
 refine aV (aA (aD (aD (aE (aF ?_)))))
 refine aB (bZ rfl tyS62) ⟨rfl,trivial⟩ ?_
 refine aB (aL (.inl rfl)) ⟨bC _ _,trivial⟩ ?_
 refine aC (aA (bN (cL (fun H E=>o7 K=some r∧H=[]∧E=[]) ?_ (fun Jj9=>?_))))
 ·rintro _ _ ⟨hF,rfl,rfl⟩
  unfold o7 at hF
  refine aA (aD (aE (aB (aL (.inr rfl)) ⟨dH _,trivial⟩ ?_)))
  refine aC (aA (aX (aW ?_)))
  obtain rfl:=bX hF
  exact aI (.inl rfl) Tryz.results108 (.tmp rfl .nil) rfl rfl
 obtain⟨ol8,hL,hRl8⟩:=aO hF
 refine gY (fun k a w=>∃(x7:Int),mL K a0 a1 k x7=some ol8∧hs _ [] [(1,.vc (pS cQ a1)),(22,.vc (pS (sH cQ) a0)),(23,.vc (pI .i64 (a0.length:Int))),(24,.vc (pI .i64 x7))] a w) K (fun a w ⟨_,hF,_⟩=>by cases hF) (fun k a w ⟨x7,hF,hh⟩=>gX ?_ hh) (fun a w hh=>⟨0,hL,bA [] rfl (by decide) (by exact⟨rfl,rfl,rfl,rfl,trivial⟩) hh⟩)
 rw [mL.eq_2] at hF
 refine aD (aE (aB (dQ rfl) ⟨rfl,rfl,trivial⟩ ?_))
 refine aC (aA (aD (bO rfl (fun h10=>?_) (fun h10=>?_))))
 ·have hF:=aT h10 hF
  refine aV (aA (aD (bN (aD (aE ?_)))))
  obtain⟨v11,h12,hF⟩:=aO hF
  refine aB (dX rfl tyS62 h12) ⟨rfl,rfl,trivial⟩ ?_
  refine aB (dM 1 rfl rfl (.one tyO24)) ⟨rfl,trivial⟩ ?_
  refine bB ?_
  refine aC (aA (aD (aE (aF ?_))))
  refine aB (bZ rfl tyS24) ⟨rfl,trivial⟩ ?_
  refine aF ?_
  refine aB (bZ rfl tyS24) ⟨rfl,trivial⟩ ?_
  refine aB (sC rfl) ⟨rfl,rfl,trivial⟩ ?_
  refine aF ?_
  refine cU (fun h13=>?_) (fun h13=>?_)
  ·have hF:=aT h13 hF
   refine aJ ?_
   refine aJ ?_
   refine aJ ?_
   refine aB (bK rfl) ⟨rfl,dH _,trivial⟩ ?_
   refine aC (aA (kT rfl ?_))
   refine aD (aE (aB (aL (.inr rfl)) ⟨dH _,trivial⟩ ?_))
   refine aC (aA (aX (aW ?_)))
   obtain rfl:=bX hF
   obtain rfl:=bX hRl8
   exact aI (.inl rfl) Tryz.results108 (.tmp rfl .nil) rfl rfl
  have hF:=aU h13 hF
  refine aZ (aL (.inl rfl)) ⟨rfl,trivial⟩ ?_
  obtain⟨v14,h15,hF⟩:=aO hF
  refine aZ (aG rfl (sU h15) rfl) ⟨rfl,trivial⟩ ?_
  refine aZ (lK rfl) ⟨rfl,trivial⟩ ?_
  refine aB (bL rfl) ⟨rfl,rfl,trivial⟩ ?_
  refine aC (aA (bO rfl (fun h16=>?_) (fun h16=>?_)))
  ·have hF:=aT h16 hF
   refine aD (aE (aB (aL (.inr rfl)) ⟨dH _,trivial⟩ ?_))
   refine aC (aA (aX (aW ?_)))
   obtain rfl:=bX hF
   obtain rfl:=bX hRl8
   exact aI (.inl rfl) Tryz.results108 (.tmp rfl .nil) rfl rfl
  have hF:=aU h16 hF
  refine aV (bF (aA (aE ?_)))
  obtain⟨v17,h18,hF⟩:=aO hF
  refine aB (bI rfl h18) ⟨rfl,bC _ _,trivial⟩ ?_
  refine aF ?_
  refine aC ?_
  exact bG (fun a w hh=>⟨v17,hF,bA [] rfl (by decide) (by exact⟨rfl,rfl,rfl,rfl,trivial⟩) hh⟩)
 have hF:=aU h10 hF
 refine dE ?_
 obtain rfl:=bX hF
 exact bS Jj9 ⟨hRl8,rfl,rfl⟩ [] rfl trivial
def nN (K:Nat):Option Bool:=
 some false
def kU (K:Nat) (a0:List Rat):Nat→Int→Option (LR Bool Unit)
 |0,_=>none
 |k+1,x2=>bif(decide (x2<(a0.length:Int))) then((dO a0 x2).bind fun v6=>(s5 v6).bind fun v9=>bif(decide (v9<0)) then(some (.ret true)) else((bQ (x2+1)).bind fun v12=>kU K a0 k v12)) else(some (.go ()))
def o6 (K:Nat) (a0:List Rat):Option Bool:=
 (kU K a0 K 0).bind fun o=>match o with| .ret r=>some r| .go _=>nN K
theorem uL {K:Nat} {a0:List Rat} {r:Bool} (hF:o6 K a0=some r):Ct Tryz.prog 110 [.vc (pS cQ a0)] (.vc (pB r)):=by
 unfold o6 at hF
 refine a9 Tryz.func110 rfl (by kernel_rfl) Tryz.ntmps110 rfl (fun w0 M0=>?_)
 refine aD (aE (aB (aL (.inr rfl)) ⟨dH _,trivial⟩ ?_))
 refine aC (aA (aD (aD (aE (aF ?_)))))
 refine aB (bZ rfl tyS24) ⟨rfl,trivial⟩ ?_
 refine aB (aL (.inl rfl)) ⟨bC _ _,trivial⟩ ?_
 refine aC (aA (bN (cL (fun H E=>nN K=some r∧H=[]∧E=[]) ?_ (fun Jj4=>?_))))
 ·rintro _ _ ⟨hF,rfl,rfl⟩
  unfold nN at hF
  refine aA (aD (aE (aB (aL (.inr rfl)) ⟨dH _,trivial⟩ ?_)))
  refine aC (aA (aX (aW ?_)))
  obtain rfl:=bX hF
  exact aI (.inl rfl) Tryz.results110 (.tmp rfl .nil) rfl rfl
 obtain⟨ol3,hL,hRl3⟩:=aO hF
 refine gY (fun k a w=>∃(x2:Int),kU K a0 k x2=some ol3∧hs _ [] [(5,.vc (pS cQ a0)),(6,.vc (pI .i64 (a0.length:Int))),(7,.vc (pI .i64 x2))] a w) K (fun a w ⟨_,hF,_⟩=>by cases hF) (fun k a w ⟨x2,hF,hh⟩=>gX ?_ hh) (fun a w hh=>⟨0,hL,bA [] rfl (by decide) (by exact⟨rfl,rfl,rfl,trivial⟩) hh⟩)
 rw [kU.eq_2] at hF
 refine aD (aE (aB (dQ rfl) ⟨rfl,rfl,trivial⟩ ?_))
 refine aC (aA (aD (bO rfl (fun h5=>?_) (fun h5=>?_))))
 ·have hF:=aT h5 hF
  refine aV (aA (aD (bN (aD (aE ?_)))))
  obtain⟨v6,h7,hF⟩:=aO hF
  refine aB (dX rfl tyS24 h7) ⟨rfl,rfl,trivial⟩ ?_
  refine aB (dM 4 rfl rfl (.agg tyA44)) ⟨rfl,trivial⟩ ?_
  refine bJ rfl tyZ44q (fun b8=>?_)
  refine aY (dA 0 rfl rfl rfl tyA44.s) ⟨rfl,rfl,trivial⟩ ?_
  refine aC (aA (aD (aE (aB (bD 0 4 rfl rfl rfl rfl (.agg tyA44)) ⟨rfl,trivial⟩ ?_))))
  obtain⟨v9,h10,hF⟩:=aO hF
  refine aB (aG rfl (gF h10) rfl) ⟨rfl,trivial⟩ ?_
  refine aB (dQ rfl) ⟨rfl,bC _ _,trivial⟩ ?_
  refine aC (aA (bO rfl (fun h11=>?_) (fun h11=>?_)))
  ·have hF:=aT h11 hF
   refine aD (aE (aB (aL (.inr rfl)) ⟨dH _,trivial⟩ ?_))
   refine aC (aA (aX (aW ?_)))
   obtain rfl:=bX hF
   obtain rfl:=bX hRl3
   exact aI (.inl rfl) Tryz.results110 (.tmp rfl .nil) rfl rfl
  have hF:=aU h11 hF
  refine aV (bF (aA (aE ?_)))
  obtain⟨v12,h13,hF⟩:=aO hF
  refine aB (bI rfl h13) ⟨rfl,bC _ _,trivial⟩ ?_
  refine aF ?_
  refine aC ?_
  exact bG (fun a w hh=>⟨v12,hF,bA [] rfl (by decide) (by exact⟨rfl,rfl,rfl,trivial⟩) hh⟩)
 have hF:=aU h5 hF
 refine dE ?_
 obtain rfl:=bX hF
 exact bS Jj4 ⟨hRl3,rfl,rfl⟩ [] rfl trivial
def mV (K:Nat) (a1:List Rat) (x59:List Int) (x65:List Nat) (x71:List (List Rat)):Option (Int×(List Nat)×(List Int)×(List (List Rat))):=
 some ((a1.length:Int),x65,x59,x71)
def l0 (K:Nat) (a1:List Rat) (x40:List Int) (x46:List Nat) (x52:List (List Rat)) (x58:Int) (recl77:(List Int)→(List Nat)→(List (List Rat))→Int→Option ((List Int)×(List Nat)×(List (List Rat)))) (x110:List Rat):Option ((List Int)×(List Nat)×(List (List Rat))):=
 (bQ (2*(a1.length:Int))).bind fun v118=>(wP (-1) 1).bind fun v120=>(dO x110 v118).bind fun v122=>(n8 x110 v118 v120).bind fun x124=>(bQ (2*(a1.length:Int))).bind fun v127=>(bQ (v127+1)).bind fun v129=>(dO a1 x58).bind fun v131=>(dO x124 v129).bind fun v133=>(n8 x124 v129 v131).bind fun x135=>(tB x46 [x52.length]).bind fun x139=>(tB x40 [x58]).bind fun x146=>(bQ (x58+1)).bind fun v153=>recl77 x146 x139 (x52++[x135]) v153
def jO (K:Nat) (a0:List (List Rat)) (a1:List Rat) (x58:Int):Nat→(List Rat)→Int→Option (List Rat)
 |0,_,_=>none
 |k+1,x103,x109=>bif(decide (x109<(a1.length:Int))) then((bQ ((a1.length:Int)+x109)).bind fun v156=>(dO a0 x58).bind fun v158=>(dO v158 x109).bind fun v160=>(aAd v160).bind fun v162=>(dO x103 v156).bind fun v164=>(n8 x103 v156 v162).bind fun x166=>(bQ (x109+1)).bind fun v169=>jO K a0 a1 x58 k x166 v169) else(some x103)
def hZ (K:Nat) (a0:List (List Rat)) (a1:List Rat):Nat→(List Int)→(List Nat)→(List (List Rat))→Int→Option ((List Int)×(List Nat)×(List (List Rat)))
 |0,_,_,_,_=>none
 |k+1,x40,x46,x52,x58=>bif(decide (x58<(a1.length:Int))) then((bQ (2*(a1.length:Int))).bind fun v80=>(bQ (v80+2)).bind fun v82=>(s6 v82 0).bind fun x84=>(wP 1 1).bind fun v89=>(dO x84 x58).bind fun v91=>(n8 x84 x58 v89).bind fun x93=>(jO K a0 a1 x58 K x93 0).bind fun x110=>l0 K a1 x40 x46 x52 x58 (hZ K a0 a1 k) x110) else(some (x40,x46,x52))
def oY (K:Nat) (a0:List (List Rat)) (a1:List Rat):Option (Int×(List Nat)×(List Int)×(List (List Rat))):=
 (hZ K a0 a1 K ([]:List Int) ([]:List Nat) ([]:List (List Rat)) 0).bind fun(x59,x65,x71)=>mV K a1 x59 x65 x71
theorem tU {K:Nat} {a0:List (List Rat)} {a1:List Rat} {r:Int×(List Nat)×(List Int)×(List (List Rat))} (hF:oY K a0 a1=some r):CtO Tryz.prog 109 [] [.vc (pS (sH cQ) a0),.vc (pS cQ a1)] (fun Ho q=>∃b1171 b1175 c1176 n1177 b1180 c1181 n1182 g1185 N1186,r.2.1.length=n1177∧r.2.2.1.length=n1182∧r.2.2.2.length=N1186∧jW g1185 r.2.2.2∧(∀k∈r.2.1,k<N1186)∧Ho=([⟨some b1171,1,151,3,1,([pI .i64 r.1]++[pO b1175 n1177 c1176]++[pO b1180 n1182 c1181])⟩,hO (cH g1185) b1175 c1176 24 n1177 r.2.1,hO cI b1180 c1181 3 n1182 r.2.2.1]++gO cQ 44 g1185 r.2.2.2)∧q=.vc (pP (some b1171) 0)):=by
 unfold oY at hF
 refine a9 Tryz.func109 rfl (by kernel_rfl) Tryz.ntmps109 rfl (fun w0 M0=>?_)
 refine aD (aE (aB (aL (p:=.any) (.inr rfl)) ⟨fun _=>trivial,trivial⟩ ?_))
 refine aC (aA (aD (aE (aF ?_))))
 refine aB (bZ rfl tyS24) ⟨rfl,trivial⟩ ?_
 refine bB ?_
 refine aC (aA (aD (aE (aF ?_))))
 refine aFr cQ 44 ?_
 refine yR (cH ([]:List rY)) 24 ?_
 refine yR cI 3 ?_
 refine aB (fA (is:=[0]) (xs:=[.tmp 12]) (ps:=[.vc (pI .i64 (a1.length:Int))]) rfl tyB151_o1_o2q rfl rfl ⟨trivial,trivial⟩ rfl) ⟨rfl,trivial⟩ ?_
 refine cV rfl rfl trivial (fun b20=>?_)
 refine bB ?_
 refine aC (aA (aD (aD (aE (aF ?_)))))
 refine aB (aL (.inl rfl)) ⟨bC _ _,trivial⟩ ?_
 refine aC (aA (bN (cL (fun H E=>∃(x59:List Int),∃(x65:List Nat),∃(x71:List (List Rat)),∃(b60:Option Nat),∃(c61:Nat),∃(n62:Nat),∃(b66:Option Nat),∃(c67:Nat),∃(n68:Nat),∃(g72:List rY),∃(N73:Nat),mV K a1 x59 x65 x71=some r∧x59.length=n62∧x65.length=n68∧x71.length=N73∧jW g72 x71∧(∀k∈x65,k<N73)∧H=([⟨some b20,1,151,3,1,([pI .i64 (a1.length:Int)]++[pO b66 n68 c67]++[pO b60 n62 c61])⟩,hO cI b60 c61 3 n62 x59,hO (cH g72) b66 c67 24 n68 x65]++gO cQ 44 g72 x71)∧E=[(6,.vc (pP (some b20) 0))]) ?_ (fun Jj78=>?_))))
 ·rintro _ _ ⟨x59,x65,x71,b60,c61,n62,b66,c67,n68,g72,N73,hF,q63,q69,q74,q75,q76,rfl,rfl⟩
  unfold mV at hF
  refine aA (aD (aE (aF ?_)))
  refine bB ?_
  refine aC (aA (aX (aW ?_)))
  obtain rfl:=bX hF
  exact uW (.inl rfl) Tryz.results109 (.tmp rfl .nil) rfl 3 [0,2,1] rfl rfl (by decide) ⟨b20,b66,c67,n68,b60,c61,n62,g72,N73,q69,q63,q74,q75,q76,rfl,rfl⟩
 obtain⟨⟨x59',x65',x71'⟩,hL,hRl77⟩:=aO hF
 refine gY (fun k a w=>∃(x40:List Int),∃(x46:List Nat),∃(x52:List (List Rat)),∃(x58:Int),∃(b41:Option Nat),∃(c42:Nat),∃(n43:Nat),∃(b47:Option Nat),∃(c48:Nat),∃(n49:Nat),∃(g53:List rY),∃(N54:Nat),hZ K a0 a1 k x40 x46 x52 x58=some (x59',x65',x71')∧x40.length=n43∧x46.length=n49∧x52.length=N54∧jW g53 x52∧(∀k∈x46,k<N54)∧hs _ ([⟨some b20,1,151,3,1,([pI .i64 (a1.length:Int)]++[pO b47 n49 c48]++[pO b41 n43 c42])⟩,hO cI b41 c42 3 n43 x40,hO (cH g53) b47 c48 24 n49 x46]++gO cQ 44 g53 x52) [(0,.vc (pS (sH cQ) a0)),(1,.vc (pS cQ a1)),(5,.vc (pI .i64 (a1.length:Int))),(6,.vc (pP (some b20) 0)),(15,.vc (pI .i64 (a1.length:Int))),(16,.vc (pI .i64 x58))] a w) K (fun a w ⟨_,_,_,_,_,_,_,_,_,_,_,_,hF,_,_,_,_,_,_⟩=>by cases hF) (fun k a w ⟨x40,x46,x52,x58,b41,c42,n43,b47,c48,n49,g53,N54,hF,q44,q50,q55,q56,q57,hh⟩=>gX ?_ hh) (fun a w hh=>⟨([]:List Int),([]:List Nat),([]:List (List Rat)),0,none,0,0,none,0,0,([]:List rY),0,hL,rfl,rfl,(rfl),aAQ,(by simp),cO 3 [0,1,2] rfl rfl (by decide) (by exact⟨rfl,rfl,rfl,rfl,rfl,rfl,trivial⟩) hh⟩)
 rw [hZ.eq_2] at hF
 refine aD (aE (aB (dQ rfl) ⟨rfl,rfl,trivial⟩ ?_))
 refine aC (aA (aD (bO rfl (fun h79=>?_) (fun h79=>?_))))
 ·have hF:=aT h79 hF
  refine aV (aA (aD (bN (aD (aE (aF ?_))))))
  refine bB ?_
  refine aC (aA (aD (aE (aF ?_))))
  obtain⟨v80,h81,hF⟩:=aO hF
  refine aB (lL rfl h81) ⟨bC _ _,rfl,trivial⟩ ?_
  obtain⟨v82,h83,hF⟩:=aO hF
  refine aB (bI rfl h83) ⟨rfl,bC _ _,trivial⟩ ?_
  obtain⟨x84,h85,hF⟩:=aO hF
  refine rK (C:=cQ) rfl tyS24 rfl tyZ44q rfl h85 (fun b86=>?_)
  refine bB ?_
  refine aC (aA (aD (aE (aF ?_))))
  refine aF ?_
  obtain⟨v89,h90,hF⟩:=aO hF
  refine aB (aG rfl (t7 h90) rfl) ⟨bC _ _,bC _ _,trivial⟩ ?_
  obtain⟨v91,h92,hF⟩:=aO hF
  refine aB (cE (C:=cQ) 0 rfl tyS24 rfl rfl (aN h92).1 (aN h92).2.1) ⟨rfl,rfl,trivial⟩ ?_
  obtain⟨x93,h94,hF⟩:=aO hF
  refine aY (fL 0 rfl rfl h92 h94 tyA44.s) ⟨rfl,rfl,trivial⟩ ?_
  refine aC (aA (aD (aD (aE (aF ?_)))))
  refine aB (aL (.inl rfl)) ⟨bC _ _,trivial⟩ ?_
  refine aC (aA (bN (cL (fun H E=>∃(x110:List Rat),l0 K a1 x40 x46 x52 x58 (hZ K a0 a1 k) x110=some (x59',x65',x71')∧x110.length=x84.length∧H=([hO cQ b86 x84.length 44 x84.length x110,⟨some b20,1,151,3,1,([pI .i64 (a1.length:Int)]++[pO b47 n49 c48]++[pO b41 n43 c42])⟩,hO cI b41 c42 3 n43 x40,hO (cH g53) b47 c48 24 n49 x46]++gO cQ 44 g53 x52)∧E=[(0,.vc (pS (sH cQ) a0)),(1,.vc (pS cQ a1)),(5,.vc (pI .i64 (a1.length:Int))),(6,.vc (pP (some b20) 0)),(7,.vc (pI .i64 x58)),(8,.vc (pO b86 x84.length x84.length)),(15,.vc (pI .i64 (a1.length:Int))),(16,.vc (pI .i64 x58))]) ?_ (fun Jj117=>?_))))
  ·rintro _ _ ⟨x110,hF,q114,rfl,rfl⟩
   unfold l0 at hF
   refine aA (aD (aE (aF ?_)))
   refine aF ?_
   obtain⟨v118,h119,hF⟩:=aO hF
   refine aB (lL rfl h119) ⟨bC _ _,rfl,trivial⟩ ?_
   obtain⟨v120,h121,hF⟩:=aO hF
   refine aB (aG rfl (t7 h121) rfl) ⟨bC _ _,bC _ _,trivial⟩ ?_
   obtain⟨v122,h123,hF⟩:=aO hF
   refine aB (cE (C:=cQ) 0 rfl tyS24 rfl q114 (aN h123).1 (aN h123).2.1) ⟨rfl,rfl,trivial⟩ ?_
   obtain⟨x124,h125,hF⟩:=aO hF
   refine aY (fL 0 rfl rfl h123 h125 tyA44.s) ⟨rfl,rfl,trivial⟩ ?_
   refine aC (aA (aD (aE (aF ?_))))
   refine aF ?_
   obtain⟨v127,h128,hF⟩:=aO hF
   refine aB (lL rfl h128) ⟨bC _ _,rfl,trivial⟩ ?_
   obtain⟨v129,h130,hF⟩:=aO hF
   refine aB (bI rfl h130) ⟨rfl,bC _ _,trivial⟩ ?_
   refine aF ?_
   refine aF ?_
   obtain⟨v131,h132,hF⟩:=aO hF
   refine aB (dX rfl tyS24 h132) ⟨rfl,rfl,trivial⟩ ?_
   refine aB (dM 4 rfl rfl (.agg tyA44)) ⟨rfl,trivial⟩ ?_
   obtain⟨v133,h134,hF⟩:=aO hF
   refine aB (cE (C:=cQ) 0 rfl tyS24 rfl (b0 h125 q114) (aN h134).1 (aN h134).2.1) ⟨rfl,rfl,trivial⟩ ?_
   obtain⟨x135,h136,hF⟩:=aO hF
   refine aY (fL 0 rfl rfl h134 h136 tyA44.s) ⟨rfl,rfl,trivial⟩ ?_
   refine aC (aA (aD (aE (aF ?_))))
   refine aF ?_
   refine aB (lW rfl) ⟨rfl,trivial⟩ ?_
   refine aB (a8 (off:=0) (k:=1) rfl tyF151_1) ⟨rfl,trivial⟩ ?_
   refine aB (bD 1 1 rfl rfl rfl rfl (.one tyO62)) ⟨rfl,trivial⟩ ?_
   refine aF ?_
   refine aB (aGH (rs:=x52) rfl tyS62 q56.1 (show([hO cQ b86 x84.length 44 x84.length x135,⟨some b20,1,151,3,1,([pI .i64 (a1.length:Int)]++[pO b47 n49 c48]++[pO b41 n43 c42])⟩,hO cI b41 c42 3 n43 x40,hO (cH (g53++[(b86,x84.length,x84.length)])) b47 c48 24 n49 x46]++gO cQ 44 g53 x52)=([hO cQ b86 x84.length 44 x84.length x135,⟨some b20,1,151,3,1,([pI .i64 (a1.length:Int)]++[pO b47 n49 c48]++[pO b41 n43 c42])⟩,hO cI b41 c42 3 n43 x40,hO (cH g53) b47 c48 24 n49 x46]++gO cQ 44 g53 x52) from by rw [aCE (N:=x52.length) (b86,x84.length,x84.length) q56.1 (aBx q55 q57)])) ⟨rfl,trivial⟩ ?_
   refine z9 (g:=(b86,x84.length,x84.length)) 0 4 rfl rfl rfl q56 ?_
   refine aFR 8 rfl (aEQ (N:=x52.length) (b86,x84.length,x84.length) q56.1) ?_
   obtain⟨x139,h140,hF⟩:=aO hF
   refine nY 2 rfl tyS62 rfl rfl q50 rfl rfl h140 (fun b141 c142 H143 e144=>?_)
   cases e144
   refine aB (lW rfl) ⟨rfl,trivial⟩ ?_
   refine aB (a8 (off:=0) (k:=1) rfl tyF151_1) ⟨rfl,trivial⟩ ?_
   refine aY (dA 0 rfl rfl rfl tyO62.s) ⟨rfl,rfl,trivial⟩ ?_
   refine aC (aA (aE (aF ?_)))
   refine aF ?_
   refine aB (lW rfl) ⟨rfl,trivial⟩ ?_
   refine aB (a8 (off:=0) (k:=2) rfl tyF151_2) ⟨rfl,trivial⟩ ?_
   refine aB (bD 0 1 rfl rfl rfl rfl (.one tyO22)) ⟨rfl,trivial⟩ ?_
   refine aF ?_
   refine aB (pX (C:=cI) (xs:=[.tmp 74]) (ps:=[.vc (pI .i64 x58)]) (zs:=[x58]) rfl tyS22 rfl ⟨⟨trivial,rfl⟩,trivial⟩ rfl) ⟨rfl,trivial⟩ ?_
   obtain⟨x146,h147,hF⟩:=aO hF
   refine nY 1 rfl tyS22 rfl rfl q44 rfl rfl h147 (fun b148 c149 H150 e151=>?_)
   cases e151
   refine aB (lW rfl) ⟨rfl,trivial⟩ ?_
   refine aB (a8 (off:=0) (k:=2) rfl tyF151_2) ⟨rfl,trivial⟩ ?_
   refine aY (dA 0 rfl rfl rfl tyO22.s) ⟨rfl,rfl,trivial⟩ ?_
   refine aC (bF (aA (aE ?_)))
   obtain⟨v153,h154,hF⟩:=aO hF
   refine aB (bI rfl h154) ⟨rfl,bC _ _,trivial⟩ ?_
   refine aF ?_
   refine aC ?_
   exact bG (fun a w hh=>⟨x146,x139,(x52++[x135]),v153,b148,c149,(n43+[x58].length),b141,c142,(n49+[x52.length].length),(g53++[(b86,x84.length,x84.length)]),(N54+1),hF,(gB h147 q44),(gB h140 q50),(zP q55),(uF q56 (b0 h136 (b0 h125 q114))),(aGB q57 q55 h140),cO 3 [0,1,2] rfl rfl (by decide) (by exact⟨rfl,rfl,rfl,rfl,rfl,rfl,trivial⟩) hh⟩)
  obtain⟨x110',hL,hRl116⟩:=aO hF
  refine gY (fun k a w=>∃(x103:List Rat),∃(x109:Int),jO K a0 a1 x58 k x103 x109=some x110'∧x103.length=x84.length∧hs _ ([hO cQ b86 x84.length 44 x84.length x103,⟨some b20,1,151,3,1,([pI .i64 (a1.length:Int)]++[pO b47 n49 c48]++[pO b41 n43 c42])⟩,hO cI b41 c42 3 n43 x40,hO (cH g53) b47 c48 24 n49 x46]++gO cQ 44 g53 x52) [(0,.vc (pS (sH cQ) a0)),(1,.vc (pS cQ a1)),(5,.vc (pI .i64 (a1.length:Int))),(6,.vc (pP (some b20) 0)),(7,.vc (pI .i64 x58)),(8,.vc (pO b86 x84.length x84.length)),(15,.vc (pI .i64 (a1.length:Int))),(16,.vc (pI .i64 x58)),(27,.vc (pI .i64 (a1.length:Int))),(28,.vc (pI .i64 x109))] a w) K (fun a w ⟨_,_,hF,_,_⟩=>by cases hF) (fun k a w ⟨x103,x109,hF,q107,hh⟩=>gX ?_ hh) (fun a w hh=>⟨x93,0,hL,(b0 h94 rfl),cO 4 [0,1,2,3] rfl rfl (by decide) (by exact⟨rfl,rfl,rfl,rfl,rfl,rfl,rfl,rfl,rfl,rfl,trivial⟩) hh⟩)
  rw [jO.eq_2] at hF
  refine aD (aE (aB (dQ rfl) ⟨rfl,rfl,trivial⟩ ?_))
  refine aC (aA (aD (bO rfl (fun h155=>?_) (fun h155=>?_))))
  ·have hF:=aT h155 hF
   refine aV (aA (aD (bN (aD (aE (aF ?_))))))
   refine bB ?_
   refine aC (aA (aE (aF ?_)))
   refine aF ?_
   refine aF ?_
   obtain⟨v156,h157,hF⟩:=aO hF
   refine aB (bI rfl h157) ⟨rfl,rfl,trivial⟩ ?_
   refine aF ?_
   refine aF ?_
   obtain⟨v158,h159,hF⟩:=aO hF
   refine aB (dX rfl tyS62 h159) ⟨rfl,rfl,trivial⟩ ?_
   refine aB (dM 1 rfl rfl (.one tyO24)) ⟨rfl,trivial⟩ ?_
   refine aF ?_
   obtain⟨v160,h161,hF⟩:=aO hF
   refine aB (dX rfl tyS24 h161) ⟨rfl,rfl,trivial⟩ ?_
   refine aB (dM 4 rfl rfl (.agg tyA44)) ⟨rfl,trivial⟩ ?_
   obtain⟨v162,h163,hF⟩:=aO hF
   refine aB (aG rfl (nK h163) rfl) ⟨rfl,trivial⟩ ?_
   obtain⟨v164,h165,hF⟩:=aO hF
   refine aB (cE (C:=cQ) 0 rfl tyS24 rfl q107 (aN h165).1 (aN h165).2.1) ⟨rfl,rfl,trivial⟩ ?_
   obtain⟨x166,h167,hF⟩:=aO hF
   refine aY (fL 0 rfl rfl h165 h167 tyA44.s) ⟨rfl,rfl,trivial⟩ ?_
   refine aC (bF (aA (aE ?_)))
   obtain⟨v169,h170,hF⟩:=aO hF
   refine aB (bI rfl h170) ⟨rfl,bC _ _,trivial⟩ ?_
   refine aF ?_
   refine aC ?_
   exact bG (fun a w hh=>⟨x166,v169,hF,(b0 h167 q107),cO 4 [0,1,2,3] rfl rfl (by decide) (by exact⟨rfl,rfl,rfl,rfl,rfl,rfl,rfl,rfl,rfl,rfl,trivial⟩) hh⟩)
  have hF:=aU h155 hF
  refine dE ?_
  obtain rfl:=bX hF
  exact mJ Jj117 ⟨x103,hRl116,q107,rfl,rfl⟩ 4 [0,1,2,3] rfl rfl ⟨rfl,rfl,rfl,rfl,rfl,rfl,rfl,rfl,trivial⟩
 have hF:=aU h79 hF
 refine dE ?_
 obtain⟨rfl,rfl,rfl⟩:=sm3 hF
 exact mJ Jj78 ⟨x40,x46,x52,b41,c42,n43,b47,c48,n49,g53,N54,hRl77,q44,q50,q55,q56,q57,rfl,rfl⟩ 3 [0,1,2] rfl rfl ⟨rfl,trivial⟩
def iS (K:Nat) (x69:List Rat) (x75:List Rat):Option cC:=
 some (⟨x75,x69,0⟩:cC)
def dI (K:Nat) (a0:Int) (a1:List Nat) (a2:List Int) (a3:List (List Rat)):Nat→(List Rat)→(List Rat)→Int→Option ((List Rat)×(List Rat))
 |0,_,_,_=>none
 |k+1,x56,x62,x68=>bif(decide (x68<(a2.length:Int))) then((dO a2 x68).bind fun v84=>(dO a1 x68).bind fun v88=>(bQ (2*a0)).bind fun v90=>(bQ (v90+1)).bind fun v92=>(dO (a3.getD v88 []) v92).bind fun v94=>bif(decide (v84<a0)) then((dO x56 v84).bind fun v97=>(n8 x56 v84 v94).bind fun x99=>(bQ (x68+1)).bind fun v102=>dI K a0 a1 a2 a3 k x99 x62 v102) else((bQ (2*a0)).bind fun v104=>bif(decide (v84<v104)) then((bQ (v84-a0)).bind fun v109=>(dO x62 v109).bind fun v111=>(n8 x62 v109 v94).bind fun x113=>(bQ (x68+1)).bind fun v116=>dI K a0 a1 a2 a3 k x56 x113 v116) else((bQ (x68+1)).bind fun v118=>dI K a0 a1 a2 a3 k x56 x62 v118))) else(some (x56,x62))
def hG (K:Nat) (a0:Int) (a1:List Nat) (a2:List Int) (a3:List (List Rat)):Option cC:=
 (s6 a0 0).bind fun x23=>(s6 a0 0).bind fun x27=>(dI K a0 a1 a2 a3 K x27 x23 0).bind fun(x69,x75)=>iS K x69 x75
theorem m9 {K:Nat} {a0:Int} {a1:List Nat} {a2:List Int} {a3:List (List Rat)} {r:cC} (hF:hG K a0 a1 a2 a3=some r) {p0:Nat} {b4:Option Nat} {c5 n6:Nat} {b9:Option Nat} {c10 n11:Nat} {g14:List rY} {N15:Nat} (q7:a1.length=n6) (q12:a2.length=n11) (q16:a3.length=N15) (q17:jW g14 a3) (q18:∀k∈a1,k<N15):CtO Tryz.prog 111 ([⟨some p0,1,151,3,1,([pI .i64 a0]++[pO b4 n6 c5]++[pO b9 n11 c10])⟩,hO (cH g14) b4 c5 24 n6 a1,hO cI b9 c10 3 n11 a2]++gO cQ 44 g14 a3) [.vc (pP (some p0) 0)] (fun Ho q=>Ho=([⟨some p0,1,151,3,1,([pI .i64 a0]++[pO b4 n6 c5]++[pO b9 n11 c10])⟩,hO (cH g14) b4 c5 24 n6 a1,hO cI b9 c10 3 n11 a2]++gO cQ 44 g14 a3)∧q=.va (cC.enc r)):=by
 unfold hG at hF
 refine a9 Tryz.func111 rfl (by kernel_rfl) Tryz.ntmps111 rfl (fun w0 M0=>?_)
 refine aD (aE (bJ rfl tyZ68q (fun b20=>?_)))
 refine aC (aA (aD ?_))
 obtain⟨x23,h24,hF⟩:=aO hF
 obtain⟨x27,h28,hF⟩:=aO hF
 refine pG (HsM [(0,fun G21=>([⟨some b20,1,68,3,1,([pS cQ ([]:List Rat)]++[pS cQ ([]:List Rat)]++[pI .i64 0])⟩,⟨some p0,1,151,3,1,([pI .i64 a0]++[pO b4 n6 c5]++[pO b9 n11 c10])⟩,hO (cH g14) b4 c5 24 n6 a1,hO cI b9 c10 3 n11 a2]++gO cQ 44 g14 a3)),(1,fun G21=>([hO cQ ((G21 4).1) x23.length 44 x23.length x23,⟨some b20,1,68,3,1,([pS cQ ([]:List Rat)]++[pS cQ ([]:List Rat)]++[pI .i64 0])⟩,⟨some p0,1,151,3,1,([pI .i64 a0]++[pO b4 n6 c5]++[pO b9 n11 c10])⟩,hO (cH g14) b4 c5 24 n6 a1,hO cI b9 c10 3 n11 a2]++gO cQ 44 g14 a3)),(2,fun G21=>([hO cQ ((G21 9).1) x27.length 44 x27.length x27,⟨some b20,1,68,3,1,([pS cQ ([]:List Rat)]++[pS cQ ([]:List Rat)]++[pI .i64 0])⟩,⟨some p0,1,151,3,1,([pI .i64 a0]++[pO b4 n6 c5]++[pO b9 n11 c10])⟩,hO (cH g14) b4 c5 24 n6 a1,hO cI b9 c10 3 n11 a2]++gO cQ 44 g14 a3)),(3,fun G21=>([hO cQ ((G21 9).1) x27.length 44 x27.length x27,hO cQ ((G21 4).1) x23.length 44 x23.length x23,⟨some b20,1,68,3,1,([pS cQ ([]:List Rat)]++[pS cQ ([]:List Rat)]++[pI .i64 0])⟩,⟨some p0,1,151,3,1,([pI .i64 a0]++[pO b4 n6 c5]++[pO b9 n11 c10])⟩,hO (cH g14) b4 c5 24 n6 a1,hO cI b9 c10 3 n11 a2]++gO cQ 44 g14 a3)),(7,fun G21=>([hO cQ (dB (G21 10).2) x27.length 44 x27.length x27,hO cQ ((G21 10).1) x23.length 44 x23.length x23,⟨some b20,1,68,3,1,([pS cQ ([]:List Rat)]++[pS cQ ([]:List Rat)]++[pI .i64 0])⟩,⟨some p0,1,151,3,1,([pI .i64 a0]++[pO b4 n6 c5]++[pO b9 n11 c10])⟩,hO (cH g14) b4 c5 24 n6 a1,hO cI b9 c10 3 n11 a2]++gO cQ 44 g14 a3))]) [4,9,10] [0,1,3,7,15,0,32,96,224,480,1023,0,4095] 12 1 [.v (.vc (pP (some p0) 0)),.v (.vc (pP (some p0) 0)),.v (.vc (pP (some p0) 0)),.v (.vc (pI .i64 a0)),.g (fun b _=>.vc (pO b x23.length x23.length)),.v (.vc (pP (some p0) 0)),.v (.vc (pP (some p0) 0)),.v (.vc (pP (some p0) 0)),.v (.vc (pI .i64 a0)),.g (fun b _=>.vc (pO b x27.length x27.length)),.g (fun b c=>.va ([pO b x23.length x23.length]++[pO (dB c) x27.length x27.length]++[pI .i64 0])),.a 68 ([pS cQ ([]:List Rat)]++[pS cQ ([]:List Rat)]++[pI .i64 0])] aR ⟨⟨rfl,.run (L:=[0,2]) ⟨fun G21 A=>aL (.inl rfl),fun G21 A=>aL (.inl rfl),trivial⟩ (fun G21=>⟨rfl,trivial⟩)⟩,⟨rfl,.run (L:=[0,2]) ⟨fun G21 A=>lW rfl,fun G21 A=>lW rfl,trivial⟩ (fun G21=>⟨rfl,trivial⟩)⟩,⟨rfl,.run (L:=[0,2]) ⟨fun G21 A=>a8 (off:=0) (k:=0) rfl tyF151_0,fun G21 A=>a8 (off:=0) (k:=0) rfl tyF151_0,trivial⟩ (fun G21=>⟨rfl,trivial⟩)⟩,⟨rfl,.run (L:=[0,2]) ⟨fun G21 A=>bD 1 1 rfl rfl rfl rfl (.one tyO3),fun G21 A=>bD 2 1 rfl rfl rfl rfl (.one tyO3),trivial⟩ (fun G21=>⟨rfl,trivial⟩)⟩,⟨rfl,.hvy [0,2] ⟨fun G21 A=>gN (C:=cQ) rfl tyS24 rfl tyZ44q h24,fun G21 A=>oL (R:=gO cQ 44 g14 a3) [1,0,2,3,4,5] (gN (C:=cQ) rfl tyS24 rfl tyZ44q h24) (fun b_ c_=>⟨[hO cQ (b_) x23.length 44 x23.length x23,hO cQ ((G21 9).1) x27.length 44 x27.length x27,⟨some b20,1,68,3,1,([pS cQ ([]:List Rat)]++[pS cQ ([]:List Rat)]++[pI .i64 0])⟩,⟨some p0,1,151,3,1,([pI .i64 a0]++[pO b4 n6 c5]++[pO b9 n11 c10])⟩,hO (cH g14) b4 c5 24 n6 a1,hO cI b9 c10 3 n11 a2],_,rfl,rfl,rfl⟩),trivial⟩ (fun G21=>⟨rfl,trivial⟩)⟩,⟨rfl,.run (L:=[0,1]) ⟨fun G21 A=>aL (.inl rfl),fun G21 A=>aL (.inl rfl),trivial⟩ (fun G21=>⟨rfl,trivial⟩)⟩,⟨rfl,.run (L:=[0,1]) ⟨fun G21 A=>lW rfl,fun G21 A=>lW rfl,trivial⟩ (fun G21=>⟨rfl,trivial⟩)⟩,⟨rfl,.run (L:=[0,1]) ⟨fun G21 A=>a8 (off:=0) (k:=0) rfl tyF151_0,fun G21 A=>a8 (off:=0) (k:=0) rfl tyF151_0,trivial⟩ (fun G21=>⟨rfl,trivial⟩)⟩,⟨rfl,.run (L:=[0,1]) ⟨fun G21 A=>bD 1 1 rfl rfl rfl rfl (.one tyO3),fun G21 A=>bD 2 1 rfl rfl rfl rfl (.one tyO3),trivial⟩ (fun G21=>⟨rfl,trivial⟩)⟩,⟨rfl,.hvy [0,1] ⟨fun G21 A=>gN (C:=cQ) rfl tyS24 rfl tyZ44q h28,fun G21 A=>gN (C:=cQ) rfl tyS24 rfl tyZ44q h28,trivial⟩ (fun G21=>⟨rfl,trivial⟩)⟩,⟨rfl,.hvy [3] ⟨fun G21 A=>aGd (Post:=fun b_ x_=>([hO cQ x_ x27.length 44 x27.length x27,hO cQ b_ x23.length 44 x23.length x23,⟨some b20,1,68,3,1,([pS cQ ([]:List Rat)]++[pS cQ ([]:List Rat)]++[pI .i64 0])⟩,⟨some p0,1,151,3,1,([pI .i64 a0]++[pO b4 n6 c5]++[pO b9 n11 c10])⟩,hO (cH g14) b4 c5 24 n6 a1,hO cI b9 c10 3 n11 a2]++gO cQ 44 g14 a3)++A) (out:=fun b_ x_=>.va ([pO b_ x23.length x23.length]++[pO x_ x27.length x27.length]++[pI .i64 0])) ((G21 4).1) ((G21 9).1) (fA (is:=[0,1]) (xs:=[.tmp 11,.tmp 16]) (ps:=[.vc (pO ((G21 4).1) x23.length x23.length),.vc (pO ((G21 9).1) x27.length x27.length)]) rfl tyB68q rfl rfl ⟨trivial,trivial,trivial⟩ rfl),trivial⟩ (fun G21=>⟨rfl,rfl,trivial⟩)⟩,⟨rfl,.alc tyZ68q⟩,trivial⟩ (fun bs22 G21=>?_)
 refine aY (dA 0 rfl rfl rfl tyA68.s) ⟨rfl,rfl,trivial⟩ ?_
 refine aC (aA (aD (aD (aE (aF ?_)))))
 refine aB (lW rfl) ⟨rfl,trivial⟩ ?_
 refine aB (a8 (off:=0) (k:=2) rfl tyF151_2) ⟨rfl,trivial⟩ ?_
 refine aB (bD 4 1 rfl rfl rfl rfl (.one tyO22)) ⟨rfl,trivial⟩ ?_
 refine aB (y0 (C:=cI) (xs:=a2) (T:=3) rfl tyS22 q12) ⟨rfl,trivial⟩ ?_
 refine aB (aL (.inl rfl)) ⟨bC _ _,trivial⟩ ?_
 refine aC (aA (bN (cL (fun H E=>∃(x69:List Rat),∃(x75:List Rat),iS K x69 x75=some r∧x69.length=x27.length∧x75.length=x23.length∧H=([⟨some (bs22 11),1,68,3,1,([pO ((G21 10).1) x23.length x23.length]++[pO (dB (G21 10).2) x27.length x27.length]++[pI .i64 0])⟩,hO cQ (dB (G21 10).2) x27.length 44 x27.length x69,hO cQ ((G21 10).1) x23.length 44 x23.length x75,⟨some b20,1,68,3,1,([pS cQ ([]:List Rat)]++[pS cQ ([]:List Rat)]++[pI .i64 0])⟩,⟨some p0,1,151,3,1,([pI .i64 a0]++[pO b4 n6 c5]++[pO b9 n11 c10])⟩,hO (cH g14) b4 c5 24 n6 a1,hO cI b9 c10 3 n11 a2]++gO cQ 44 g14 a3)∧E=[(2,.vc (pP (some b20) 0)),(3,.vc (pP (some (bs22 11)) 0))]) ?_ (fun Jj82=>?_))))
 ·rintro _ _ ⟨x69,x75,hF,q73,q79,rfl,rfl⟩
  unfold iS at hF
  refine aA (aD (aE (wQ 2 0 0 rfl q79 rfl rfl rfl rfl rfl ?_)))
  refine wQ 1 0 1 rfl q73 rfl rfl rfl rfl rfl ?_
  refine aB (bD 0 3 rfl rfl rfl rfl (.agg tyA68)) ⟨rfl,trivial⟩ ?_
  refine aY (dA 1 rfl rfl rfl tyA68.s) ⟨rfl,rfl,trivial⟩ ?_
  refine aC (aA (aX (aW ?_)))
  obtain rfl:=bX hF
  exact uW (.inl rfl) Tryz.results111 (bM 1 3 rfl rfl rfl rfl (.agg tyA68) .nil) rfl 5 [2,3,4] rfl rfl (by decide) ⟨rfl,rfl⟩
 obtain⟨⟨x69',x75'⟩,hL,hRl81⟩:=aO hF
 refine gY (fun k a w=>∃(x56:List Rat),∃(x62:List Rat),∃(x68:Int),dI K a0 a1 a2 a3 k x56 x62 x68=some (x69',x75')∧x56.length=x27.length∧x62.length=x23.length∧hs _ ([⟨some (bs22 11),1,68,3,1,([pO ((G21 10).1) x23.length x23.length]++[pO (dB (G21 10).2) x27.length x27.length]++[pI .i64 0])⟩,hO cQ (dB (G21 10).2) x27.length 44 x27.length x56,hO cQ ((G21 10).1) x23.length 44 x23.length x62,⟨some b20,1,68,3,1,([pS cQ ([]:List Rat)]++[pS cQ ([]:List Rat)]++[pI .i64 0])⟩,⟨some p0,1,151,3,1,([pI .i64 a0]++[pO b4 n6 c5]++[pO b9 n11 c10])⟩,hO (cH g14) b4 c5 24 n6 a1,hO cI b9 c10 3 n11 a2]++gO cQ 44 g14 a3) [(0,.vc (pP (some p0) 0)),(2,.vc (pP (some b20) 0)),(3,.vc (pP (some (bs22 11)) 0)),(21,.vc (pO b9 n11 c10)),(22,.vc (pI .i64 (a2.length:Int))),(23,.vc (pI .i64 x68))] a w) K (fun a w ⟨_,_,_,hF,_,_,_⟩=>by cases hF) (fun k a w ⟨x56,x62,x68,hF,q60,q66,hh⟩=>gX ?_ hh) (fun a w hh=>⟨x27,x23,0,hL,rfl,rfl,cO 7 [0,1,2,3,4,5,6] rfl rfl (by decide) (by exact⟨rfl,rfl,rfl,rfl,rfl,rfl,trivial⟩) hh⟩)
 rw [dI.eq_2] at hF
 refine aD (aE (aB (dQ rfl) ⟨rfl,rfl,trivial⟩ ?_))
 refine aC (aA (aD (bO rfl (fun h83=>?_) (fun h83=>?_))))
 ·have hF:=aT h83 hF
  refine aV (aA (aD (bN (aD (aE (aF ?_))))))
  obtain⟨v84,h85,hF⟩:=aO hF
  refine aB (cE (C:=cI) 6 rfl tyS22 rfl q12 (aN h85).1 (aN h85).2.1) ⟨rfl,rfl,trivial⟩ ?_
  refine aB (gA (k:=1) 6 rfl rfl h85 rfl (.one tyO3) rfl) ⟨rfl,trivial⟩ ?_
  refine bB ?_
  refine bB ?_
  refine aC (aA (aD ?_))
  obtain⟨v88,h89,hF⟩:=aO hF
  obtain⟨v90,h91,hF⟩:=aO hF
  obtain⟨v92,h93,hF⟩:=aO hF
  obtain⟨v94,h95,hF⟩:=aO hF
  refine bP [0,1,3,7,0,31,63,0,128,384,896,1920,3968,8191,16383,0,65535] 16 1 [.v (.vc (pP (some p0) 0)),.v (.vc (pP (some p0) 0)),.v (.vc (pP (some p0) 1)),.v (.vc (pO b4 n6 c5)),.v (.vc (pI .i64 x68)),.v (.vc (pE b4 x68 (cH g14).n 0)),.v (.vc (pO (iC g14 v88).1 (iC g14 v88).2.1 (iC g14 v88).2.2)),.v (.vc (pP (some p0) 0)),.v (.vc (pP (some p0) 0)),.v (.vc (pP (some p0) 0)),.v (.vc (pI .i64 a0)),.v (.vc (pI .i64 v90)),.v (.vc (pI .i64 v92)),.v (.vc (pE (iC g14 v88).1 v92 cQ.n 0)),.v (.va (eQ v94)),.a 44 (eQ 0)] aR ⟨d0 (aL (.inl rfl)) ⟨rfl,trivial⟩,d0 (lW rfl) ⟨rfl,trivial⟩,d0 (a8 (off:=0) (k:=1) rfl tyF151_1) ⟨rfl,trivial⟩,d0 (bD 4 1 rfl rfl rfl rfl (.one tyO62)) ⟨rfl,trivial⟩,d0 (aL (.inl rfl)) ⟨rfl,trivial⟩,d0 (cE (C:=(cH g14)) 5 rfl tyS62 rfl q7 (aN h89).1 (aN h89).2.1) ⟨rfl,rfl,trivial⟩,d0 (gA (C:=(cH g14)) (k:=1) 5 rfl rfl h89 rfl (.one tyO24) rfl) ⟨rfl,trivial⟩,d0 (aL (.inl rfl)) ⟨rfl,trivial⟩,d0 (lW rfl) ⟨rfl,trivial⟩,d0 (a8 (off:=0) (k:=0) rfl tyF151_0) ⟨rfl,trivial⟩,d0 (bD 4 1 rfl rfl rfl rfl (.one tyO3)) ⟨rfl,trivial⟩,d0 (lL rfl h91) ⟨bC _ _,rfl,trivial⟩,d0 (bI rfl h93) ⟨rfl,bC _ _,trivial⟩,d0 (cE (7+v88) rfl tyS24 (iY 7 rfl q17 q16 (q18 _ (bW h89))) (kD q17 q16 (q18 _ (bW h89))) (aN h95).1 (aN h95).2.1) ⟨rfl,rfl,trivial⟩,d0 (gA (k:=4) (7+v88) rfl (iY 7 rfl q17 q16 (q18 _ (bW h89))) h95 rfl (.agg tyA44) rfl) ⟨rfl,trivial⟩,⟨rfl,.alc tyZ44q⟩,trivial⟩ (fun bs87 G86=>?_)
  refine aY (dA 0 rfl rfl rfl tyA44.s) ⟨rfl,rfl,trivial⟩ ?_
  refine aC (aA (bN (aD (aE (aF ?_)))))
  refine aF ?_
  refine aB (lW rfl) ⟨rfl,trivial⟩ ?_
  refine aB (a8 (off:=0) (k:=0) rfl tyF151_0) ⟨rfl,trivial⟩ ?_
  refine aB (bD 5 1 rfl rfl rfl rfl (.one tyO3)) ⟨rfl,trivial⟩ ?_
  refine aB (dQ rfl) ⟨rfl,rfl,trivial⟩ ?_
  refine bB ?_
  refine aC (aA (bO rfl (fun h96=>?_) (fun h96=>?_)))
  ·have hF:=aT h96 hF
   refine aE (aB (a8 (off:=0) (k:=1) rfl tyF68_1) ⟨rfl,trivial⟩ ?_)
   refine aB (bD 1 1 rfl rfl rfl rfl (.one tyO24)) ⟨rfl,trivial⟩ ?_
   refine aF ?_
   refine aB (bD 0 4 rfl rfl rfl rfl (.agg tyA44)) ⟨rfl,trivial⟩ ?_
   obtain⟨v97,h98,hF⟩:=aO hF
   refine aB (cE (C:=cQ) 2 rfl tyS24 rfl q60 (aN h98).1 (aN h98).2.1) ⟨rfl,rfl,trivial⟩ ?_
   obtain⟨x99,h100,hF⟩:=aO hF
   refine aY (fL 2 rfl rfl h98 h100 tyA44.s) ⟨rfl,rfl,trivial⟩ ?_
   refine aC (bF (bF (aA (aE ?_))))
   obtain⟨v102,h103,hF⟩:=aO hF
   refine aB (bI rfl h103) ⟨rfl,bC _ _,trivial⟩ ?_
   refine aF ?_
   refine aC ?_
   exact bG (fun a w hh=>⟨x99,x62,v102,hF,(b0 h100 q60),q66,cO 8 [1,2,3,4,5,6,7] rfl rfl (by decide) (by exact⟨rfl,rfl,rfl,rfl,rfl,rfl,trivial⟩) hh⟩)
  have hF:=aU h96 hF
  refine aD (aE (aF ?_))
  refine aF ?_
  refine aB (lW rfl) ⟨rfl,trivial⟩ ?_
  refine aB (a8 (off:=0) (k:=0) rfl tyF151_0) ⟨rfl,trivial⟩ ?_
  refine aB (bD 5 1 rfl rfl rfl rfl (.one tyO3)) ⟨rfl,trivial⟩ ?_
  obtain⟨v104,h105,hF⟩:=aO hF
  refine aB (lL rfl h105) ⟨bC _ _,rfl,trivial⟩ ?_
  refine aB (dQ rfl) ⟨rfl,rfl,trivial⟩ ?_
  refine bB ?_
  refine aC (aA (bO rfl (fun h106=>?_) (fun h106=>?_)))
  ·have hF:=aT h106 hF
   obtain⟨v109,h110,hF⟩:=aO hF
   obtain⟨v111,h112,hF⟩:=aO hF
   refine bP [0,1,0,0,8,24,56,124,0,511,1023] 10 1 [.v (.vc (pP (some (bs22 11)) 0)),.v (.vc (pO ((G21 10).1) x23.length x23.length)),.v (.vc (pI .i64 v84)),.v (.vc (pP (some p0) 0)),.v (.vc (pP (some p0) 0)),.v (.vc (pP (some p0) 0)),.v (.vc (pI .i64 a0)),.v (.vc (pI .i64 v109)),.v (.va (eQ v94)),.v (.vc (pE ((G21 10).1) v109 cQ.n 0))] aR ⟨d0 (a8 (off:=0) (k:=0) rfl tyF68_0) ⟨rfl,trivial⟩,d0 (bD 1 1 rfl rfl rfl rfl (.one tyO24)) ⟨rfl,trivial⟩,d0 (aL (.inl rfl)) ⟨rfl,trivial⟩,d0 (aL (.inl rfl)) ⟨rfl,trivial⟩,d0 (lW rfl) ⟨rfl,trivial⟩,d0 (a8 (off:=0) (k:=0) rfl tyF151_0) ⟨rfl,trivial⟩,d0 (bD 5 1 rfl rfl rfl rfl (.one tyO3)) ⟨rfl,trivial⟩,d0 (fH rfl h110) ⟨rfl,rfl,trivial⟩,d0 (bD 0 4 rfl rfl rfl rfl (.agg tyA44)) ⟨rfl,trivial⟩,d0 (cE (C:=cQ) 3 rfl tyS24 rfl q66 (aN h112).1 (aN h112).2.1) ⟨rfl,rfl,trivial⟩,trivial⟩ (fun bs108 G107=>?_)
   obtain⟨x113,h114,hF⟩:=aO hF
   refine aY (fL 3 rfl rfl h112 h114 tyA44.s) ⟨rfl,rfl,trivial⟩ ?_
   refine aC (bF (bF (aA (aE ?_))))
   obtain⟨v116,h117,hF⟩:=aO hF
   refine aB (bI rfl h117) ⟨rfl,bC _ _,trivial⟩ ?_
   refine aF ?_
   refine aC ?_
   exact bG (fun a w hh=>⟨x56,x113,v116,hF,q60,(b0 h114 q66),cO 8 [1,2,3,4,5,6,7] rfl rfl (by decide) (by exact⟨rfl,rfl,rfl,rfl,rfl,rfl,trivial⟩) hh⟩)
  have hF:=aU h106 hF
  refine aV (bF (bF (aA (aE ?_))))
  obtain⟨v118,h119,hF⟩:=aO hF
  refine aB (bI rfl h119) ⟨rfl,bC _ _,trivial⟩ ?_
  refine aF ?_
  refine aC ?_
  exact bG (fun a w hh=>⟨x56,x62,v118,hF,q60,q66,cO 8 [1,2,3,4,5,6,7] rfl rfl (by decide) (by exact⟨rfl,rfl,rfl,rfl,rfl,rfl,trivial⟩) hh⟩)
 have hF:=aU h83 hF
 refine dE ?_
 obtain⟨rfl,rfl⟩:=sm2 hF
 exact mJ Jj82 ⟨x56,x62,hRl81,q60,q66,rfl,rfl⟩ 7 [0,1,2,3,4,5,6] rfl rfl ⟨rfl,rfl,trivial⟩
def jN (K:Nat):Option Bool:=
 some false
def gJ (K:Nat) (a0:Int) (a1:Rat) (a2:Int) (a3:Rat) (a5:List Nat) (a7:List (List Rat)) (x23:Int) (recl24:Int→Option (LR Bool Unit)) (x28:Int):Option (LR Bool Unit):=
 (dO a5 a0).bind fun v32=>(dO (a7.getD v32 []) x28).bind fun v34=>(aFE v34 a1).bind fun v36=>(dO a5 a2).bind fun v38=>(dO (a7.getD v38 []) x28).bind fun v40=>(aFE v40 a3).bind fun v42=>(aDW v36 v42).bind fun v44=>bif(v44 != 0) then(some (.ret (decide (v44<0)))) else((bQ (x23+1)).bind fun v47=>recl24 v47)
def dU (K:Nat) (a0:Int) (a1:Rat) (a2:Int) (a3:Rat) (a4:Int) (a5:List Nat) (a7:List (List Rat)):Nat→Int→Option (LR Bool Unit)
 |0,_=>none
 |k+1,x23=>bif(decide (x23<a4)) then(bif(decide (x23<0)) then((bQ (2*a4)).bind fun v50=>(bQ (v50+1)).bind fun v52=>gJ K a0 a1 a2 a3 a5 a7 x23 (dU K a0 a1 a2 a3 a4 a5 a7 k) v52) else(gJ K a0 a1 a2 a3 a5 a7 x23 (dU K a0 a1 a2 a3 a4 a5 a7 k) x23)) else(some (.go ()))
def iN (K:Nat) (a0:Int) (a1:Rat) (a2:Int) (a3:Rat) (a4:Int) (a5:List Nat) (a6:List Int) (a7:List (List Rat)):Option Bool:=
 (dU K a0 a1 a2 a3 a4 a5 a7 K (-1)).bind fun o=>match o with| .ret r=>some r| .go _=>jN K
theorem nW {K:Nat} {a0:Int} {a1:Rat} {a2:Int} {a3:Rat} {a4:Int} {a5:List Nat} {a6:List Int} {a7:List (List Rat)} {r:Bool} (hF:iN K a0 a1 a2 a3 a4 a5 a6 a7=some r) {p0:Nat} {b4:Option Nat} {c5 n6:Nat} {b9:Option Nat} {c10 n11:Nat} {g14:List rY} {N15:Nat} (q7:a5.length=n6) (q12:a6.length=n11) (q16:a7.length=N15) (q17:jW g14 a7) (q18:∀k∈a5,k<N15):CtO Tryz.prog 113 ([⟨some p0,1,151,3,1,([pI .i64 a4]++[pO b4 n6 c5]++[pO b9 n11 c10])⟩,hO (cH g14) b4 c5 24 n6 a5,hO cI b9 c10 3 n11 a6]++gO cQ 44 g14 a7) [.vc (pP (some p0) 0),.vc (pI .i64 a0),.va (eQ a1),.vc (pI .i64 a2),.va (eQ a3)] (fun Ho q=>Ho=([⟨some p0,1,151,3,1,([pI .i64 a4]++[pO b4 n6 c5]++[pO b9 n11 c10])⟩,hO (cH g14) b4 c5 24 n6 a5,hO cI b9 c10 3 n11 a6]++gO cQ 44 g14 a7)∧q=.vc (pB r)):=by
 unfold iN at hF
 refine a9 Tryz.func113 rfl (by kernel_rfl) Tryz.ntmps113 rfl (fun w0 M0=>?_)
 refine aD (aE (cV rfl rfl trivial (fun b20=>?_)))
 refine cV rfl rfl trivial (fun b21=>?_)
 refine aB (aL (.inr rfl)) ⟨dH _,trivial⟩ ?_
 refine aC (aA (aD (aD (aE (aB (aL (.inr rfl)) ⟨bC _ _,trivial⟩ ?_)))))
 refine aC (aA (bN (cL (fun H E=>jN K=some r∧H=([⟨some p0,1,151,3,1,([pI .i64 a4]++[pO b4 n6 c5]++[pO b9 n11 c10])⟩,hO (cH g14) b4 c5 24 n6 a5,hO cI b9 c10 3 n11 a6]++gO cQ 44 g14 a7)∧E=[]) ?_ (fun Jj25=>?_))))
 ·rintro _ _ ⟨hF,rfl,rfl⟩
  unfold jN at hF
  refine aA (aD (aE (aB (aL (.inr rfl)) ⟨dH _,trivial⟩ ?_)))
  refine aC (aA (aX (aW ?_)))
  obtain rfl:=bX hF
  exact uW (.inl rfl) Tryz.results113 (.tmp rfl .nil) rfl 3 [0,1,2] rfl rfl (by decide) ⟨rfl,rfl⟩
 obtain⟨ol24,hL,hRl24⟩:=aO hF
 refine gY (fun k a w=>∃(x23:Int),dU K a0 a1 a2 a3 a4 a5 a7 k x23=some ol24∧hs _ ([⟨some b21,1,44,4,1,(eQ a3)⟩,⟨some b20,1,44,4,1,(eQ a1)⟩,⟨some p0,1,151,3,1,([pI .i64 a4]++[pO b4 n6 c5]++[pO b9 n11 c10])⟩,hO (cH g14) b4 c5 24 n6 a5,hO cI b9 c10 3 n11 a6]++gO cQ 44 g14 a7) [(0,.vc (pP (some p0) 0)),(1,.vc (pI .i64 a0)),(3,.vc (pI .i64 a2)),(7,.vc (pP (some b20) 0)),(9,.vc (pP (some b21) 0)),(11,.vc (pI .i64 x23))] a w) K (fun a w ⟨_,hF,_⟩=>by cases hF) (fun k a w ⟨x23,hF,hh⟩=>gX ?_ hh) (fun a w hh=>⟨(-1),hL,cO 5 [0,1,2,3,4] rfl rfl (by decide) (by exact⟨rfl,rfl,rfl,rfl,rfl,rfl,trivial⟩) hh⟩)
 rw [dU.eq_2] at hF
 refine aD (aD (aE (aF ?_)))
 refine aF ?_
 refine aB (lW rfl) ⟨rfl,trivial⟩ ?_
 refine aB (a8 (off:=0) (k:=0) rfl tyF151_0) ⟨rfl,trivial⟩ ?_
 refine aB (bD 2 1 rfl rfl rfl rfl (.one tyO3)) ⟨rfl,trivial⟩ ?_
 refine aB (dQ rfl) ⟨rfl,rfl,trivial⟩ ?_
 refine aC (aA (bO rfl (fun h26=>?_) (fun h26=>?_)))
 ·have hF:=aT h26 hF
  refine aV (aA (aD (bN (aD (aE (aF ?_))))))
  refine bB ?_
  refine aC (aA (aD (rB (fun H E=>∃(x28:Int),gJ K a0 a1 a2 a3 a5 a7 x23 (dU K a0 a1 a2 a3 a4 a5 a7 k) x28=some ol24∧H=([⟨some b21,1,44,4,1,(eQ a3)⟩,⟨some b20,1,44,4,1,(eQ a1)⟩,⟨some p0,1,151,3,1,([pI .i64 a4]++[pO b4 n6 c5]++[pO b9 n11 c10])⟩,hO (cH g14) b4 c5 24 n6 a5,hO cI b9 c10 3 n11 a6]++gO cQ 44 g14 a7)∧E=[(0,.vc (pP (some p0) 0)),(1,.vc (pI .i64 a0)),(3,.vc (pI .i64 a2)),(7,.vc (pP (some b20) 0)),(9,.vc (pP (some b21) 0)),(11,.vc (pI .i64 x23)),(12,.vc (pI .i64 x28))]) ?_ (fun Jj29=>?_))))
  ·rintro _ _ ⟨x28,hF,rfl,rfl⟩
   unfold gJ at hF
   refine aD ?_
   obtain⟨v32,h33,hF⟩:=aO hF
   obtain⟨v34,h35,hF⟩:=aO hF
   obtain⟨v36,h37,hF⟩:=aO hF
   obtain⟨v38,h39,hF⟩:=aO hF
   obtain⟨v40,h41,hF⟩:=aO hF
   obtain⟨v42,h43,hF⟩:=aO hF
   obtain⟨v44,h45,hF⟩:=aO hF
   refine bP (0::1::3::7::0::31::63::0::255::511::0::2047::0::4096::12288::28672::0::126976::258048::0::1044480::2093056::0::8388607::16777215::33554431::[]) 26 0 (.v (.vc (pP (some p0) 0))::.v (.vc (pP (some p0) 0))::.v (.vc (pP (some p0) 1))::.v (.vc (pO b4 n6 c5))::.v (.vc (pI .i64 a0))::.v (.vc (pE b4 a0 (cH g14).n 0))::.v (.vc (pO (iC g14 v32).1 (iC g14 v32).2.1 (iC g14 v32).2.2))::.v (.vc (pI .i64 x28))::.v (.vc (pE (iC g14 v32).1 x28 cQ.n 0))::.v (.va (eQ v34))::.v (.va (eQ a1))::.v (.va (eQ v36))::.v (.vc (pP (some p0) 0))::.v (.vc (pP (some p0) 0))::.v (.vc (pP (some p0) 1))::.v (.vc (pO b4 n6 c5))::.v (.vc (pI .i64 a2))::.v (.vc (pE b4 a2 (cH g14).n 0))::.v (.vc (pO (iC g14 v38).1 (iC g14 v38).2.1 (iC g14 v38).2.2))::.v (.vc (pI .i64 x28))::.v (.vc (pE (iC g14 v38).1 x28 cQ.n 0))::.v (.va (eQ v40))::.v (.va (eQ a3))::.v (.va (eQ v42))::.v (.vc (pI .i64 v44))::.v (.vc (pI .i64 v44))::[]) aR ⟨d0 (aL (.inl rfl)) ⟨rfl,trivial⟩,d0 (lW rfl) ⟨rfl,trivial⟩,d0 (a8 (off:=0) (k:=1) rfl tyF151_1) ⟨rfl,trivial⟩,d0 (bD 2 1 rfl rfl rfl rfl (.one tyO62)) ⟨rfl,trivial⟩,d0 (aL (.inl rfl)) ⟨rfl,trivial⟩,d0 (cE (C:=(cH g14)) 3 rfl tyS62 rfl q7 (aN h33).1 (aN h33).2.1) ⟨rfl,rfl,trivial⟩,d0 (gA (C:=(cH g14)) (k:=1) 3 rfl rfl h33 rfl (.one tyO24) rfl) ⟨rfl,trivial⟩,d0 (aL (.inl rfl)) ⟨rfl,trivial⟩,d0 (cE (5+v32) rfl tyS24 (iY 5 rfl q17 q16 (q18 _ (bW h33))) (kD q17 q16 (q18 _ (bW h33))) (aN h35).1 (aN h35).2.1) ⟨rfl,rfl,trivial⟩,d0 (gA (k:=4) (5+v32) rfl (iY 5 rfl q17 q16 (q18 _ (bW h33))) h35 rfl (.agg tyA44) rfl) ⟨rfl,trivial⟩,d0 (bD 1 4 rfl rfl rfl rfl (.agg tyA44)) ⟨rfl,trivial⟩,d0 (aG rfl (wW h37) rfl) ⟨rfl,rfl,trivial⟩,d0 (aL (.inl rfl)) ⟨rfl,trivial⟩,d0 (lW rfl) ⟨rfl,trivial⟩,d0 (a8 (off:=0) (k:=1) rfl tyF151_1) ⟨rfl,trivial⟩,d0 (bD 2 1 rfl rfl rfl rfl (.one tyO62)) ⟨rfl,trivial⟩,d0 (aL (.inl rfl)) ⟨rfl,trivial⟩,d0 (cE (C:=(cH g14)) 3 rfl tyS62 rfl q7 (aN h39).1 (aN h39).2.1) ⟨rfl,rfl,trivial⟩,d0 (gA (C:=(cH g14)) (k:=1) 3 rfl rfl h39 rfl (.one tyO24) rfl) ⟨rfl,trivial⟩,d0 (aL (.inl rfl)) ⟨rfl,trivial⟩,d0 (cE (5+v38) rfl tyS24 (iY 5 rfl q17 q16 (q18 _ (bW h39))) (kD q17 q16 (q18 _ (bW h39))) (aN h41).1 (aN h41).2.1) ⟨rfl,rfl,trivial⟩,d0 (gA (k:=4) (5+v38) rfl (iY 5 rfl q17 q16 (q18 _ (bW h39))) h41 rfl (.agg tyA44) rfl) ⟨rfl,trivial⟩,d0 (bD 0 4 rfl rfl rfl rfl (.agg tyA44)) ⟨rfl,trivial⟩,d0 (aG rfl (wW h43) rfl) ⟨rfl,rfl,trivial⟩,d0 (aG rfl (l4 h45) rfl) ⟨rfl,rfl,trivial⟩,d0 (aL (.inr rfl)) ⟨rfl,trivial⟩,trivial⟩ (fun bs31 G30=>?_)
   refine aC (aA (aD (aE (aF ?_))))
   refine aB (sC rfl) ⟨rfl,bC _ _,trivial⟩ ?_
   refine aC (aA (bO rfl (fun h46=>?_) (fun h46=>?_)))
   ·have hF:=aT h46 hF
    refine aD (aE (aF ?_))
    refine aB (dQ rfl) ⟨rfl,bC _ _,trivial⟩ ?_
    refine bB ?_
    refine aC (aA (aX (aW ?_)))
    obtain rfl:=bX hF
    obtain rfl:=bX hRl24
    exact uW (.inl rfl) Tryz.results113 (.tmp rfl .nil) rfl 5 [2,3,4] rfl rfl (by decide) ⟨rfl,rfl⟩
   have hF:=aU h46 hF
   refine aV (bF (aA (aE (aF ?_))))
   obtain⟨v47,h48,hF⟩:=aO hF
   refine aB (bI rfl h48) ⟨rfl,bC _ _,trivial⟩ ?_
   refine bB ?_
   refine aC ?_
   exact bG (fun a w hh=>⟨v47,hF,cO 5 [0,1,2,3,4] rfl rfl (by decide) (by exact⟨rfl,rfl,rfl,rfl,rfl,rfl,trivial⟩) hh⟩)
  refine aD (aE (aF ?_))
  refine aB (dQ rfl) ⟨rfl,bC _ _,trivial⟩ ?_
  refine aC (aA (bO rfl (fun h49=>?_) (fun h49=>?_)))
  ·have hF:=aT h49 hF
   refine aE (aF ?_)
   refine aB (lW rfl) ⟨rfl,trivial⟩ ?_
   refine aB (a8 (off:=0) (k:=0) rfl tyF151_0) ⟨rfl,trivial⟩ ?_
   refine aB (bD 2 1 rfl rfl rfl rfl (.one tyO3)) ⟨rfl,trivial⟩ ?_
   obtain⟨v50,h51,hF⟩:=aO hF
   refine aB (lL rfl h51) ⟨bC _ _,rfl,trivial⟩ ?_
   obtain⟨v52,h53,hF⟩:=aO hF
   refine aB (bI rfl h53) ⟨rfl,bC _ _,trivial⟩ ?_
   refine bB ?_
   refine aC ?_
   exact mJ Jj29 ⟨v52,hF,rfl,rfl⟩ 5 [0,1,2,3,4] rfl rfl ⟨rfl,rfl,rfl,rfl,rfl,rfl,rfl,trivial⟩
  have hF:=aU h49 hF
  refine aV ?_
  exact mJ Jj29 ⟨x23,hF,rfl,rfl⟩ 5 [0,1,2,3,4] rfl rfl ⟨rfl,rfl,rfl,rfl,rfl,rfl,rfl,trivial⟩
 have hF:=aU h26 hF
 refine dE ?_
 obtain rfl:=bX hF
 exact mJ Jj25 ⟨hRl24,rfl,rfl⟩ 5 [2,3,4] rfl rfl trivial
def iZ (K:Nat) (a0:Int) (a1:Int) (a4:List Int) (x57:List Nat) (x71:List (List Rat)):Option (Int×(List Nat)×(List Int)×(List (List Rat))):=
 (dO a4 a0).bind fun v77=>(dO a4 a0).bind fun v79=>(n8 a4 a0 a1).bind fun x81=>some (v77,x57,x81,x71)
def iP (K:Nat) (x70:Int) (recl75:(List (List Rat))→Int→Option (List (List Rat))) (x108:List (List Rat)):Option (List (List Rat)):=
 (bQ (x70+1)).bind fun v114=>recl75 x108 v114
def fZ (K:Nat) (a5:List (List Rat)) (x66:List (List Rat)) (v85:Nat) (v87:Rat):Nat→(List (List Rat))→Int→Option (List (List Rat))
 |0,_,_=>none
 |k+1,x103,x107=>bif(decide (x107<((x66.getD v85 []).length:Int))) then((dO (x103.getD v85 []) x107).bind fun v119=>(dO (x103.getD a5.length []) x107).bind fun v121=>(yA v87 v121).bind fun v123=>(aF0 v119 v123).bind fun v125=>(dO (x103.getD v85 []) x107).bind fun v127=>(n8 (x103.getD v85 []) x107 v125).bind fun x129=>(bQ (x107+1)).bind fun v132=>fZ K a5 x66 v85 v87 k (x103.set v85 x129) v132) else(some x103)
def cY (K:Nat) (a0:Int) (a1:Int) (a5:List (List Rat)) (x57:List Nat):Nat→(List (List Rat))→Int→Option (List (List Rat))
 |0,_,_=>none
 |k+1,x66,x70=>bif(decide (x70<(x57.length:Int))) then((dO x57 x70).bind fun v85=>(dO (x66.getD v85 []) a1).bind fun v87=>bif(x70==a0) then((bQ (x70+1)).bind fun v91=>cY K a0 a1 a5 x57 k x66 v91) else((s5 v87).bind fun v93=>bif(v93==0) then((bQ (x70+1)).bind fun v96=>cY K a0 a1 a5 x57 k x66 v96) else((fZ K a5 x66 v85 v87 K x66 0).bind fun x108=>iP K x70 (cY K a0 a1 a5 x57 k) x108))) else(some x66)
def jA (K:Nat) (a0:Int) (a1:Int) (a3:List Nat) (a4:List Int) (a5:List (List Rat)) (x47:List Rat):Option (Int×(List Nat)×(List Int)×(List (List Rat))):=
 (dO a3 a0).bind fun v55=>(n8 a3 a0 a5.length).bind fun x57=>(cY K a0 a1 a5 x57 K (a5++[x47]) 0).bind fun x71=>iZ K a0 a1 a4 x57 x71
def gC (K:Nat) (a5:List (List Rat)) (x22:List Rat) (v27:Nat) (v30:Rat):Nat→(List Rat)→Int→Option (List Rat)
 |0,_,_=>none
 |k+1,x40,x46=>bif(decide (x46<((zC x22 (a5.getD v27 [])).length:Int))) then((dO x40 x46).bind fun v137=>(aFE v137 v30).bind fun v139=>(dO x40 x46).bind fun v141=>(n8 x40 x46 v139).bind fun x143=>(bQ (x46+1)).bind fun v146=>gC K a5 x22 v27 v30 k x143 v146) else(some x40)
def kY (K:Nat) (a0:Int) (a1:Int) (a2:Int) (a3:List Nat) (a4:List Int) (a5:List (List Rat)):Option (Int×(List Nat)×(List Int)×(List (List Rat))):=
 (dO a3 a0).bind fun v20=>(s6 ((a5.getD v20 []).length:Int) 0).bind fun x22=>(dO a3 a0).bind fun v27=>(dO (zC x22 (a5.getD v27 [])) a1).bind fun v30=>(gC K a5 x22 v27 v30 K (zC x22 (a5.getD v27 [])) 0).bind fun x47=>jA K a0 a1 a3 a4 a5 x47
theorem rN {K:Nat} {a0:Int} {a1:Int} {a2:Int} {a3:List Nat} {a4:List Int} {a5:List (List Rat)} {r:Int×(List Nat)×(List Int)×(List (List Rat))} (hF:kY K a0 a1 a2 a3 a4 a5=some r) {p0:Nat} {b4:Option Nat} {c5 n6:Nat} {b9:Option Nat} {c10 n11:Nat} {g14:List rY} {N15:Nat} (q7:a3.length=n6) (q12:a4.length=n11) (q16:a5.length=N15) (q17:jW g14 a5) (q18:∀k∈a3,k<N15):CtO Tryz.prog 114 ([⟨some p0,1,151,3,1,([pI .i64 a2]++[pO b4 n6 c5]++[pO b9 n11 c10])⟩,hO (cH g14) b4 c5 24 n6 a3,hO cI b9 c10 3 n11 a4]++gO cQ 44 g14 a5) [.vc (pP (some p0) 0),.vc (pI .i64 a0),.vc (pI .i64 a1)] (fun Ho q=>∃b1148 c1149 n1150 g1155 N1156,r.2.1.length=n1150∧r.2.2.1.length=n11∧r.2.2.2.length=N1156∧jW g1155 r.2.2.2∧(∀k∈r.2.1,k<N1156)∧Ho=([⟨some p0,1,151,3,1,([pI .i64 a2]++[pO b1148 n1150 c1149]++[pO b9 n11 c10])⟩,hO (cH g1155) b1148 c1149 24 n1150 r.2.1,hO cI b9 c10 3 n11 r.2.2.1]++gO cQ 44 g1155 r.2.2.2)∧q=.vc (pI .i64 r.1)):=by
 unfold kY at hF
 refine a9 Tryz.func114 rfl (by kernel_rfl) Tryz.ntmps114 rfl (fun w0 M0=>?_)
 refine aD (aE (aB (aL (.inr rfl)) ⟨bC _ _,trivial⟩ ?_))
 refine aC (aA (aCZ (aD (aE (aF ?_)))))
 refine aB (lW rfl) ⟨rfl,trivial⟩ ?_
 refine aB (a8 (off:=0) (k:=1) rfl tyF151_1) ⟨rfl,trivial⟩ ?_
 refine aB (bD 0 1 rfl rfl rfl rfl (.one tyO62)) ⟨rfl,trivial⟩ ?_
 refine aF ?_
 obtain⟨v20,h21,hF⟩:=aO hF
 refine aB (cE (C:=(cH g14)) 1 rfl tyS62 rfl q7 (aN h21).1 (aN h21).2.1) ⟨rfl,rfl,trivial⟩ ?_
 refine aB (gA (C:=(cH g14)) (k:=1) 1 rfl rfl h21 rfl (.one tyO24) rfl) ⟨rfl,trivial⟩ ?_
 refine aB (y0 (C:=cQ) (xs:=(a5.getD v20 [])) (T:=44) rfl tyS24 (kD q17 q16 (q18 _ (bW h21)))) ⟨rfl,trivial⟩ ?_
 obtain⟨x22,h23,hF⟩:=aO hF
 refine rK (C:=cQ) rfl tyS24 rfl tyZ44q rfl h23 (fun b24=>?_)
 refine bB ?_
 refine aC (aA (aD (aE (aF ?_))))
 refine aF ?_
 refine aB (lW rfl) ⟨rfl,trivial⟩ ?_
 refine aB (a8 (off:=0) (k:=1) rfl tyF151_1) ⟨rfl,trivial⟩ ?_
 refine aB (bD 1 1 rfl rfl rfl rfl (.one tyO62)) ⟨rfl,trivial⟩ ?_
 refine aF ?_
 obtain⟨v27,h28,hF⟩:=aO hF
 refine aB (cE (C:=(cH g14)) 2 rfl tyS62 rfl q7 (aN h28).1 (aN h28).2.1) ⟨rfl,rfl,trivial⟩ ?_
 refine aB (gA (C:=(cH g14)) (k:=1) 2 rfl rfl h28 rfl (.one tyO24) rfl) ⟨rfl,trivial⟩ ?_
 refine aB (aGL 0 (4+v27) rfl tyS24 rfl rfl (xI 4 rfl q17 q16 (q18 _ (bW h28))) (kD q17 q16 (q18 _ (bW h28))) rfl) ⟨rfl,rfl,trivial⟩ ?_
 refine aC (aA (aD (aE (aF ?_))))
 refine aF ?_
 obtain⟨v30,h31,hF⟩:=aO hF
 refine aB (cE (C:=cQ) 0 rfl tyS24 rfl (xP rfl) (aN h31).1 (aN h31).2.1) ⟨rfl,rfl,trivial⟩ ?_
 refine aB (gA (k:=4) 0 rfl rfl h31 rfl (.agg tyA44) rfl) ⟨rfl,trivial⟩ ?_
 refine bJ rfl tyZ44q (fun b32=>?_)
 refine aY (dA 0 rfl rfl rfl tyA44.s) ⟨rfl,rfl,trivial⟩ ?_
 refine aC (aA (aD (aD (aE (aF ?_)))))
 refine aB (y0 (C:=cQ) (xs:=(zC x22 (a5.getD v27 []))) (T:=44) rfl tyS24 (xP rfl)) ⟨rfl,trivial⟩ ?_
 refine aB (aL (.inl rfl)) ⟨bC _ _,trivial⟩ ?_
 refine aC (aA (bN (cL (fun H E=>∃(x47:List Rat),jA K a0 a1 a3 a4 a5 x47=some r∧x47.length=x22.length∧H=([hO cQ b24 x22.length 44 x22.length x47,⟨some p0,1,151,3,1,([pI .i64 a2]++[pO b4 n6 c5]++[pO b9 n11 c10])⟩,hO (cH g14) b4 c5 24 n6 a3,hO cI b9 c10 3 n11 a4]++gO cQ 44 g14 a5)∧E=[(0,.vc (pP (some p0) 0)),(1,.vc (pI .i64 a0)),(2,.vc (pI .i64 a1)),(7,.vc (pO b24 x22.length x22.length))]) ?_ (fun Jj54=>?_))))
 ·rintro _ _ ⟨x47,hF,q51,rfl,rfl⟩
  unfold jA at hF
  refine aA (aD (aE (aF ?_)))
  refine aB (lW rfl) ⟨rfl,trivial⟩ ?_
  refine aB (a8 (off:=0) (k:=1) rfl tyF151_1) ⟨rfl,trivial⟩ ?_
  refine aB (bD 1 1 rfl rfl rfl rfl (.one tyO62)) ⟨rfl,trivial⟩ ?_
  refine aF ?_
  refine aF ?_
  obtain⟨v55,h56,hF⟩:=aO hF
  refine aB (cE (C:=(cH g14)) 2 rfl tyS62 rfl q7 (aN h56).1 (aN h56).2.1) ⟨rfl,rfl,trivial⟩ ?_
  obtain⟨x57,h58,hF⟩:=aO hF
  refine aFZ (show([hO cQ b24 x22.length 44 x22.length x47,⟨some p0,1,151,3,1,([pI .i64 a2]++[pO b4 n6 c5]++[pO b9 n11 c10])⟩,hO (cH (g14++[(b24,x22.length,x22.length)])) b4 c5 24 n6 a3,hO cI b9 c10 3 n11 a4]++gO cQ 44 g14 a5)=([hO cQ b24 x22.length 44 x22.length x47,⟨some p0,1,151,3,1,([pI .i64 a2]++[pO b4 n6 c5]++[pO b9 n11 c10])⟩,hO (cH g14) b4 c5 24 n6 a3,hO cI b9 c10 3 n11 a4]++gO cQ 44 g14 a5) from by rw [aCE (N:=a5.length) (b24,x22.length,x22.length) q17.1 (aBx q16 q18)]) ?_
  refine aY (fL (C:=cH (g14++[(b24,x22.length,x22.length)])) (z':=a5.length) 2 rfl rfl h56 h58 tyO24.s (hq:=aB3 (b24,x22.length,x22.length) q17.1)) ⟨rfl,rfl,trivial⟩ ?_
  refine z9 (g:=(b24,x22.length,x22.length)) 0 4 rfl rfl rfl q17 ?_
  refine aFR 7 rfl (aEQ (N:=a5.length) (b24,x22.length,x22.length) q17.1) ?_
  refine aC (aA (aD (aDo (aA (aD (aD (aE (aF ?_))))))))
  refine aB (lW rfl) ⟨rfl,trivial⟩ ?_
  refine aB (a8 (off:=0) (k:=1) rfl tyF151_1) ⟨rfl,trivial⟩ ?_
  refine aB (bD 0 1 rfl rfl rfl rfl (.one tyO62)) ⟨rfl,trivial⟩ ?_
  refine aB (y0 (C:=(cH (g14++[(b24,x22.length,x22.length)]))) (xs:=x57) (T:=24) rfl tyS62 (b0 h58 q7)) ⟨rfl,trivial⟩ ?_
  refine aB (aL (.inl rfl)) ⟨bC _ _,trivial⟩ ?_
  refine aC (aA (bN (cL (fun H E=>∃(x71:List (List Rat)),iZ K a0 a1 a4 x57 x71=some r∧x71.length=(N15+1)∧jW (g14++[(b24,x22.length,x22.length)]) x71∧H=([⟨some p0,1,151,3,1,([pI .i64 a2]++[pO b4 n6 c5]++[pO b9 n11 c10])⟩,hO (cH (g14++[(b24,x22.length,x22.length)])) b4 c5 24 n6 x57,hO cI b9 c10 3 n11 a4]++gO cQ 44 (g14++[(b24,x22.length,x22.length)]) x71)∧E=[(0,.vc (pP (some p0) 0)),(1,.vc (pI .i64 a0)),(2,.vc (pI .i64 a1))]) ?_ (fun Jj76=>?_))))
  ·rintro _ _ ⟨x71,hF,q72,q73,rfl,rfl⟩
   unfold iZ at hF
   refine aA (aD (aE (aF ?_)))
   refine aB (lW rfl) ⟨rfl,trivial⟩ ?_
   refine aB (a8 (off:=0) (k:=2) rfl tyF151_2) ⟨rfl,trivial⟩ ?_
   refine aB (bD 0 1 rfl rfl rfl rfl (.one tyO22)) ⟨rfl,trivial⟩ ?_
   refine aF ?_
   obtain⟨v77,h78,hF⟩:=aO hF
   refine aB (cE (C:=cI) 2 rfl tyS22 rfl q12 (aN h78).1 (aN h78).2.1) ⟨rfl,rfl,trivial⟩ ?_
   refine aB (gA (k:=1) 2 rfl rfl h78 rfl (.one tyO3) rfl) ⟨rfl,trivial⟩ ?_
   refine bB ?_
   refine aC (aA (aD (aE (aF ?_))))
   refine aB (lW rfl) ⟨rfl,trivial⟩ ?_
   refine aB (a8 (off:=0) (k:=2) rfl tyF151_2) ⟨rfl,trivial⟩ ?_
   refine aB (bD 0 1 rfl rfl rfl rfl (.one tyO22)) ⟨rfl,trivial⟩ ?_
   refine aF ?_
   refine aF ?_
   obtain⟨v79,h80,hF⟩:=aO hF
   refine aB (cE (C:=cI) 2 rfl tyS22 rfl q12 (aN h80).1 (aN h80).2.1) ⟨rfl,rfl,trivial⟩ ?_
   obtain⟨x81,h82,hF⟩:=aO hF
   refine aY (fL 2 rfl rfl h80 h82 tyO3.s) ⟨rfl,rfl,trivial⟩ ?_
   refine aC (aA (aD (aE (aF ?_))))
   refine bB ?_
   refine aC (aA (aX (aW ?_)))
   obtain rfl:=bX hF
   exact uW (.inl rfl) Tryz.results114 (.tmp rfl .nil) rfl 3 [0,1,2] rfl rfl (by decide) ⟨b4,c5,n6,(g14++[(b24,x22.length,x22.length)]),(N15+1),(b0 h58 q7),(b0 h82 q12),q72,q73,(pC q18 h58 q16),rfl,rfl⟩
  obtain⟨x71',hL,hRl75⟩:=aO hF
  refine gY (fun k a w=>∃(x66:List (List Rat)),∃(x70:Int),cY K a0 a1 a5 x57 k x66 x70=some x71'∧x66.length=(N15+1)∧jW (g14++[(b24,x22.length,x22.length)]) x66∧hs _ ([⟨some p0,1,151,3,1,([pI .i64 a2]++[pO b4 n6 c5]++[pO b9 n11 c10])⟩,hO (cH (g14++[(b24,x22.length,x22.length)])) b4 c5 24 n6 x57,hO cI b9 c10 3 n11 a4]++gO cQ 44 (g14++[(b24,x22.length,x22.length)]) x66) [(0,.vc (pP (some p0) 0)),(1,.vc (pI .i64 a0)),(2,.vc (pI .i64 a1)),(7,.vc (pO (iC (g14++[(b24,x22.length,x22.length)]) a5.length).1 (iC (g14++[(b24,x22.length,x22.length)]) a5.length).2.1 (iC (g14++[(b24,x22.length,x22.length)]) a5.length).2.2)),(62,.vc (pO b4 n6 c5)),(63,.vc (pI .i64 (x57.length:Int))),(64,.vc (pI .i64 x70))] a w) K (fun a w ⟨_,_,hF,_,_,_⟩=>by cases hF) (fun k a w ⟨x66,x70,hF,q67,q68,hh⟩=>gX ?_ hh) (fun a w hh=>⟨(a5++[x47]),0,hL,(zP q16),(uF q17 q51),cO 3 [0,1,2] rfl rfl (by decide) (by exact⟨rfl,rfl,rfl,rfl,rfl,rfl,rfl,trivial⟩) hh⟩)
  rw [cY.eq_2] at hF
  refine aD (aE (aB (dQ rfl) ⟨rfl,rfl,trivial⟩ ?_))
  refine aC (aA (aD (bO rfl (fun h84=>?_) (fun h84=>?_))))
  ·have hF:=aT h84 hF
   refine aV (aA (aD (bN (aD (aE (aF ?_))))))
   obtain⟨v85,h86,hF⟩:=aO hF
   refine aB (cE (C:=(cH (g14++[(b24,x22.length,x22.length)]))) 1 rfl tyS62 rfl (b0 h58 q7) (aN h86).1 (aN h86).2.1) ⟨rfl,rfl,trivial⟩ ?_
   refine aB (gA (C:=(cH (g14++[(b24,x22.length,x22.length)]))) (k:=1) 1 rfl rfl h86 rfl (.one tyO24) rfl) ⟨rfl,trivial⟩ ?_
   refine bB ?_
   refine bB ?_
   refine aC (aA (aD (aE (aF ?_))))
   refine aF ?_
   obtain⟨v87,h88,hF⟩:=aO hF
   refine aB (cE (3+v85) rfl tyS24 (xI 3 rfl q68 q67 ((pC q18 h58 q16) _ (bW h86))) (kD q68 q67 ((pC q18 h58 q16) _ (bW h86))) (aN h88).1 (aN h88).2.1) ⟨rfl,rfl,trivial⟩ ?_
   refine aB (gA (k:=4) (3+v85) rfl (xI 3 rfl q68 q67 ((pC q18 h58 q16) _ (bW h86))) h88 rfl (.agg tyA44) rfl) ⟨rfl,trivial⟩ ?_
   refine bJ rfl tyZ44q (fun b89=>?_)
   refine aY (dA 0 rfl rfl rfl tyA44.s) ⟨rfl,rfl,trivial⟩ ?_
   refine aC (aA (aD (aD (aE (aF ?_)))))
   refine aF ?_
   refine aB (iJ rfl) ⟨rfl,rfl,trivial⟩ ?_
   refine aF ?_
   refine cU (fun h90=>?_) (fun h90=>?_)
   ·have hF:=aT h90 hF
    refine aJ ?_
    refine aJ ?_
    refine aJ ?_
    refine aB (bK rfl) ⟨rfl,dH _,trivial⟩ ?_
    refine aC (aA (kT rfl ?_))
    refine dE (aA (aE ?_))
    obtain⟨v91,h92,hF⟩:=aO hF
    refine aB (bI rfl h92) ⟨rfl,bC _ _,trivial⟩ ?_
    refine aF ?_
    refine aC ?_
    exact bG (fun a w hh=>⟨x66,v91,hF,q67,q68,cO 4 [1,2,3] rfl rfl (by decide) (by exact⟨rfl,rfl,rfl,rfl,rfl,rfl,rfl,trivial⟩) hh⟩)
   have hF:=aU h90 hF
   refine aZ (bD 0 4 rfl rfl rfl rfl (.agg tyA44)) ⟨rfl,trivial⟩ ?_
   obtain⟨v93,h94,hF⟩:=aO hF
   refine aZ (aG rfl (gF h94) rfl) ⟨rfl,trivial⟩ ?_
   refine aZ (iJ rfl) ⟨rfl,bC _ _,trivial⟩ ?_
   refine aB (bL rfl) ⟨rfl,rfl,trivial⟩ ?_
   refine aC (aA (bO rfl (fun h95=>?_) (fun h95=>?_)))
   ·have hF:=aT h95 hF
    refine dE (aA (aE ?_))
    obtain⟨v96,h97,hF⟩:=aO hF
    refine aB (bI rfl h97) ⟨rfl,bC _ _,trivial⟩ ?_
    refine aF ?_
    refine aC ?_
    exact bG (fun a w hh=>⟨x66,v96,hF,q67,q68,cO 4 [1,2,3] rfl rfl (by decide) (by exact⟨rfl,rfl,rfl,rfl,rfl,rfl,rfl,trivial⟩) hh⟩)
   have hF:=aU h95 hF
   refine aV (aA (aD (aE (aF ?_))))
   refine aB (y0 (C:=cQ) (xs:=(x66.getD v85 [])) (T:=44) rfl tyS24 (kD q68 q67 ((pC q18 h58 q16) _ (bW h86)))) ⟨rfl,trivial⟩ ?_
   refine aB (aL (.inl rfl)) ⟨bC _ _,trivial⟩ ?_
   refine aC (aA (bN (cL (fun H E=>∃(x108:List (List Rat)),iP K x70 (cY K a0 a1 a5 x57 k) x108=some x71'∧x108.length=(N15+1)∧jW (g14++[(b24,x22.length,x22.length)]) x108∧H=([⟨some p0,1,151,3,1,([pI .i64 a2]++[pO b4 n6 c5]++[pO b9 n11 c10])⟩,hO (cH (g14++[(b24,x22.length,x22.length)])) b4 c5 24 n6 x57,hO cI b9 c10 3 n11 a4]++gO cQ 44 (g14++[(b24,x22.length,x22.length)]) x108)∧E=[(0,.vc (pP (some p0) 0)),(1,.vc (pI .i64 a0)),(2,.vc (pI .i64 a1)),(7,.vc (pO (iC (g14++[(b24,x22.length,x22.length)]) a5.length).1 (iC (g14++[(b24,x22.length,x22.length)]) a5.length).2.1 (iC (g14++[(b24,x22.length,x22.length)]) a5.length).2.2)),(62,.vc (pO b4 n6 c5)),(63,.vc (pI .i64 (x57.length:Int))),(64,.vc (pI .i64 x70)),(77,.va (eQ v87)),(78,.vc (pI .i64 v93)),(79,.vc (pB (v93==0)))]) ?_ (fun Jj113=>?_))))
   ·rintro _ _ ⟨x108,hF,q109,q110,rfl,rfl⟩
    unfold iP at hF
    refine bF (aA (aE ?_))
    obtain⟨v114,h115,hF⟩:=aO hF
    refine aB (bI rfl h115) ⟨rfl,bC _ _,trivial⟩ ?_
    refine aF ?_
    refine aC ?_
    exact bG (fun a w hh=>⟨x108,v114,hF,q109,q110,cO 3 [0,1,2] rfl rfl (by decide) (by exact⟨rfl,rfl,rfl,rfl,rfl,rfl,rfl,trivial⟩) hh⟩)
   obtain⟨x108',hL,hRl112⟩:=aO hF
   refine gY (fun k a w=>∃(x103:List (List Rat)),∃(x107:Int),fZ K a5 x66 v85 v87 k x103 x107=some x108'∧x103.length=(N15+1)∧jW (g14++[(b24,x22.length,x22.length)]) x103∧hs _ ([⟨some b89,1,44,4,1,(eQ v87)⟩,⟨some p0,1,151,3,1,([pI .i64 a2]++[pO b4 n6 c5]++[pO b9 n11 c10])⟩,hO (cH (g14++[(b24,x22.length,x22.length)])) b4 c5 24 n6 x57,hO cI b9 c10 3 n11 a4]++gO cQ 44 (g14++[(b24,x22.length,x22.length)]) x103) [(0,.vc (pP (some p0) 0)),(1,.vc (pI .i64 a0)),(2,.vc (pI .i64 a1)),(7,.vc (pO (iC (g14++[(b24,x22.length,x22.length)]) a5.length).1 (iC (g14++[(b24,x22.length,x22.length)]) a5.length).2.1 (iC (g14++[(b24,x22.length,x22.length)]) a5.length).2.2)),(11,.vc (pO (iC (g14++[(b24,x22.length,x22.length)]) v85).1 (iC (g14++[(b24,x22.length,x22.length)]) v85).2.1 (iC (g14++[(b24,x22.length,x22.length)]) v85).2.2)),(12,.vc (pP (some b89) 0)),(62,.vc (pO b4 n6 c5)),(63,.vc (pI .i64 (x57.length:Int))),(64,.vc (pI .i64 x70)),(77,.va (eQ v87)),(78,.vc (pI .i64 v93)),(79,.vc (pB (v93==0))),(82,.vc (pI .i64 ((x66.getD v85 []).length:Int))),(83,.vc (pI .i64 x107))] a w) K (fun a w ⟨_,_,hF,_,_,_⟩=>by cases hF) (fun k a w ⟨x103,x107,hF,q104,q105,hh⟩=>gX ?_ hh) (fun a w hh=>⟨x66,0,hL,q67,q68,cO 4 [0,1,2,3] rfl rfl (by decide) (by exact⟨rfl,rfl,rfl,rfl,rfl,rfl,rfl,rfl,rfl,rfl,rfl,rfl,rfl,rfl,trivial⟩) hh⟩)
   rw [fZ.eq_2] at hF
   refine aD (aE (aB (dQ rfl) ⟨rfl,rfl,trivial⟩ ?_))
   refine aC (aA (aD (bO rfl (fun h116=>?_) (fun h116=>?_))))
   ·have hF:=aT h116 hF
    refine aV (aA (aD (bN (aD (aE (aF ?_))))))
    refine bB ?_
    refine aC (aA ?_)
    obtain⟨v119,h120,hF⟩:=aO hF
    obtain⟨v121,h122,hF⟩:=aO hF
    obtain⟨v123,h124,hF⟩:=aO hF
    obtain⟨v125,h126,hF⟩:=aO hF
    obtain⟨v127,h128,hF⟩:=aO hF
    refine bP [0,0,0,0,12,28,0,0,0,384,896,1984,4092,8191,16383] 14 1 [.v (.vc (pO (iC (g14++[(b24,x22.length,x22.length)]) v85).1 (iC (g14++[(b24,x22.length,x22.length)]) v85).2.1 (iC (g14++[(b24,x22.length,x22.length)]) v85).2.2)),.v (.vc (pI .i64 x107)),.v (.vc (pO (iC (g14++[(b24,x22.length,x22.length)]) v85).1 (iC (g14++[(b24,x22.length,x22.length)]) v85).2.1 (iC (g14++[(b24,x22.length,x22.length)]) v85).2.2)),.v (.vc (pI .i64 x107)),.v (.vc (pE (iC (g14++[(b24,x22.length,x22.length)]) v85).1 x107 cQ.n 0)),.v (.va (eQ v119)),.v (.va (eQ v87)),.v (.vc (pO (iC (g14++[(b24,x22.length,x22.length)]) a5.length).1 (iC (g14++[(b24,x22.length,x22.length)]) a5.length).2.1 (iC (g14++[(b24,x22.length,x22.length)]) a5.length).2.2)),.v (.vc (pI .i64 x107)),.v (.vc (pE (iC (g14++[(b24,x22.length,x22.length)]) a5.length).1 x107 cQ.n 0)),.v (.va (eQ v121)),.v (.va (eQ v123)),.v (.va (eQ v125)),.v (.vc (pE (iC (g14++[(b24,x22.length,x22.length)]) v85).1 x107 cQ.n 0))] aR ⟨d0 (aL (.inl rfl)) ⟨rfl,trivial⟩,d0 (aL (.inl rfl)) ⟨rfl,trivial⟩,d0 (aL (.inl rfl)) ⟨rfl,trivial⟩,d0 (aL (.inl rfl)) ⟨rfl,trivial⟩,d0 (cE (4+v85) rfl tyS24 (iY 4 rfl q105 q104 ((pC q18 h58 q16) _ (bW h86))) (kD q105 q104 ((pC q18 h58 q16) _ (bW h86))) (aN h120).1 (aN h120).2.1) ⟨rfl,rfl,trivial⟩,d0 (gA (k:=4) (4+v85) rfl (iY 4 rfl q105 q104 ((pC q18 h58 q16) _ (bW h86))) h120 rfl (.agg tyA44) rfl) ⟨rfl,trivial⟩,d0 (bD 0 4 rfl rfl rfl rfl (.agg tyA44)) ⟨rfl,trivial⟩,d0 (aL (.inl rfl)) ⟨rfl,trivial⟩,d0 (aL (.inl rfl)) ⟨rfl,trivial⟩,d0 (cE (4+a5.length) rfl tyS24 (iY 4 rfl q105 q104 (aBi q16)) (kD q105 q104 (aBi q16)) (aN h122).1 (aN h122).2.1) ⟨rfl,rfl,trivial⟩,d0 (gA (k:=4) (4+a5.length) rfl (iY 4 rfl q105 q104 (aBi q16)) h122 rfl (.agg tyA44) rfl) ⟨rfl,trivial⟩,d0 (aG rfl (oT h124) rfl) ⟨rfl,rfl,trivial⟩,d0 (aG rfl (zV h126) rfl) ⟨rfl,rfl,trivial⟩,d0 (cE (4+v85) rfl tyS24 (iY 4 rfl q105 q104 ((pC q18 h58 q16) _ (bW h86))) (kD q105 q104 ((pC q18 h58 q16) _ (bW h86))) (aN h128).1 (aN h128).2.1) ⟨rfl,rfl,trivial⟩,trivial⟩ (fun bs118 G117=>?_)
    obtain⟨x129,h130,hF⟩:=aO hF
    refine aY (fL (H':=([⟨some b89,1,44,4,1,(eQ v87)⟩,⟨some p0,1,151,3,1,([pI .i64 a2]++[pO b4 n6 c5]++[pO b9 n11 c10])⟩,hO (cH (g14++[(b24,x22.length,x22.length)])) b4 c5 24 n6 x57,hO cI b9 c10 3 n11 a4]++gO cQ 44 (g14++[(b24,x22.length,x22.length)]) (x103.set v85 x129))) (4+v85) rfl (xI 4 rfl q105 q104 ((pC q18 h58 q16) _ (bW h86))) h128 h130 tyA44.s (hH:=stN 4 rfl q105 q104 ((pC q18 h58 q16) _ (bW h86)))) ⟨rfl,rfl,trivial⟩ ?_
    refine aC (bF (aA (aE ?_)))
    obtain⟨v132,h133,hF⟩:=aO hF
    refine aB (bI rfl h133) ⟨rfl,bC _ _,trivial⟩ ?_
    refine aF ?_
    refine aC ?_
    exact bG (fun a w hh=>⟨(x103.set v85 x129),v132,hF,(qL q104),(sJ q105 q104 ((pC q18 h58 q16) _ (bW h86)) (b0 h130 rfl)),cO 4 [0,1,2,3] rfl rfl (by decide) (by exact⟨rfl,rfl,rfl,rfl,rfl,rfl,rfl,rfl,rfl,rfl,rfl,rfl,rfl,rfl,trivial⟩) hh⟩)
   have hF:=aU h116 hF
   refine dE ?_
   obtain rfl:=bX hF
   exact mJ Jj113 ⟨x103,hRl112,q104,q105,rfl,rfl⟩ 4 [1,2,3] rfl rfl ⟨rfl,rfl,rfl,rfl,rfl,rfl,rfl,rfl,rfl,rfl,trivial⟩
  have hF:=aU h84 hF
  refine dE ?_
  obtain rfl:=bX hF
  exact mJ Jj76 ⟨x66,hRl75,q67,q68,rfl,rfl⟩ 3 [0,1,2] rfl rfl ⟨rfl,rfl,rfl,trivial⟩
 obtain⟨x47',hL,hRl53⟩:=aO hF
 refine gY (fun k a w=>∃(x40:List Rat),∃(x46:Int),gC K a5 x22 v27 v30 k x40 x46=some x47'∧x40.length=x22.length∧hs _ ([⟨some b32,1,44,4,1,(eQ v30)⟩,hO cQ b24 x22.length 44 x22.length x40,⟨some p0,1,151,3,1,([pI .i64 a2]++[pO b4 n6 c5]++[pO b9 n11 c10])⟩,hO (cH g14) b4 c5 24 n6 a3,hO cI b9 c10 3 n11 a4]++gO cQ 44 g14 a5) [(0,.vc (pP (some p0) 0)),(1,.vc (pI .i64 a0)),(2,.vc (pI .i64 a1)),(7,.vc (pO b24 x22.length x22.length)),(8,.vc (pP (some b32) 0)),(38,.vc (pI .i64 ((zC x22 (a5.getD v27 [])).length:Int))),(39,.vc (pI .i64 x46))] a w) K (fun a w ⟨_,_,hF,_,_⟩=>by cases hF) (fun k a w ⟨x40,x46,hF,q44,hh⟩=>gX ?_ hh) (fun a w hh=>⟨(zC x22 (a5.getD v27 [])),0,hL,(xP rfl),cO 5 [0,1,2,3,4] rfl rfl (by decide) (by exact⟨rfl,rfl,rfl,rfl,rfl,rfl,rfl,trivial⟩) hh⟩)
 rw [gC.eq_2] at hF
 refine aD (aE (aB (dQ rfl) ⟨rfl,rfl,trivial⟩ ?_))
 refine aC (aA (aD (bO rfl (fun h134=>?_) (fun h134=>?_))))
 ·have hF:=aT h134 hF
  refine aV (aA (aD (bN (aD (aE (aF ?_))))))
  refine bB ?_
  refine aC (aA ?_)
  obtain⟨v137,h138,hF⟩:=aO hF
  obtain⟨v139,h140,hF⟩:=aO hF
  obtain⟨v141,h142,hF⟩:=aO hF
  refine bP [0,0,0,0,12,28,0,124,255,511] 9 1 [.v (.vc (pO b24 x22.length x22.length)),.v (.vc (pI .i64 x46)),.v (.vc (pO b24 x22.length x22.length)),.v (.vc (pI .i64 x46)),.v (.vc (pE b24 x46 cQ.n 0)),.v (.va (eQ v137)),.v (.va (eQ v30)),.v (.va (eQ v139)),.v (.vc (pE b24 x46 cQ.n 0))] aR ⟨d0 (aL (.inl rfl)) ⟨rfl,trivial⟩,d0 (aL (.inl rfl)) ⟨rfl,trivial⟩,d0 (aL (.inl rfl)) ⟨rfl,trivial⟩,d0 (aL (.inl rfl)) ⟨rfl,trivial⟩,d0 (cE (C:=cQ) 1 rfl tyS24 rfl q44 (aN h138).1 (aN h138).2.1) ⟨rfl,rfl,trivial⟩,d0 (gA (k:=4) 1 rfl rfl h138 rfl (.agg tyA44) rfl) ⟨rfl,trivial⟩,d0 (bD 0 4 rfl rfl rfl rfl (.agg tyA44)) ⟨rfl,trivial⟩,d0 (aG rfl (wW h140) rfl) ⟨rfl,rfl,trivial⟩,d0 (cE (C:=cQ) 1 rfl tyS24 rfl q44 (aN h142).1 (aN h142).2.1) ⟨rfl,rfl,trivial⟩,trivial⟩ (fun bs136 G135=>?_)
  obtain⟨x143,h144,hF⟩:=aO hF
  refine aY (fL 1 rfl rfl h142 h144 tyA44.s) ⟨rfl,rfl,trivial⟩ ?_
  refine aC (bF (aA (aE ?_)))
  obtain⟨v146,h147,hF⟩:=aO hF
  refine aB (bI rfl h147) ⟨rfl,bC _ _,trivial⟩ ?_
  refine aF ?_
  refine aC ?_
  exact bG (fun a w hh=>⟨x143,v146,hF,(b0 h144 q44),cO 5 [0,1,2,3,4] rfl rfl (by decide) (by exact⟨rfl,rfl,rfl,rfl,rfl,rfl,rfl,trivial⟩) hh⟩)
 have hF:=aU h134 hF
 refine dE ?_
 obtain rfl:=bX hF
 exact mJ Jj54 ⟨x40,hRl53,q44,rfl,rfl⟩ 5 [1,2,3,4] rfl rfl ⟨rfl,rfl,rfl,rfl,trivial⟩
def oO (K:Nat):Option (cC×Int):=
 none
def nX (K:Nat) (x86:Int) (v90:Int×(List Nat)×(List Int)×(List (List Rat))) (x116:Int) (recl87:(List Nat)→(List Int)→(List (List Rat))→Int→Int→Int→Option (LR (cC×Int) Unit)) (x122:Int):Option (LR (cC×Int) Unit):=
 bif(decide (x122<0)) then(some (.ret ((⟨([]:List Rat),([]:List Rat),0⟩:cC),15))) else((bQ (x86+1)).bind fun v126=>recl87 v90.2.1 v90.2.2.1 v90.2.2.2 x122 x116 v126)
def fR (K:Nat) (v6:Int×(List Nat)×(List Int)×(List (List Rat))) (v90:Int×(List Nat)×(List Int)×(List (List Rat))) (x116:Int):Nat→Int→Int→Option Int
 |0,_,_=>none
 |k+1,x120,x121=>bif(decide (x121<(v90.2.1.length:Int))) then((dO v90.2.1 x121).bind fun v129=>(dO (v90.2.2.2.getD v129 []) x116).bind fun v133=>(s5 v133).bind fun v135=>bif(decide (0<v135)) then(bif(decide (x120<0)) then((bQ (x121+1)).bind fun v139=>fR K v6 v90 x116 k x121 v139) else((dO (v90.2.2.2.getD v129 []) x116).bind fun v141=>(dO v90.2.1 x120).bind fun v143=>(dO (v90.2.2.2.getD v143 []) x116).bind fun v145=>(iN K x121 v141 x120 v145 v6.1 v90.2.1 v90.2.2.1 v90.2.2.2).bind fun v147=>bif v147 then((bQ (x121+1)).bind fun v150=>fR K v6 v90 x116 k x121 v150) else((bQ (x121+1)).bind fun v152=>fR K v6 v90 x116 k x120 v152))) else((bQ (x121+1)).bind fun v154=>fR K v6 v90 x116 k x120 v154)) else(some x120)
def lE (K:Nat) (v6:Int×(List Nat)×(List Int)×(List (List Rat))) (x86:Int) (v90:Int×(List Nat)×(List Int)×(List (List Rat))) (recl87:(List Nat)→(List Int)→(List (List Rat))→Int→Int→Int→Option (LR (cC×Int) Unit)) (x116:Int):Option (LR (cC×Int) Unit):=
 (fR K v6 v90 x116 K (-1) 0).bind fun x122=>nX K x86 v90 x116 recl87 x122
def f0 (K:Nat) (a2:Int) (v6:Int×(List Nat)×(List Int)×(List (List Rat))):Nat→(List Nat)→(List Int)→(List (List Rat))→Int→Int→Int→Option (LR (cC×Int) Unit)
 |0,_,_,_,_,_,_=>none
 |k+1,x66,x72,x78,x84,x85,x86=>bif(x86==a2) then(some (.ret ((⟨([]:List Rat),([]:List Rat),0⟩:cC),16))) else((kY K x84 x85 v6.1 x66 x72 x78).bind fun v90=>(bQ (2*v6.1)).bind fun v105=>bif(v90.1==v105) then((hG K v6.1 v90.2.1 v90.2.2.1 v90.2.2.2).bind fun v108=>(bQ (x86+1)).bind fun v111=>some (.ret ((⟨v108.z,v108.w,v111⟩:cC),0))) else((bQ (v90.1+v6.1)).bind fun v113=>bif(decide (v6.1≤v90.1)) then((bQ (v90.1-v6.1)).bind fun v157=>lE K v6 x86 v90 (f0 K a2 v6 k) v157) else(lE K v6 x86 v90 (f0 K a2 v6 k) v113)))
def oP (K:Nat) (a2:Int) (v6:Int×(List Nat)×(List Int)×(List (List Rat))) (x40:Int):Option (cC×Int):=
 (bQ (2*v6.1)).bind fun v43=>(f0 K a2 v6 K v6.2.1 v6.2.2.1 v6.2.2.2 x40 v43 0).bind fun o=>match o with| .ret r=>some r| .go _=>oO K
def jK (K:Nat) (v6:Int×(List Nat)×(List Int)×(List (List Rat))) (v33:Rat):Nat→Int→Int→Option Int
 |0,_,_=>none
 |k+1,x38,x39=>bif(decide (x39<v6.1)) then((iN K x39 v33 x38 v33 v6.1 v6.2.1 v6.2.2.1 v6.2.2.2).bind fun v160=>bif v160 then((bQ (x39+1)).bind fun v163=>jK K v6 v33 k x39 v163) else((bQ (x39+1)).bind fun v165=>jK K v6 v33 k x38 v165)) else(some x38)
def qQ (K:Nat) (a0:List (List Rat)) (a1:List Rat) (a2:Int):Option (cC×Int):=
 (qW K a0 a1).bind fun v2=>bif(!v2) then(some ((⟨([]:List Rat),([]:List Rat),0⟩:cC),1)) else(bif(decide (a2<0)) then(some ((⟨([]:List Rat),([]:List Rat),0⟩:cC),1)) else((oY K a0 a1).bind fun v6=>(o6 K a1).bind fun v28=>bif(!v28) then((hG K v6.1 v6.2.1 v6.2.2.1 v6.2.2.2).bind fun v31=>some (v31,0)) else((wP 1 1).bind fun v33=>(jK K v6 v33 K 0 0).bind fun x40=>oP K a2 v6 x40)))
theorem wG {K:Nat} {a0:List (List Rat)} {a1:List Rat} {a2:Int} {r:cC×Int} (hF:qQ K a0 a1 a2=some r):Ct Tryz.prog 41 [.vc (pS (sH cQ) a0),.vc (pS cQ a1),.vc (pI .i64 a2)] (.t2 (.va (cC.enc r.1)) (.vc (pI .i64 r.2))):=by
 unfold qQ at hF
 refine a9 Tryz.func41 rfl (by kernel_rfl) Tryz.ntmps41 rfl (fun w0 M0=>?_)
 refine aD (aE (bJ rfl tyZ68q (fun b1=>?_)))
 refine aB (aL (.inr rfl)) ⟨bC _ _,trivial⟩ ?_
 refine aC (aA (aD (aD (aE (aF ?_)))))
 refine aF ?_
 obtain⟨v2,h3,hF⟩:=aO hF
 refine aB (aG rfl (wL h3) rfl) ⟨rfl,rfl,trivial⟩ ?_
 refine aB (lK rfl) ⟨rfl,trivial⟩ ?_
 refine aF ?_
 refine cU (fun h4=>?_) (fun h4=>?_)
 ·have hF:=aT h4 hF
  refine aJ ?_
  refine aJ ?_
  refine aB (bK rfl) ⟨rfl,dH _,trivial⟩ ?_
  refine aC (aA (kT rfl ?_))
  refine aD (aE (aB (fA (is:=[]) (xs:=[]) (ps:=[]) rfl tyB68q rfl rfl trivial rfl) trivial ?_))
  refine aY (dA 0 rfl rfl rfl tyA68.s) ⟨rfl,rfl,trivial⟩ ?_
  refine aB (aL (.inr rfl)) ⟨bC _ _,trivial⟩ ?_
  refine aC (aA (aX (aW ?_)))
  obtain rfl:=bX hF
  exact aI (.inl rfl) Tryz.results41 (bM 0 3 rfl rfl rfl rfl (.agg tyA68) (.tmp rfl .nil)) rfl rfl
 have hF:=aU h4 hF
 refine aZ (aL (.inl rfl)) ⟨rfl,trivial⟩ ?_
 refine aZ (dQ rfl) ⟨rfl,bC _ _,trivial⟩ ?_
 refine aB (bL rfl) ⟨rfl,rfl,trivial⟩ ?_
 refine aC (aA (bO rfl (fun h5=>?_) (fun h5=>?_)))
 ·have hF:=aT h5 hF
  refine aD (aE (aB (fA (is:=[]) (xs:=[]) (ps:=[]) rfl tyB68q rfl rfl trivial rfl) trivial ?_))
  refine aY (dA 0 rfl rfl rfl tyA68.s) ⟨rfl,rfl,trivial⟩ ?_
  refine aB (aL (.inr rfl)) ⟨bC _ _,trivial⟩ ?_
  refine aC (aA (aX (aW ?_)))
  obtain rfl:=bX hF
  exact aI (.inl rfl) Tryz.results41 (bM 0 3 rfl rfl rfl rfl (.agg tyA68) (.tmp rfl .nil)) rfl rfl
 have hF:=aU h5 hF
 refine aV (aA (aD (aE (aF ?_))))
 refine aF ?_
 obtain⟨v6,h7,hF⟩:=aO hF
 refine zH [] [0] rfl (tU h7) ⟨rfl,rfl,trivial⟩ rfl rfl (by decide) ?_
 rintro _ _ ⟨b8,b12,c13,n14,b17,c18,n19,g22,N23,q15,q20,q24,q25,q26,rfl,rfl⟩
 refine pJ (nD [⟨some b8,1,151,3,1,([pI .i64 v6.1]++[pO b12 n14 c13]++[pO b17 n19 c18])⟩,hO (cH g22) b12 c13 24 n14 v6.2.1,hO cI b17 c18 3 n19 v6.2.2.1] (gO cQ 44 g22 v6.2.2.2) [⟨some b1,1,68,3,1,([pS cQ ([]:List Rat)]++[pS cQ ([]:List Rat)]++[pI .i64 0])⟩]) ?_
 refine bB ?_
 refine aC (aA (aD (aD (aE (aF ?_)))))
 obtain⟨v28,h29,hF⟩:=aO hF
 refine aB (aG rfl (uL h29) rfl) ⟨rfl,trivial⟩ ?_
 refine aB (lK rfl) ⟨rfl,trivial⟩ ?_
 refine aC (aA (bO rfl (fun h30=>?_) (fun h30=>?_)))
 ·have hF:=aT h30 hF
  refine aD (aE (aF ?_))
  obtain⟨v31,h32,hF⟩:=aO hF
  refine zJ 4 [0,1,2] [3] rfl (m9 h32 q15 q20 q24 q25 q26) ⟨rfl,trivial⟩ rfl rfl rfl (by decide) ?_
  rintro _ _ ⟨rfl,rfl⟩
  refine pJ (nD [⟨some b8,1,151,3,1,([pI .i64 v6.1]++[pO b12 n14 c13]++[pO b17 n19 c18])⟩,hO (cH g22) b12 c13 24 n14 v6.2.1,hO cI b17 c18 3 n19 v6.2.2.1] (gO cQ 44 g22 v6.2.2.2) [⟨some b1,1,68,3,1,([pS cQ ([]:List Rat)]++[pS cQ ([]:List Rat)]++[pI .i64 0])⟩]) ?_
  refine aY (dA 3 rfl rfl rfl tyA68.s) ⟨rfl,rfl,trivial⟩ ?_
  refine aB (aL (.inr rfl)) ⟨bC _ _,trivial⟩ ?_
  refine aC (aA (aX (aW ?_)))
  obtain rfl:=bX hF
  exact aI (.inl rfl) Tryz.results41 (bM 3 3 rfl rfl rfl rfl (.agg tyA68) (.tmp rfl .nil)) rfl rfl
 have hF:=aU h30 hF
 refine aV (aA (aD (aE ?_)))
 obtain⟨v33,h34,hF⟩:=aO hF
 refine aB (aG rfl (t7 h34) rfl) ⟨bC _ _,bC _ _,trivial⟩ ?_
 refine bJ rfl tyZ44q (fun b35=>?_)
 refine aY (dA 0 rfl rfl rfl tyA44.s) ⟨rfl,rfl,trivial⟩ ?_
 refine aC (aA (aD (aE (aB (aL (.inr rfl)) ⟨bC _ _,trivial⟩ ?_))))
 refine aC (aA (aD (aD (aE (aF ?_)))))
 refine aB (lW rfl) ⟨rfl,trivial⟩ ?_
 refine aB (a8 (off:=0) (k:=0) rfl tyF151_0) ⟨rfl,trivial⟩ ?_
 refine aB (bD 1 1 rfl rfl rfl rfl (.one tyO3)) ⟨rfl,trivial⟩ ?_
 refine aB (aL (.inl rfl)) ⟨bC _ _,trivial⟩ ?_
 refine aC (aA (bN (cL (fun H E=>∃(x40:Int),oP K a2 v6 x40=some r∧H=([⟨some b8,1,151,3,1,([pI .i64 v6.1]++[pO b12 n14 c13]++[pO b17 n19 c18])⟩,hO (cH g22) b12 c13 24 n14 v6.2.1,hO cI b17 c18 3 n19 v6.2.2.1,⟨some b1,1,68,3,1,([pS cQ ([]:List Rat)]++[pS cQ ([]:List Rat)]++[pI .i64 0])⟩]++gO cQ 44 g22 v6.2.2.2)∧E=[(2,.vc (pI .i64 a2)),(6,.vc (pP (some b1) 0)),(8,.vc (pP (some b8) 0)),(10,.vc (pI .i64 x40))]) ?_ (fun Jj42=>?_))))
 ·rintro _ _ ⟨x40,hF,rfl,rfl⟩
  unfold oP at hF
  refine aA (aD (aE (aF ?_)))
  refine aB (lW rfl) ⟨rfl,trivial⟩ ?_
  refine aB (a8 (off:=0) (k:=0) rfl tyF151_0) ⟨rfl,trivial⟩ ?_
  refine aB (bD 0 1 rfl rfl rfl rfl (.one tyO3)) ⟨rfl,trivial⟩ ?_
  obtain⟨v43,h44,hF⟩:=aO hF
  refine aB (lL rfl h44) ⟨bC _ _,rfl,trivial⟩ ?_
  refine bB ?_
  refine aC (aA (aD (aE (aB (aL (.inr rfl)) ⟨bC _ _,trivial⟩ ?_))))
  refine aC (aA (bN (cL (fun H E=>oO K=some r∧H=[]∧E=[]) ?_ (fun Jj88=>?_))))
  ·rintro _ _ ⟨hF,rfl,rfl⟩
   unfold oO at hF
   cases hF
  obtain⟨ol87,hL,hRl87⟩:=aO hF
  refine gY (fun k a w=>∃(x66:List Nat),∃(x72:List Int),∃(x78:List (List Rat)),∃(x84:Int),∃(x85:Int),∃(x86:Int),∃(b67:Option Nat),∃(c68:Nat),∃(n69:Nat),∃(g79:List rY),∃(N80:Nat),f0 K a2 v6 k x66 x72 x78 x84 x85 x86=some ol87∧x66.length=n69∧x72.length=n19∧x78.length=N80∧jW g79 x78∧(∀k∈x66,k<N80)∧hs _ ([⟨some b8,1,151,3,1,([pI .i64 v6.1]++[pO b67 n69 c68]++[pO b17 n19 c18])⟩,hO (cH g79) b67 c68 24 n69 x66,hO cI b17 c18 3 n19 x72,⟨some b1,1,68,3,1,([pS cQ ([]:List Rat)]++[pS cQ ([]:List Rat)]++[pI .i64 0])⟩]++gO cQ 44 g79 x78) [(2,.vc (pI .i64 a2)),(6,.vc (pP (some b1) 0)),(8,.vc (pP (some b8) 0)),(10,.vc (pI .i64 x84)),(12,.vc (pI .i64 x85)),(13,.vc (pI .i64 x86))] a w) K (fun a w ⟨_,_,_,_,_,_,_,_,_,_,_,hF,_,_,_,_,_,_⟩=>by cases hF) (fun k a w ⟨x66,x72,x78,x84,x85,x86,b67,c68,n69,g79,N80,hF,q70,q76,q81,q82,q83,hh⟩=>gX ?_ hh) (fun a w hh=>⟨v6.2.1,v6.2.2.1,v6.2.2.2,x40,v43,0,b12,c13,n14,g22,N23,hL,q15,q20,q24,q25,q26,cO 4 [0,1,2,3] rfl rfl (by decide) (by exact⟨rfl,rfl,rfl,rfl,rfl,rfl,trivial⟩) hh⟩)
  rw [f0.eq_2] at hF
  refine aD (bN (aD (aD (aE (aF ?_)))))
  refine aF ?_
  refine aB (iJ rfl) ⟨rfl,rfl,trivial⟩ ?_
  refine aC (aA (bO rfl (fun h89=>?_) (fun h89=>?_)))
  ·have hF:=aT h89 hF
   refine aD (aE (aB (fA (is:=[]) (xs:=[]) (ps:=[]) rfl tyB68q rfl rfl trivial rfl) trivial ?_))
   refine aY (dA 3 rfl rfl rfl tyA68.s) ⟨rfl,rfl,trivial⟩ ?_
   refine aB (aL (.inr rfl)) ⟨bC _ _,trivial⟩ ?_
   refine aC (aA (aX (aW ?_)))
   obtain rfl:=bX hF
   obtain rfl:=bX hRl87
   exact aI (.inl rfl) Tryz.results41 (bM 3 3 rfl rfl rfl rfl (.agg tyA68) (.tmp rfl .nil)) rfl rfl
  have hF:=aU h89 hF
  refine aV (aA (aD (aE (aF ?_))))
  refine aF ?_
  refine aF ?_
  obtain⟨v90,h91,hF⟩:=aO hF
  refine zJ 4 [0,1,2] [3] rfl (rN h91 q70 q76 q81 q82 q83) ⟨rfl,rfl,rfl,trivial⟩ rfl rfl rfl (by decide) ?_
  rintro _ _ ⟨b92,c93,n94,g99,N100,q95,q97,q101,q102,q103,rfl,rfl⟩
  refine pJ (nD [⟨some b8,1,151,3,1,([pI .i64 v6.1]++[pO b92 n94 c93]++[pO b17 n19 c18])⟩,hO (cH g99) b92 c93 24 n94 v90.2.1,hO cI b17 c18 3 n19 v90.2.2.1] (gO cQ 44 g99 v90.2.2.2) [⟨some b1,1,68,3,1,([pS cQ ([]:List Rat)]++[pS cQ ([]:List Rat)]++[pI .i64 0])⟩]) ?_
  refine bB ?_
  refine aC (aA (aD (aD (aE (aF ?_)))))
  refine aF ?_
  refine aB (lW rfl) ⟨rfl,trivial⟩ ?_
  refine aB (a8 (off:=0) (k:=0) rfl tyF151_0) ⟨rfl,trivial⟩ ?_
  refine aB (bD 0 1 rfl rfl rfl rfl (.one tyO3)) ⟨rfl,trivial⟩ ?_
  obtain⟨v105,h106,hF⟩:=aO hF
  refine aB (lL rfl h106) ⟨bC _ _,rfl,trivial⟩ ?_
  refine aB (iJ rfl) ⟨rfl,rfl,trivial⟩ ?_
  refine aC (aA (bO rfl (fun h107=>?_) (fun h107=>?_)))
  ·have hF:=aT h107 hF
   refine aD (aE (aF ?_))
   obtain⟨v108,h109,hF⟩:=aO hF
   refine zJ 4 [0,1,2] [3] rfl (m9 h109 q95 q97 q101 q102 q103) ⟨rfl,trivial⟩ rfl rfl rfl (by decide) ?_
   rintro _ _ ⟨rfl,rfl⟩
   refine pJ (nD [⟨some b8,1,151,3,1,([pI .i64 v6.1]++[pO b92 n94 c93]++[pO b17 n19 c18])⟩,hO (cH g99) b92 c93 24 n94 v90.2.1,hO cI b17 c18 3 n19 v90.2.2.1] (gO cQ 44 g99 v90.2.2.2) [⟨some b1,1,68,3,1,([pS cQ ([]:List Rat)]++[pS cQ ([]:List Rat)]++[pI .i64 0])⟩]) ?_
   refine bJ rfl tyZ68q (fun b110=>?_)
   refine aY (dA 0 rfl rfl rfl tyA68.s) ⟨rfl,rfl,trivial⟩ ?_
   refine aC (aA (aD (aE (aF ?_))))
   obtain⟨v111,h112,hF⟩:=aO hF
   refine aB (bI rfl h112) ⟨rfl,bC _ _,trivial⟩ ?_
   refine aB (a8 (off:=0) (k:=2) rfl tyF68_2) ⟨rfl,trivial⟩ ?_
   refine aY (dA 0 rfl rfl rfl tyO3.s) ⟨rfl,rfl,trivial⟩ ?_
   refine aC (aA (aD (aE (aB (bD 0 3 rfl rfl rfl rfl (.agg tyA68)) ⟨rfl,trivial⟩ ?_))))
   refine aY (dA 4 rfl rfl rfl tyA68.s) ⟨rfl,rfl,trivial⟩ ?_
   refine aB (aL (.inr rfl)) ⟨bC _ _,trivial⟩ ?_
   refine aC (aA (aX (aW ?_)))
   obtain rfl:=bX hF
   obtain rfl:=bX hRl87
   exact aI (.inl rfl) Tryz.results41 (bM 4 3 rfl rfl rfl rfl (.agg tyA68) (.tmp rfl .nil)) rfl rfl
  have hF:=aU h107 hF
  refine aV (aA (aD (aE (aF ?_))))
  refine aF ?_
  refine aB (lW rfl) ⟨rfl,trivial⟩ ?_
  refine aB (a8 (off:=0) (k:=0) rfl tyF151_0) ⟨rfl,trivial⟩ ?_
  refine aB (bD 0 1 rfl rfl rfl rfl (.one tyO3)) ⟨rfl,trivial⟩ ?_
  obtain⟨v113,h114,hF⟩:=aO hF
  refine aB (bI rfl h114) ⟨rfl,rfl,trivial⟩ ?_
  refine bB ?_
  refine aC (aA (aD (rB (fun H E=>∃(x116:Int),lE K v6 x86 v90 (f0 K a2 v6 k) x116=some ol87∧H=([⟨some b8,1,151,3,1,([pI .i64 v6.1]++[pO b92 n94 c93]++[pO b17 n19 c18])⟩,hO (cH g99) b92 c93 24 n94 v90.2.1,hO cI b17 c18 3 n19 v90.2.2.1,⟨some b1,1,68,3,1,([pS cQ ([]:List Rat)]++[pS cQ ([]:List Rat)]++[pI .i64 0])⟩]++gO cQ 44 g99 v90.2.2.2)∧E=[(2,.vc (pI .i64 a2)),(6,.vc (pP (some b1) 0)),(8,.vc (pP (some b8) 0)),(12,.vc (pI .i64 x116)),(13,.vc (pI .i64 x86))]) ?_ (fun Jj117=>?_))))
  ·rintro _ _ ⟨x116,hF,rfl,rfl⟩
   unfold lE at hF
   refine aD (aE (aB (aL (.inr rfl)) ⟨bC _ _,trivial⟩ ?_))
   refine aC (aA (aD (aD (aE (aF ?_)))))
   refine aB (lW rfl) ⟨rfl,trivial⟩ ?_
   refine aB (a8 (off:=0) (k:=1) rfl tyF151_1) ⟨rfl,trivial⟩ ?_
   refine aB (bD 0 1 rfl rfl rfl rfl (.one tyO62)) ⟨rfl,trivial⟩ ?_
   refine aB (y0 (C:=(cH g99)) (xs:=v90.2.1) (T:=24) rfl tyS62 q95) ⟨rfl,trivial⟩ ?_
   refine aB (aL (.inl rfl)) ⟨bC _ _,trivial⟩ ?_
   refine aC (aA (bN (cL (fun H E=>∃(x122:Int),nX K x86 v90 x116 (f0 K a2 v6 k) x122=some ol87∧H=([⟨some b8,1,151,3,1,([pI .i64 v6.1]++[pO b92 n94 c93]++[pO b17 n19 c18])⟩,hO (cH g99) b92 c93 24 n94 v90.2.1,hO cI b17 c18 3 n19 v90.2.2.1,⟨some b1,1,68,3,1,([pS cQ ([]:List Rat)]++[pS cQ ([]:List Rat)]++[pI .i64 0])⟩]++gO cQ 44 g99 v90.2.2.2)∧E=[(2,.vc (pI .i64 a2)),(6,.vc (pP (some b1) 0)),(8,.vc (pP (some b8) 0)),(10,.vc (pI .i64 x122)),(12,.vc (pI .i64 x116)),(13,.vc (pI .i64 x86))]) ?_ (fun Jj124=>?_))))
   ·rintro _ _ ⟨x122,hF,rfl,rfl⟩
    unfold nX at hF
    refine aA (aD (aE (aF ?_)))
    refine aB (dQ rfl) ⟨rfl,bC _ _,trivial⟩ ?_
    refine aC (aA (bO rfl (fun h125=>?_) (fun h125=>?_)))
    ·have hF:=aT h125 hF
     refine aD (aE (aB (fA (is:=[]) (xs:=[]) (ps:=[]) rfl tyB68q rfl rfl trivial rfl) trivial ?_))
     refine aY (dA 3 rfl rfl rfl tyA68.s) ⟨rfl,rfl,trivial⟩ ?_
     refine aB (aL (.inr rfl)) ⟨bC _ _,trivial⟩ ?_
     refine aC (aA (aX (aW ?_)))
     obtain rfl:=bX hF
     obtain rfl:=bX hRl87
     exact aI (.inl rfl) Tryz.results41 (bM 3 3 rfl rfl rfl rfl (.agg tyA68) (.tmp rfl .nil)) rfl rfl
    have hF:=aU h125 hF
    refine aV (bF (aA (aE (aF ?_))))
    obtain⟨v126,h127,hF⟩:=aO hF
    refine aB (bI rfl h127) ⟨rfl,bC _ _,trivial⟩ ?_
    refine bB ?_
    refine aC ?_
    exact bG (fun a w hh=>⟨v90.2.1,v90.2.2.1,v90.2.2.2,x122,x116,v126,b92,c93,n94,g99,N100,hF,q95,q97,q101,q102,q103,cO 4 [0,1,2,3] rfl rfl (by decide) (by exact⟨rfl,rfl,rfl,rfl,rfl,rfl,trivial⟩) hh⟩)
   obtain⟨x122',hL,hRl123⟩:=aO hF
   refine gY (fun k a w=>∃(x120:Int),∃(x121:Int),fR K v6 v90 x116 k x120 x121=some x122'∧hs _ ([⟨some b8,1,151,3,1,([pI .i64 v6.1]++[pO b92 n94 c93]++[pO b17 n19 c18])⟩,hO (cH g99) b92 c93 24 n94 v90.2.1,hO cI b17 c18 3 n19 v90.2.2.1,⟨some b1,1,68,3,1,([pS cQ ([]:List Rat)]++[pS cQ ([]:List Rat)]++[pI .i64 0])⟩]++gO cQ 44 g99 v90.2.2.2) [(2,.vc (pI .i64 a2)),(6,.vc (pP (some b1) 0)),(8,.vc (pP (some b8) 0)),(10,.vc (pI .i64 x120)),(12,.vc (pI .i64 x116)),(13,.vc (pI .i64 x86)),(100,.vc (pO b92 n94 c93)),(101,.vc (pI .i64 (v90.2.1.length:Int))),(102,.vc (pI .i64 x121))] a w) K (fun a w ⟨_,_,hF,_⟩=>by cases hF) (fun k a w ⟨x120,x121,hF,hh⟩=>gX ?_ hh) (fun a w hh=>⟨(-1),0,hL,cO 4 [0,1,2,3] rfl rfl (by decide) (by exact⟨rfl,rfl,rfl,rfl,rfl,rfl,rfl,rfl,rfl,trivial⟩) hh⟩)
   rw [fR.eq_2] at hF
   refine aD (aE (aB (dQ rfl) ⟨rfl,rfl,trivial⟩ ?_))
   refine aC (aA (aD (bO rfl (fun h128=>?_) (fun h128=>?_))))
   ·have hF:=aT h128 hF
    refine aV (aA (aD (bN (aD (aE (aF ?_))))))
    obtain⟨v129,h130,hF⟩:=aO hF
    refine aB (cE (C:=(cH g99)) 1 rfl tyS62 rfl q95 (aN h130).1 (aN h130).2.1) ⟨rfl,rfl,trivial⟩ ?_
    refine aB (gA (C:=(cH g99)) (k:=1) 1 rfl rfl h130 rfl (.one tyO24) rfl) ⟨rfl,trivial⟩ ?_
    refine bB ?_
    refine bB ?_
    refine aC (aA (aD ?_))
    obtain⟨v133,h134,hF⟩:=aO hF
    obtain⟨v135,h136,hF⟩:=aO hF
    rcases Bool.eq_false_or_eq_true (decide (0<v135)) with h137|h137
    ·have hF:=aT h137 hF
     rcases Bool.eq_false_or_eq_true (decide (x120<0)) with h138|h138
     ·have hF:=aT h138 hF
      refine bP (0::0::3::7::15::31::63::127::255::511::1023::1023::1023::1023::13311::29695::1023::1023::132095::394239::918527::1023::4064255::8258559::1023::33424383::66978815::134217727::268435455::536870911::[]) 27 3 (.v (.vc (pO (iC g99 v129).1 (iC g99 v129).2.1 (iC g99 v129).2.2))::.v (.vc (pI .i64 x116))::.v (.vc (pE (iC g99 v129).1 x116 cQ.n 0))::.v (.va (eQ v133))::.v (.vc (pI .i64 v135))::.v (.vc (pB (decide (0<v135))))::.v (.vc (pB true))::.v (.vc (pI .i64 x120))::.v (.vc (pB (decide (x120<0))))::.v (.vc (pB true))::.v .un::.v .un::.v .un::.v .un::.v .un::.v .un::.v .un::.v .un::.v .un::.v .un::.v .un::.v .un::.v .un::.v .un::.v .un::.v .un::.v .un::[]) aR ⟨d0 (aL (.inl rfl)) ⟨rfl,trivial⟩,d0 (aL (.inl rfl)) ⟨rfl,trivial⟩,d0 (cE (4+v129) rfl tyS24 (iY 4 rfl q102 q101 (q103 _ (bW h130))) (kD q102 q101 (q103 _ (bW h130))) (aN h134).1 (aN h134).2.1) ⟨rfl,rfl,trivial⟩,d0 (gA (k:=4) (4+v129) rfl (iY 4 rfl q102 q101 (q103 _ (bW h130))) h134 rfl (.agg tyA44) rfl) ⟨rfl,trivial⟩,d0 (aG rfl (gF h136) rfl) ⟨rfl,trivial⟩,d0 (p8 rfl) ⟨rfl,bC _ _,trivial⟩,d0 (cW (aL (.inl rfl)) h137) ⟨rfl,trivial⟩,g0 (aL (.inl rfl)) ⟨rfl,trivial⟩,g0 (dQ rfl) ⟨rfl,bC _ _,trivial⟩,g0 (cW (aL (.inl rfl)) h138) ⟨rfl,trivial⟩,⟨rfl,.skipN⟩,⟨rfl,.skipN⟩,⟨rfl,.skipN⟩,⟨rfl,.skipN⟩,⟨rfl,.skipN⟩,⟨rfl,.skipN⟩,⟨rfl,.skipN⟩,⟨rfl,.skipN⟩,⟨rfl,.skipN⟩,⟨rfl,.skipN⟩,⟨rfl,.skipN⟩,⟨rfl,.skipN⟩,⟨rfl,.skipN⟩,⟨rfl,.skipN⟩,⟨rfl,.skipN⟩,⟨rfl,.skipN⟩,⟨rfl,.skipN⟩,trivial⟩ (fun bs132 G131=>?_)
      refine aJ ?_
      refine aZ (bK rfl) ⟨rfl,dH _,trivial⟩ ?_
      refine aB (bK rfl) ⟨rfl,rfl,trivial⟩ ?_
      refine aC (aA (kT rfl ?_))
      refine aE (aF ?_)
      refine bB ?_
      refine aC (bF (aA (aE ?_)))
      obtain⟨v139,h140,hF⟩:=aO hF
      refine aB (bI rfl h140) ⟨rfl,bC _ _,trivial⟩ ?_
      refine aF ?_
      refine aC ?_
      exact bG (fun a w hh=>⟨x121,v139,hF,cO 4 [0,1,2,3] rfl rfl (by decide) (by exact⟨rfl,rfl,rfl,rfl,rfl,rfl,rfl,rfl,rfl,trivial⟩) hh⟩)
     have hF:=aU h138 hF
     obtain⟨v141,h142,hF⟩:=aO hF
     obtain⟨v143,h144,hF⟩:=aO hF
     obtain⟨v145,h146,hF⟩:=aO hF
     refine bP (0::0::3::7::15::31::63::127::255::511::1023::1023::1023::1023::13311::29695::1023::1023::132095::394239::918527::1023::4064255::8258559::1023::33424383::66978815::134217727::268435455::536870911::[]) 27 3 (.v (.vc (pO (iC g99 v129).1 (iC g99 v129).2.1 (iC g99 v129).2.2))::.v (.vc (pI .i64 x116))::.v (.vc (pE (iC g99 v129).1 x116 cQ.n 0))::.v (.va (eQ v133))::.v (.vc (pI .i64 v135))::.v (.vc (pB (decide (0<v135))))::.v (.vc (pB true))::.v (.vc (pI .i64 x120))::.v (.vc (pB (decide (x120<0))))::.v (.vc (pB false))::.v (.vc (pP (some b8) 0))::.v (.vc (pI .i64 x121))::.v (.vc (pO (iC g99 v129).1 (iC g99 v129).2.1 (iC g99 v129).2.2))::.v (.vc (pI .i64 x116))::.v (.vc (pE (iC g99 v129).1 x116 cQ.n 0))::.v (.va (eQ v141))::.v (.vc (pI .i64 x120))::.v (.vc (pP (some b8) 0))::.v (.vc (pP (some b8) 0))::.v (.vc (pP (some b8) 1))::.v (.vc (pO b92 n94 c93))::.v (.vc (pI .i64 x120))::.v (.vc (pE b92 x120 (cH g99).n 0))::.v (.vc (pO (iC g99 v143).1 (iC g99 v143).2.1 (iC g99 v143).2.2))::.v (.vc (pI .i64 x116))::.v (.vc (pE (iC g99 v143).1 x116 cQ.n 0))::.v (.va (eQ v145))::[]) aR ⟨d0 (aL (.inl rfl)) ⟨rfl,trivial⟩,d0 (aL (.inl rfl)) ⟨rfl,trivial⟩,d0 (cE (4+v129) rfl tyS24 (iY 4 rfl q102 q101 (q103 _ (bW h130))) (kD q102 q101 (q103 _ (bW h130))) (aN h134).1 (aN h134).2.1) ⟨rfl,rfl,trivial⟩,d0 (gA (k:=4) (4+v129) rfl (iY 4 rfl q102 q101 (q103 _ (bW h130))) h134 rfl (.agg tyA44) rfl) ⟨rfl,trivial⟩,d0 (aG rfl (gF h136) rfl) ⟨rfl,trivial⟩,d0 (p8 rfl) ⟨rfl,bC _ _,trivial⟩,d0 (cW (aL (.inl rfl)) h137) ⟨rfl,trivial⟩,g0 (aL (.inl rfl)) ⟨rfl,trivial⟩,g0 (dQ rfl) ⟨rfl,bC _ _,trivial⟩,g0 (cW (aL (.inl rfl)) h138) ⟨rfl,trivial⟩,g0 (aL (.inl rfl)) ⟨rfl,trivial⟩,g0 (aL (.inl rfl)) ⟨rfl,trivial⟩,g0 (aL (.inl rfl)) ⟨rfl,trivial⟩,g0 (aL (.inl rfl)) ⟨rfl,trivial⟩,g0 (cE (4+v129) rfl tyS24 (iY 4 rfl q102 q101 (q103 _ (bW h130))) (kD q102 q101 (q103 _ (bW h130))) (aN h142).1 (aN h142).2.1) ⟨rfl,rfl,trivial⟩,g0 (gA (k:=4) (4+v129) rfl (iY 4 rfl q102 q101 (q103 _ (bW h130))) h142 rfl (.agg tyA44) rfl) ⟨rfl,trivial⟩,g0 (aL (.inl rfl)) ⟨rfl,trivial⟩,g0 (aL (.inl rfl)) ⟨rfl,trivial⟩,g0 (lW rfl) ⟨rfl,trivial⟩,g0 (a8 (off:=0) (k:=1) rfl tyF151_1) ⟨rfl,trivial⟩,g0 (bD 0 1 rfl rfl rfl rfl (.one tyO62)) ⟨rfl,trivial⟩,g0 (aL (.inl rfl)) ⟨rfl,trivial⟩,g0 (cE (C:=(cH g99)) 1 rfl tyS62 rfl q95 (aN h144).1 (aN h144).2.1) ⟨rfl,rfl,trivial⟩,g0 (gA (C:=(cH g99)) (k:=1) 1 rfl rfl h144 rfl (.one tyO24) rfl) ⟨rfl,trivial⟩,g0 (aL (.inl rfl)) ⟨rfl,trivial⟩,g0 (cE (4+v143) rfl tyS24 (iY 4 rfl q102 q101 (q103 _ (bW h144))) (kD q102 q101 (q103 _ (bW h144))) (aN h146).1 (aN h146).2.1) ⟨rfl,rfl,trivial⟩,g0 (gA (k:=4) (4+v143) rfl (iY 4 rfl q102 q101 (q103 _ (bW h144))) h146 rfl (.agg tyA44) rfl) ⟨rfl,trivial⟩,trivial⟩ (fun bs132 G131=>?_)
     obtain⟨v147,h148,hF⟩:=aO hF
     refine aZ (aDU 4 [0,1,2] [3] [0,1,2,3] rfl (nW h148 q95 q97 q101 q102 q103) rfl rfl rfl rfl (by decide) (by decide) rfl) ⟨rfl,rfl,rfl,rfl,rfl,trivial⟩ ?_
     refine aZ (bL rfl) ⟨rfl,rfl,trivial⟩ ?_
     refine aB (bK rfl) ⟨rfl,rfl,trivial⟩ ?_
     refine aC (aA (bO rfl (fun h149=>?_) (fun h149=>?_)))
     ·have hF:=aT h149 hF
      refine aE (aF ?_)
      refine bB ?_
      refine aC (bF (aA (aE ?_)))
      obtain⟨v150,h151,hF⟩:=aO hF
      refine aB (bI rfl h151) ⟨rfl,bC _ _,trivial⟩ ?_
      refine aF ?_
      refine aC ?_
      exact bG (fun a w hh=>⟨x121,v150,hF,cO 4 [0,1,2,3] rfl rfl (by decide) (by exact⟨rfl,rfl,rfl,rfl,rfl,rfl,rfl,rfl,rfl,trivial⟩) hh⟩)
     have hF:=aU h149 hF
     refine aV (bF (aA (aE ?_)))
     obtain⟨v152,h153,hF⟩:=aO hF
     refine aB (bI rfl h153) ⟨rfl,bC _ _,trivial⟩ ?_
     refine aF ?_
     refine aC ?_
     exact bG (fun a w hh=>⟨x120,v152,hF,cO 4 [0,1,2,3] rfl rfl (by decide) (by exact⟨rfl,rfl,rfl,rfl,rfl,rfl,rfl,rfl,rfl,trivial⟩) hh⟩)
    have hF:=aU h137 hF
    refine bP (0::0::3::7::15::31::63::127::255::511::1023::1023::1023::1023::13311::29695::1023::1023::132095::394239::918527::1023::4064255::8258559::1023::33424383::66978815::134217727::268435455::536870911::[]) 27 3 (.v (.vc (pO (iC g99 v129).1 (iC g99 v129).2.1 (iC g99 v129).2.2))::.v (.vc (pI .i64 x116))::.v (.vc (pE (iC g99 v129).1 x116 cQ.n 0))::.v (.va (eQ v133))::.v (.vc (pI .i64 v135))::.v (.vc (pB (decide (0<v135))))::.v (.vc (pB false))::.v .un::.v .un::.v .un::.v .un::.v .un::.v .un::.v .un::.v .un::.v .un::.v .un::.v .un::.v .un::.v .un::.v .un::.v .un::.v .un::.v .un::.v .un::.v .un::.v .un::[]) aR ⟨d0 (aL (.inl rfl)) ⟨rfl,trivial⟩,d0 (aL (.inl rfl)) ⟨rfl,trivial⟩,d0 (cE (4+v129) rfl tyS24 (iY 4 rfl q102 q101 (q103 _ (bW h130))) (kD q102 q101 (q103 _ (bW h130))) (aN h134).1 (aN h134).2.1) ⟨rfl,rfl,trivial⟩,d0 (gA (k:=4) (4+v129) rfl (iY 4 rfl q102 q101 (q103 _ (bW h130))) h134 rfl (.agg tyA44) rfl) ⟨rfl,trivial⟩,d0 (aG rfl (gF h136) rfl) ⟨rfl,trivial⟩,d0 (p8 rfl) ⟨rfl,bC _ _,trivial⟩,d0 (cW (aL (.inl rfl)) h137) ⟨rfl,trivial⟩,⟨rfl,.skipN⟩,⟨rfl,.skipN⟩,⟨rfl,.skipN⟩,⟨rfl,.skipU⟩,⟨rfl,.skipU⟩,⟨rfl,.skipU⟩,⟨rfl,.skipU⟩,⟨rfl,.skipU⟩,⟨rfl,.skipU⟩,⟨rfl,.skipU⟩,⟨rfl,.skipU⟩,⟨rfl,.skipU⟩,⟨rfl,.skipU⟩,⟨rfl,.skipU⟩,⟨rfl,.skipU⟩,⟨rfl,.skipU⟩,⟨rfl,.skipU⟩,⟨rfl,.skipU⟩,⟨rfl,.skipU⟩,⟨rfl,.skipU⟩,trivial⟩ (fun bs132 G131=>?_)
    refine rP ?_
    refine aJ ?_
    refine aB (bL rfl) ⟨rfl,dH _,trivial⟩ ?_
    refine aC (aA (qG rfl ?_))
    refine aV (bF (aA (aE ?_)))
    obtain⟨v154,h155,hF⟩:=aO hF
    refine aB (bI rfl h155) ⟨rfl,bC _ _,trivial⟩ ?_
    refine aF ?_
    refine aC ?_
    exact bG (fun a w hh=>⟨x120,v154,hF,cO 4 [0,1,2,3] rfl rfl (by decide) (by exact⟨rfl,rfl,rfl,rfl,rfl,rfl,rfl,rfl,rfl,trivial⟩) hh⟩)
   have hF:=aU h128 hF
   refine dE ?_
   obtain rfl:=bX hF
   exact mJ Jj124 ⟨x120,hRl123,rfl,rfl⟩ 4 [0,1,2,3] rfl rfl ⟨rfl,rfl,rfl,rfl,rfl,rfl,trivial⟩
  refine aD (aE (aF ?_))
  refine aF ?_
  refine aB (lW rfl) ⟨rfl,trivial⟩ ?_
  refine aB (a8 (off:=0) (k:=0) rfl tyF151_0) ⟨rfl,trivial⟩ ?_
  refine aB (bD 0 1 rfl rfl rfl rfl (.one tyO3)) ⟨rfl,trivial⟩ ?_
  refine aB (sB rfl) ⟨rfl,rfl,trivial⟩ ?_
  refine aC (aA (bO rfl (fun h156=>?_) (fun h156=>?_)))
  ·have hF:=aT h156 hF
   refine aE (aF ?_)
   refine aF ?_
   refine aB (lW rfl) ⟨rfl,trivial⟩ ?_
   refine aB (a8 (off:=0) (k:=0) rfl tyF151_0) ⟨rfl,trivial⟩ ?_
   refine aB (bD 0 1 rfl rfl rfl rfl (.one tyO3)) ⟨rfl,trivial⟩ ?_
   obtain⟨v157,h158,hF⟩:=aO hF
   refine aB (fH rfl h158) ⟨rfl,rfl,trivial⟩ ?_
   refine bB ?_
   refine aC ?_
   exact mJ Jj117 ⟨v157,hF,rfl,rfl⟩ 4 [0,1,2,3] rfl rfl ⟨rfl,rfl,rfl,rfl,rfl,trivial⟩
  have hF:=aU h156 hF
  refine aV ?_
  exact mJ Jj117 ⟨v113,hF,rfl,rfl⟩ 4 [0,1,2,3] rfl rfl ⟨rfl,rfl,rfl,rfl,rfl,trivial⟩
 obtain⟨x40',hL,hRl41⟩:=aO hF
 refine gY (fun k a w=>∃(x38:Int),∃(x39:Int),jK K v6 v33 k x38 x39=some x40'∧hs _ ([⟨some b35,1,44,4,1,(eQ v33)⟩,⟨some b8,1,151,3,1,([pI .i64 v6.1]++[pO b12 n14 c13]++[pO b17 n19 c18])⟩,hO (cH g22) b12 c13 24 n14 v6.2.1,hO cI b17 c18 3 n19 v6.2.2.1,⟨some b1,1,68,3,1,([pS cQ ([]:List Rat)]++[pS cQ ([]:List Rat)]++[pI .i64 0])⟩]++gO cQ 44 g22 v6.2.2.2) [(2,.vc (pI .i64 a2)),(6,.vc (pP (some b1) 0)),(8,.vc (pP (some b8) 0)),(9,.vc (pP (some b35) 0)),(10,.vc (pI .i64 x38)),(39,.vc (pI .i64 v6.1)),(40,.vc (pI .i64 x39))] a w) K (fun a w ⟨_,_,hF,_⟩=>by cases hF) (fun k a w ⟨x38,x39,hF,hh⟩=>gX ?_ hh) (fun a w hh=>⟨0,0,hL,cO 5 [0,1,2,3,4] rfl rfl (by decide) (by exact⟨rfl,rfl,rfl,rfl,rfl,rfl,rfl,trivial⟩) hh⟩)
 rw [jK.eq_2] at hF
 refine aD (aE (aB (dQ rfl) ⟨rfl,rfl,trivial⟩ ?_))
 refine aC (aA (aD (bO rfl (fun h159=>?_) (fun h159=>?_))))
 ·have hF:=aT h159 hF
  refine aV (aA (aD (bN (aD (aE (aF ?_))))))
  refine bB ?_
  refine aC (aA (aD (aE (aF ?_))))
  refine aF ?_
  refine aB (bD 0 4 rfl rfl rfl rfl (.agg tyA44)) ⟨rfl,trivial⟩ ?_
  refine aF ?_
  refine aB (bD 0 4 rfl rfl rfl rfl (.agg tyA44)) ⟨rfl,trivial⟩ ?_
  obtain⟨v160,h161,hF⟩:=aO hF
  refine zJ 5 [1,2,3] [0,4] rfl (nW h161 q15 q20 q24 q25 q26) ⟨rfl,rfl,rfl,rfl,rfl,trivial⟩ rfl rfl rfl (by decide) ?_
  rintro _ _ ⟨rfl,rfl⟩
  refine pJ (nD [⟨some b8,1,151,3,1,([pI .i64 v6.1]++[pO b12 n14 c13]++[pO b17 n19 c18])⟩,hO (cH g22) b12 c13 24 n14 v6.2.1,hO cI b17 c18 3 n19 v6.2.2.1] (gO cQ 44 g22 v6.2.2.2) [⟨some b35,1,44,4,1,(eQ v33)⟩,⟨some b1,1,68,3,1,([pS cQ ([]:List Rat)]++[pS cQ ([]:List Rat)]++[pI .i64 0])⟩]) ?_
  refine aC (aA (bO rfl (fun h162=>?_) (fun h162=>?_)))
  ·have hF:=aT h162 hF
   refine aE (aF ?_)
   refine bB ?_
   refine aC (bF (aA (aE ?_)))
   obtain⟨v163,h164,hF⟩:=aO hF
   refine aB (bI rfl h164) ⟨rfl,bC _ _,trivial⟩ ?_
   refine aF ?_
   refine aC ?_
   exact bG (fun a w hh=>⟨x39,v163,hF,cO 5 [3,0,1,2,4] rfl rfl (by decide) (by exact⟨rfl,rfl,rfl,rfl,rfl,rfl,rfl,trivial⟩) hh⟩)
  have hF:=aU h162 hF
  refine aV (bF (aA (aE ?_)))
  obtain⟨v165,h166,hF⟩:=aO hF
  refine aB (bI rfl h166) ⟨rfl,bC _ _,trivial⟩ ?_
  refine aF ?_
  refine aC ?_
  exact bG (fun a w hh=>⟨x38,v165,hF,cO 5 [3,0,1,2,4] rfl rfl (by decide) (by exact⟨rfl,rfl,rfl,rfl,rfl,rfl,rfl,trivial⟩) hh⟩)
 have hF:=aU h159 hF
 refine dE ?_
 obtain rfl:=bX hF
 exact mJ Jj42 ⟨x38,hRl41,rfl,rfl⟩ 5 [1,2,3,4] rfl rfl ⟨rfl,rfl,rfl,rfl,trivial⟩
def mS (K:Nat):Option Int:=
 some (-1)
def kF (K:Nat) (a0:List Rat) (a1:(Rat→Option Bool)):Nat→Int→Option (LR Int Unit)
 |0,_=>none
 |k+1,x2=>bif(decide (x2<(a0.length:Int))) then((dO a0 x2).bind fun v6=>(a1 v6).bind fun v8=>bif v8 then(some (.ret x2)) else((bQ (x2+1)).bind fun v11=>kF K a0 a1 k v11)) else(some (.go ()))
def oF (K:Nat) (a0:List Rat) (a1:(Rat→Option Bool)):Option Int:=
 (kF K a0 a1 K 0).bind fun o=>match o with| .ret r=>some r| .go _=>mS K
theorem tP {K:Nat} {a0:List Rat} {a1:(Rat→Option Bool)} {r:Int} (hF:oF K a0 a1=some r):Ct Tryz.prog 222 [.vc (pS cQ a0),.vc (pFn Tryz.prog (fun x:Rat=>[.va (eQ x)]) (fun r:Bool=>.vc (pB r)) a1)] (.vc (pI .i64 r)):=by
 unfold oF at hF
 refine a9 Tryz.func222 rfl (by kernel_rfl) Tryz.ntmps222 rfl (fun w0 M0=>?_)
 refine aD (aE (aB (aL (.inr rfl)) ⟨bC _ _,trivial⟩ ?_))
 refine aC (aA (aD (aD (aE (aF ?_)))))
 refine aB (bZ rfl tyS24) ⟨rfl,trivial⟩ ?_
 refine aB (aL (.inl rfl)) ⟨bC _ _,trivial⟩ ?_
 refine aC (aA (bN (cL (fun H E=>mS K=some r∧H=[]∧E=[]) ?_ (fun Jj4=>?_))))
 ·rintro _ _ ⟨hF,rfl,rfl⟩
  unfold mS at hF
  refine aA (aD (aE (aB (aL (.inr rfl)) ⟨bC _ _,trivial⟩ ?_)))
  refine aC (aA (aX (aW ?_)))
  obtain rfl:=bX hF
  exact aI (.inl rfl) Tryz.results222 (.tmp rfl .nil) rfl rfl
 obtain⟨ol3,hL,hRl3⟩:=aO hF
 refine gY (fun k a w=>∃(x2:Int),kF K a0 a1 k x2=some ol3∧hs _ [] [(0,.vc (pS cQ a0)),(1,.vc (pFn Tryz.prog (fun x:Rat=>[.va (eQ x)]) (fun r:Bool=>.vc (pB r)) a1)),(7,.vc (pI .i64 (a0.length:Int))),(8,.vc (pI .i64 x2))] a w) K (fun a w ⟨_,hF,_⟩=>by cases hF) (fun k a w ⟨x2,hF,hh⟩=>gX ?_ hh) (fun a w hh=>⟨0,hL,bA [] rfl (by decide) (by exact⟨rfl,rfl,rfl,rfl,trivial⟩) hh⟩)
 rw [kF.eq_2] at hF
 refine aD (aE (aB (dQ rfl) ⟨rfl,rfl,trivial⟩ ?_))
 refine aC (aA (aD (bO rfl (fun h5=>?_) (fun h5=>?_))))
 ·have hF:=aT h5 hF
  refine aV (aA (aD (bN (aD (aE (aF ?_))))))
  refine bB ?_
  refine aC (aA (aD (aE (aF ?_))))
  refine aF ?_
  refine aF ?_
  obtain⟨v6,h7,hF⟩:=aO hF
  refine aB (dX rfl tyS24 h7) ⟨rfl,rfl,trivial⟩ ?_
  refine aB (dM 4 rfl rfl (.agg tyA44)) ⟨rfl,trivial⟩ ?_
  obtain⟨v8,h9,hF⟩:=aO hF
  refine aB (xW (pre:=fun x:Rat=>[.va (eQ x)]) (post:=fun r:Bool=>.vc (pB r)) (x:=v6) (r:=v8) rfl h9 rfl) ⟨rfl,rfl,trivial⟩ ?_
  refine aC (aA (bO rfl (fun h10=>?_) (fun h10=>?_)))
  ·have hF:=aT h10 hF
   refine aD (aE (aF ?_))
   refine bB ?_
   refine aC (aA (aX (aW ?_)))
   obtain rfl:=bX hF
   obtain rfl:=bX hRl3
   exact aI (.inl rfl) Tryz.results222 (.tmp rfl .nil) rfl rfl
  have hF:=aU h10 hF
  refine aV (bF (aA (aE ?_)))
  obtain⟨v11,h12,hF⟩:=aO hF
  refine aB (bI rfl h12) ⟨rfl,bC _ _,trivial⟩ ?_
  refine aF ?_
  refine aC ?_
  exact bG (fun a w hh=>⟨v11,hF,bA [] rfl (by decide) (by exact⟨rfl,rfl,rfl,rfl,trivial⟩) hh⟩)
 have hF:=aU h5 hF
 refine dE ?_
 obtain rfl:=bX hF
 exact bS Jj4 ⟨hRl3,rfl,rfl⟩ [] rfl trivial
def mT (K:Nat) (a0:List Rat) (a1:(Rat→Option Bool)):Option Bool:=
 (oF K a0 a1).bind fun v1=>some (decide (0≤v1))
theorem sW {K:Nat} {a0:List Rat} {a1:(Rat→Option Bool)} {r:Bool} (hF:mT K a0 a1=some r):Ct Tryz.prog 161 [.vc (pS cQ a0),.vc (pFn Tryz.prog (fun x:Rat=>[.va (eQ x)]) (fun r:Bool=>.vc (pB r)) a1)] (.vc (pB r)):=by
 unfold mT at hF
 refine a9 Tryz.func161 rfl (by kernel_rfl) Tryz.ntmps161 rfl (fun w0 M0=>?_)
 refine aD (aE (aB (aL (.inr rfl)) ⟨dH _,trivial⟩ ?_))
 refine aC (aA (aD (aE (aF ?_))))
 refine aF ?_
 obtain⟨v1,h2,hF⟩:=aO hF
 refine aB (aG rfl (tP h2) rfl) ⟨rfl,rfl,trivial⟩ ?_
 refine aB (sB rfl) ⟨rfl,bC _ _,trivial⟩ ?_
 refine bB ?_
 refine aC (aA (aX (aW ?_)))
 obtain rfl:=bX hF
 exact aI (.inl rfl) Tryz.results161 (.tmp rfl .nil) rfl rfl
def q9 (a0:Rat):Option Bool:=
 (aBl a0).bind fun v2=>some (!v2)
theorem y8 {a0:Rat} {r:Bool} (hF:q9 a0=some r):Ct Tryz.prog 162 [.va (eQ a0)] (.vc (pB r)):=by
 unfold q9 at hF
 refine a9 Tryz.func162 rfl (by kernel_rfl) Tryz.ntmps162 rfl (fun w0 M0=>?_)
 refine aD (aE (cV rfl rfl trivial (fun b1=>?_)))
 refine aB (aL (.inr rfl)) ⟨dH _,trivial⟩ ?_
 refine aC (aA (aD (aE (aB (bD 0 4 rfl rfl rfl rfl (.agg tyA44)) ⟨rfl,trivial⟩ ?_))))
 obtain⟨v2,h3,hF⟩:=aO hF
 refine aB (aG rfl (nB h3) rfl) ⟨rfl,trivial⟩ ?_
 refine aB (lK rfl) ⟨rfl,trivial⟩ ?_
 refine bB ?_
 refine aC (aA (aX (aW ?_)))
 obtain rfl:=bX hF
 exact aI (.inl rfl) Tryz.results162 (.tmp rfl .nil) rfl rfl
def qZ (K:Nat) (a0:List Rat):Option Bool:=
 (mT K a0 (q9)).bind fun v1=>some (!v1)
theorem tG {K:Nat} {a0:List Rat} {r:Bool} (hF:qZ K a0=some r):Ct Tryz.prog 75 [.vc (pS cQ a0)] (.vc (pB r)):=by
 unfold qZ at hF
 refine a9 Tryz.func75 rfl (by kernel_rfl) Tryz.ntmps75 rfl (fun w0 M0=>?_)
 refine aD (aE (aB (aL (.inr rfl)) ⟨dH _,trivial⟩ ?_))
 refine aC (aA (aD (aE (aF ?_))))
 obtain⟨v1,h2,hF⟩:=aO hF
 refine aB (aG rfl (sW h2) rfl) ⟨rfl,(aFD (P:=Tryz.prog) (φ:=(q9)) (pre:=fun x:Rat=>[.va (eQ x)]) (post:=fun r:Bool=>.vc (pB r)) (fun x r h=>y8 h)),trivial⟩ ?_
 refine aB (lK rfl) ⟨rfl,trivial⟩ ?_
 refine bB ?_
 refine aC (aA (aX (aW ?_)))
 obtain rfl:=bX hF
 exact aI (.inl rfl) Tryz.results75 (.tmp rfl .nil) rfl rfl
def kC (K:Nat):Option Int:=
 some (-1)
def d7 (K:Nat) (a0:List aK) (a1:(aK→Option Bool)):Nat→Int→Option (LR Int Unit)
 |0,_=>none
 |k+1,x2=>bif(decide (x2<(a0.length:Int))) then((dO a0 x2).bind fun v6=>(a1 v6).bind fun v8=>bif v8 then(some (.ret x2)) else((bQ (x2+1)).bind fun v11=>d7 K a0 a1 k v11)) else(some (.go ()))
def jI (K:Nat) (a0:List aK) (a1:(aK→Option Bool)):Option Int:=
 (d7 K a0 a1 K 0).bind fun o=>match o with| .ret r=>some r| .go _=>kC K
theorem tV {K:Nat} {a0:List aK} {a1:(aK→Option Bool)} {r:Int} (hF:jI K a0 a1=some r):Ct Tryz.prog 178 [.vc (pS aK.cod a0),.vc (pFn Tryz.prog (fun x:aK=>[.va (aK.enc x)]) (fun r:Bool=>.vc (pB r)) a1)] (.vc (pI .i64 r)):=by
 unfold jI at hF
 refine a9 Tryz.func178 rfl (by kernel_rfl) Tryz.ntmps178 rfl (fun w0 M0=>?_)
 refine aD (aE (aB (aL (.inr rfl)) ⟨bC _ _,trivial⟩ ?_))
 refine aC (aA (aD (aD (aE (aF ?_)))))
 refine aB (bZ rfl tyS25) ⟨rfl,trivial⟩ ?_
 refine aB (aL (.inl rfl)) ⟨bC _ _,trivial⟩ ?_
 refine aC (aA (bN (cL (fun H E=>kC K=some r∧H=[]∧E=[]) ?_ (fun Jj4=>?_))))
 ·rintro _ _ ⟨hF,rfl,rfl⟩
  unfold kC at hF
  refine aA (aD (aE (aB (aL (.inr rfl)) ⟨bC _ _,trivial⟩ ?_)))
  refine aC (aA (aX (aW ?_)))
  obtain rfl:=bX hF
  exact aI (.inl rfl) Tryz.results178 (.tmp rfl .nil) rfl rfl
 obtain⟨ol3,hL,hRl3⟩:=aO hF
 refine gY (fun k a w=>∃(x2:Int),d7 K a0 a1 k x2=some ol3∧hs _ [] [(0,.vc (pS aK.cod a0)),(1,.vc (pFn Tryz.prog (fun x:aK=>[.va (aK.enc x)]) (fun r:Bool=>.vc (pB r)) a1)),(7,.vc (pI .i64 (a0.length:Int))),(8,.vc (pI .i64 x2))] a w) K (fun a w ⟨_,hF,_⟩=>by cases hF) (fun k a w ⟨x2,hF,hh⟩=>gX ?_ hh) (fun a w hh=>⟨0,hL,bA [] rfl (by decide) (by exact⟨rfl,rfl,rfl,rfl,trivial⟩) hh⟩)
 rw [d7.eq_2] at hF
 refine aD (aE (aB (dQ rfl) ⟨rfl,rfl,trivial⟩ ?_))
 refine aC (aA (aD (bO rfl (fun h5=>?_) (fun h5=>?_))))
 ·have hF:=aT h5 hF
  refine aV (aA (aD (bN (aD (aE (aF ?_))))))
  refine bB ?_
  refine aC (aA (aD (aE (aF ?_))))
  refine aF ?_
  refine aF ?_
  obtain⟨v6,h7,hF⟩:=aO hF
  refine aB (dX rfl tyS25 h7) ⟨rfl,rfl,trivial⟩ ?_
  refine aB (dM 18 rfl rfl (.agg tyA51)) ⟨rfl,trivial⟩ ?_
  obtain⟨v8,h9,hF⟩:=aO hF
  refine aB (xW (pre:=fun x:aK=>[.va (aK.enc x)]) (post:=fun r:Bool=>.vc (pB r)) (x:=v6) (r:=v8) rfl h9 rfl) ⟨rfl,rfl,trivial⟩ ?_
  refine aC (aA (bO rfl (fun h10=>?_) (fun h10=>?_)))
  ·have hF:=aT h10 hF
   refine aD (aE (aF ?_))
   refine bB ?_
   refine aC (aA (aX (aW ?_)))
   obtain rfl:=bX hF
   obtain rfl:=bX hRl3
   exact aI (.inl rfl) Tryz.results178 (.tmp rfl .nil) rfl rfl
  have hF:=aU h10 hF
  refine aV (bF (aA (aE ?_)))
  obtain⟨v11,h12,hF⟩:=aO hF
  refine aB (bI rfl h12) ⟨rfl,bC _ _,trivial⟩ ?_
  refine aF ?_
  refine aC ?_
  exact bG (fun a w hh=>⟨v11,hF,bA [] rfl (by decide) (by exact⟨rfl,rfl,rfl,rfl,trivial⟩) hh⟩)
 have hF:=aU h5 hF
 refine dE ?_
 obtain rfl:=bX hF
 exact bS Jj4 ⟨hRl3,rfl,rfl⟩ [] rfl trivial
def eX (K:Nat) (a0:List aK) (a1:(aK→Option Bool)):Option Bool:=
 (jI K a0 a1).bind fun v1=>some (decide (0≤v1))
theorem pR {K:Nat} {a0:List aK} {a1:(aK→Option Bool)} {r:Bool} (hF:eX K a0 a1=some r):Ct Tryz.prog 90 [.vc (pS aK.cod a0),.vc (pFn Tryz.prog (fun x:aK=>[.va (aK.enc x)]) (fun r:Bool=>.vc (pB r)) a1)] (.vc (pB r)):=by
 unfold eX at hF
 refine a9 Tryz.func90 rfl (by kernel_rfl) Tryz.ntmps90 rfl (fun w0 M0=>?_)
 refine aD (aE (aB (aL (.inr rfl)) ⟨dH _,trivial⟩ ?_))
 refine aC (aA (aD (aE (aF ?_))))
 refine aF ?_
 obtain⟨v1,h2,hF⟩:=aO hF
 refine aB (aG rfl (tV h2) rfl) ⟨rfl,rfl,trivial⟩ ?_
 refine aB (sB rfl) ⟨rfl,bC _ _,trivial⟩ ?_
 refine bB ?_
 refine aC (aA (aX (aW ?_)))
 obtain rfl:=bX hF
 exact aI (.inl rfl) Tryz.results90 (.tmp rfl .nil) rfl rfl
def rL (K:Nat) (x7:Rat):Option Rat:=
 some x7
def jC (K:Nat) (a0:List aQ) (a1:List Rat):Nat→Rat→Int→Option Rat
 |0,_,_=>none
 |k+1,x5,x6=>bif(decide (x6<(a0.length:Int))) then((dO a0 x6).bind fun v11=>bif(decide (0≤v11.dof)) then(bif(decide (v11.dof<(a1.length:Int))) then((dO a1 v11.dof).bind fun v18=>(yA v11.k v18).bind fun v20=>(zD x5 v20).bind fun v22=>(bQ (x6+1)).bind fun v24=>jC K a0 a1 k v22 v24) else((bQ (x6+1)).bind fun v26=>jC K a0 a1 k x5 v26)) else((bQ (x6+1)).bind fun v28=>jC K a0 a1 k x5 v28)) else(some x5)
def gE (K:Nat) (a0:List aQ) (a1:List Rat):Option Rat:=
 (jC K a0 a1 K 0 0).bind fun x7=>rL K x7
theorem iL {K:Nat} {a0:List aQ} {a1:List Rat} {r:Rat} (hF:gE K a0 a1=some r):Ct Tryz.prog 33 [.vc (pS aQ.cod a0),.vc (pS cQ a1)] (.va (eQ r)):=by
 unfold gE at hF
 refine a9 Tryz.func33 rfl (by kernel_rfl) Tryz.ntmps33 rfl (fun w0 M0=>?_)
 refine aD (aE (bJ rfl tyZ44q (fun b1=>?_)))
 refine aC (aA (aD (aE (bJ rfl tyZ44q (fun b2=>?_)))))
 refine aC (aA (aD (aD (aE (aF ?_)))))
 refine aB (bZ rfl tyS49) ⟨rfl,trivial⟩ ?_
 refine aB (aL (.inl rfl)) ⟨bC _ _,trivial⟩ ?_
 refine aC (aA (bN (cL (fun H E=>∃(x7:Rat),rL K x7=some r∧H=[⟨some b2,1,44,4,1,(eQ x7)⟩,⟨some b1,1,44,4,1,(eQ 0)⟩]∧E=[(4,.vc (pP (some b1) 0)),(5,.vc (pP (some b2) 0))]) ?_ (fun Jj9=>?_))))
 ·rintro _ _ ⟨x7,hF,rfl,rfl⟩
  unfold rL at hF
  refine aA (aD (aE (aB (bD 0 4 rfl rfl rfl rfl (.agg tyA44)) ⟨rfl,trivial⟩ ?_)))
  refine aY (dA 1 rfl rfl rfl tyA44.s) ⟨rfl,rfl,trivial⟩ ?_
  refine aC (aA (aX (aW ?_)))
  obtain rfl:=bX hF
  exact aI (.inl rfl) Tryz.results33 (bM 1 4 rfl rfl rfl rfl (.agg tyA44) .nil) rfl rfl
 obtain⟨x7',hL,hRl8⟩:=aO hF
 refine gY (fun k a w=>∃(x5:Rat),∃(x6:Int),jC K a0 a1 k x5 x6=some x7'∧hs _ [⟨some b2,1,44,4,1,(eQ x5)⟩,⟨some b1,1,44,4,1,(eQ 0)⟩] [(1,.vc (pS cQ a1)),(4,.vc (pP (some b1) 0)),(5,.vc (pP (some b2) 0)),(8,.vc (pS aQ.cod a0)),(9,.vc (pI .i64 (a0.length:Int))),(10,.vc (pI .i64 x6))] a w) K (fun a w ⟨_,_,hF,_⟩=>by cases hF) (fun k a w ⟨x5,x6,hF,hh⟩=>gX ?_ hh) (fun a w hh=>⟨0,0,hL,bA [0,1] rfl (by decide) (by exact⟨rfl,rfl,rfl,rfl,rfl,rfl,trivial⟩) hh⟩)
 rw [jC.eq_2] at hF
 refine aD (aE (aB (dQ rfl) ⟨rfl,rfl,trivial⟩ ?_))
 refine aC (aA (aD (bO rfl (fun h10=>?_) (fun h10=>?_))))
 ·have hF:=aT h10 hF
  refine aV (aA (aD (bN (aD (aE ?_)))))
  obtain⟨v11,h12,hF⟩:=aO hF
  refine aB (dX rfl tyS49 h12) ⟨rfl,rfl,trivial⟩ ?_
  refine aB (dM 5 rfl rfl (.agg tyA92)) ⟨rfl,trivial⟩ ?_
  refine bJ rfl tyZ92q (fun b13=>?_)
  refine aY (dA 0 rfl rfl rfl tyA92.s) ⟨rfl,rfl,trivial⟩ ?_
  refine aC (aA (aD (aE (aB (a8 (off:=0) (k:=0) rfl tyF92_0) ⟨rfl,trivial⟩ ?_))))
  refine aB (bD 0 1 rfl rfl rfl rfl (.one tyO3)) ⟨rfl,trivial⟩ ?_
  refine aB (sB rfl) ⟨rfl,bC _ _,trivial⟩ ?_
  refine aF ?_
  refine cU (fun h14=>?_) (fun h14=>?_)
  ·have hF:=aT h14 hF
   refine aZ (a8 (off:=0) (k:=0) rfl tyF92_0) ⟨rfl,trivial⟩ ?_
   refine aZ (bD 0 1 rfl rfl rfl rfl (.one tyO3)) ⟨rfl,trivial⟩ ?_
   refine aZ (aL (.inl rfl)) ⟨rfl,trivial⟩ ?_
   refine aZ (bZ rfl tyS24) ⟨rfl,trivial⟩ ?_
   refine aZ (dQ rfl) ⟨rfl,rfl,trivial⟩ ?_
   refine aB (bK rfl) ⟨rfl,rfl,trivial⟩ ?_
   refine aC (aA (bO rfl (fun h15=>?_) (fun h15=>?_)))
   ·have hF:=aT h15 hF
    obtain⟨v18,h19,hF⟩:=aO hF
    obtain⟨v20,h21,hF⟩:=aO hF
    obtain⟨v22,h23,hF⟩:=aO hF
    refine bP [0,0,2,0,0,16,56,120,254,511,1023] 10 1 [.v (.va (eQ x5)),.v (.vc (pP (some b13) 1)),.v (.va (eQ v11.k)),.v (.vc (pS cQ a1)),.v (.vc (pP (some b13) 0)),.v (.vc (pI .i64 v11.dof)),.v (.vc (pM (cQ.e v18))),.v (.va (eQ v18)),.v (.va (eQ v20)),.v (.va (eQ v22))] aR ⟨d0 (bD 1 4 rfl rfl rfl rfl (.agg tyA44)) ⟨rfl,trivial⟩,d0 (a8 (off:=0) (k:=1) rfl tyF92_1) ⟨rfl,trivial⟩,d0 (bD 0 4 rfl rfl rfl rfl (.agg tyA44)) ⟨rfl,trivial⟩,d0 (aL (.inl rfl)) ⟨rfl,trivial⟩,d0 (a8 (off:=0) (k:=0) rfl tyF92_0) ⟨rfl,trivial⟩,d0 (bD 0 1 rfl rfl rfl rfl (.one tyO3)) ⟨rfl,trivial⟩,d0 (dX rfl tyS24 h19) ⟨rfl,rfl,trivial⟩,d0 (dM 4 rfl rfl (.agg tyA44)) ⟨rfl,trivial⟩,d0 (aG rfl (oT h21) rfl) ⟨rfl,rfl,trivial⟩,d0 (aG rfl (rV h23) rfl) ⟨rfl,rfl,trivial⟩,trivial⟩ (fun bs17 G16=>?_)
    refine aY (dA 1 rfl rfl rfl tyA44.s) ⟨rfl,rfl,trivial⟩ ?_
    refine aC (bF (aA (aE ?_)))
    obtain⟨v24,h25,hF⟩:=aO hF
    refine aB (bI rfl h25) ⟨rfl,bC _ _,trivial⟩ ?_
    refine aF ?_
    refine aC ?_
    exact bG (fun a w hh=>⟨v22,v24,hF,bA [1,2] rfl (by decide) (by exact⟨rfl,rfl,rfl,rfl,rfl,rfl,trivial⟩) hh⟩)
   have hF:=aU h15 hF
   refine aV (bF (aA (aE ?_)))
   obtain⟨v26,h27,hF⟩:=aO hF
   refine aB (bI rfl h27) ⟨rfl,bC _ _,trivial⟩ ?_
   refine aF ?_
   refine aC ?_
   exact bG (fun a w hh=>⟨x5,v26,hF,bA [1,2] rfl (by decide) (by exact⟨rfl,rfl,rfl,rfl,rfl,rfl,trivial⟩) hh⟩)
  have hF:=aU h14 hF
  refine aJ ?_
  refine aJ ?_
  refine aJ ?_
  refine aJ ?_
  refine aJ ?_
  refine aB (bL rfl) ⟨rfl,dH _,trivial⟩ ?_
  refine aC (aA (qG rfl ?_))
  refine aV (bF (aA (aE ?_)))
  obtain⟨v28,h29,hF⟩:=aO hF
  refine aB (bI rfl h29) ⟨rfl,bC _ _,trivial⟩ ?_
  refine aF ?_
  refine aC ?_
  exact bG (fun a w hh=>⟨x5,v28,hF,bA [1,2] rfl (by decide) (by exact⟨rfl,rfl,rfl,rfl,rfl,rfl,trivial⟩) hh⟩)
 have hF:=aU h10 hF
 refine dE ?_
 obtain rfl:=bX hF
 exact bS Jj9 ⟨x5,hRl8,rfl,rfl⟩ [0,1] rfl ⟨rfl,rfl,trivial⟩
def rT (K:Nat):Option Bool:=
 some true
def n9 (K:Nat) (a0:List aQ) (a1:Int):Nat→Int→Option (LR Bool Unit)
 |0,_=>none
 |k+1,x2=>bif(decide (x2<(a0.length:Int))) then((dO a0 x2).bind fun v6=>bif(decide (v6.dof<0)) then(some (.ret false)) else(bif(decide (a1≤v6.dof)) then(some (.ret false)) else(bif(decide (0<x2)) then((bQ (x2-1)).bind fun v14=>(dO a0 v14).bind fun v16=>bif(decide (v6.dof≤v16.dof)) then(some (.ret false)) else((aBl v6.k).bind fun v19=>bif(!v19) then(some (.ret false)) else((bQ (x2+1)).bind fun v22=>n9 K a0 a1 k v22))) else((aBl v6.k).bind fun v24=>bif(!v24) then(some (.ret false)) else((bQ (x2+1)).bind fun v27=>n9 K a0 a1 k v27))))) else(some (.go ()))
def rZ (K:Nat) (a0:List aQ) (a1:Int):Option Bool:=
 (n9 K a0 a1 K 0).bind fun o=>match o with| .ret r=>some r| .go _=>rT K
theorem u8 {K:Nat} {a0:List aQ} {a1:Int} {r:Bool} (hF:rZ K a0 a1=some r):Ct Tryz.prog 154 [.vc (pS aQ.cod a0),.vc (pI .i64 a1)] (.vc (pB r)):=by
 unfold rZ at hF
 refine a9 Tryz.func154 rfl (by kernel_rfl) Tryz.ntmps154 rfl (fun w0 M0=>?_)
 refine aD (aE (aB (aL (.inr rfl)) ⟨dH _,trivial⟩ ?_))
 refine aC (aA (aD (aD (aE (aF ?_)))))
 refine aB (bZ rfl tyS49) ⟨rfl,trivial⟩ ?_
 refine aB (aL (.inl rfl)) ⟨bC _ _,trivial⟩ ?_
 refine aC (aA (bN (cL (fun H E=>rT K=some r∧H=[]∧E=[]) ?_ (fun Jj4=>?_))))
 ·rintro _ _ ⟨hF,rfl,rfl⟩
  unfold rT at hF
  refine aA (aD (aE (aB (aL (.inr rfl)) ⟨dH _,trivial⟩ ?_)))
  refine aC (aA (aX (aW ?_)))
  obtain rfl:=bX hF
  exact aI (.inl rfl) Tryz.results154 (.tmp rfl .nil) rfl rfl
 obtain⟨ol3,hL,hRl3⟩:=aO hF
 refine gY (fun k a w=>∃(x2:Int),n9 K a0 a1 k x2=some ol3∧hs _ [] [(0,.vc (pS aQ.cod a0)),(1,.vc (pI .i64 a1)),(7,.vc (pS aQ.cod a0)),(8,.vc (pI .i64 (a0.length:Int))),(9,.vc (pI .i64 x2))] a w) K (fun a w ⟨_,hF,_⟩=>by cases hF) (fun k a w ⟨x2,hF,hh⟩=>gX ?_ hh) (fun a w hh=>⟨0,hL,bA [] rfl (by decide) (by exact⟨rfl,rfl,rfl,rfl,rfl,trivial⟩) hh⟩)
 rw [n9.eq_2] at hF
 refine aD (aE (aB (dQ rfl) ⟨rfl,rfl,trivial⟩ ?_))
 refine aC (aA (aD (bO rfl (fun h5=>?_) (fun h5=>?_))))
 ·have hF:=aT h5 hF
  refine aV (aA (aD (bN (aD (aE (aF ?_))))))
  obtain⟨v6,h7,hF⟩:=aO hF
  refine aB (dX rfl tyS49 h7) ⟨rfl,rfl,trivial⟩ ?_
  refine aB (dM 5 rfl rfl (.agg tyA92)) ⟨rfl,trivial⟩ ?_
  refine bJ rfl tyZ92q (fun b8=>?_)
  refine bB ?_
  refine aY (dA 0 rfl rfl rfl tyA92.s) ⟨rfl,rfl,trivial⟩ ?_
  refine aC (aA (aD ?_))
  rcases Bool.eq_false_or_eq_true (decide (v6.dof<0)) with h11|h11
  ·have hF:=aT h11 hF
   refine bP (0::1::3::7::15::31::15::127::255::511::1023::2047::4095::8191::16383::8191::8191::73727::237567::499711::1023999::2097151::4194303::8388607::16777215::33554431::67108863::134217727::268435455::536870911::[]) 30 0 (.v (.vc (pP (some b8) 0))::.v (.vc (pI .i64 v6.dof))::.v (.vc (pB (decide (v6.dof<0))))::.v (.vc (pB true))::.v .un::.v .un::.v .un::.v .un::.v (.vc (pB true))::.v (.vc (pB true))::.v .un::.v .un::.v .un::.v .un::.v .un::.v .un::.v .un::.v .un::.v .un::.v .un::.v .un::.v .un::.v .un::.v (.vc (pB true))::.v (.vc (pB true))::.v .un::.v .un::.v .un::.v .un::.v (.vc (pB true))::[]) aR ⟨d0 (a8 (off:=0) (k:=0) rfl tyF92_0) ⟨rfl,trivial⟩,d0 (bD 0 1 rfl rfl rfl rfl (.one tyO3)) ⟨rfl,trivial⟩,d0 (dQ rfl) ⟨rfl,bC _ _,trivial⟩,d0 (cW (aL (.inl rfl)) h11) ⟨rfl,trivial⟩,⟨rfl,.skipN⟩,⟨rfl,.skipN⟩,⟨rfl,.skipN⟩,⟨rfl,.skipN⟩,d0 (bK rfl) ⟨rfl,dH _,trivial⟩,d0 (aL (.inl rfl)) ⟨rfl,trivial⟩,⟨rfl,.skipN⟩,⟨rfl,.skipN⟩,⟨rfl,.skipN⟩,⟨rfl,.skipU⟩,⟨rfl,.skipU⟩,⟨rfl,.skipU⟩,⟨rfl,.skipU⟩,⟨rfl,.skipU⟩,⟨rfl,.skipU⟩,⟨rfl,.skipU⟩,⟨rfl,.skipU⟩,⟨rfl,.skipU⟩,⟨rfl,.skipN⟩,d0 (bK rfl) ⟨rfl,dH _,trivial⟩,d0 (aL (.inl rfl)) ⟨rfl,trivial⟩,⟨rfl,.skipN⟩,⟨rfl,.skipN⟩,⟨rfl,.skipN⟩,⟨rfl,.skipN⟩,d0 (bK rfl) ⟨rfl,dH _,trivial⟩,trivial⟩ (fun bs10 G9=>?_)
   refine aC (aA (kT rfl ?_))
   refine aD (aE (aB (aL (.inr rfl)) ⟨dH _,trivial⟩ ?_))
   refine aC (aA (aX (aW ?_)))
   obtain rfl:=bX hF
   obtain rfl:=bX hRl3
   exact aI (.inl rfl) Tryz.results154 (.tmp rfl .nil) rfl rfl
  have hF:=aU h11 hF
  rcases Bool.eq_false_or_eq_true (decide (a1≤v6.dof)) with h12|h12
  ·have hF:=aT h12 hF
   refine bP (0::1::3::7::15::31::15::127::255::511::1023::2047::4095::8191::16383::8191::8191::73727::237567::499711::1023999::2097151::4194303::8388607::16777215::33554431::67108863::134217727::268435455::536870911::[]) 30 0 (.v (.vc (pP (some b8) 0))::.v (.vc (pI .i64 v6.dof))::.v (.vc (pB (decide (v6.dof<0))))::.v (.vc (pB false))::.v (.vc (pP (some b8) 0))::.v (.vc (pI .i64 v6.dof))::.v (.vc (pI .i64 a1))::.v (.vc (pB (decide (a1≤v6.dof))))::.v (.vc (pB (decide (a1≤v6.dof))))::.v (.vc (pB true))::.v .un::.v .un::.v .un::.v .un::.v .un::.v .un::.v .un::.v .un::.v .un::.v .un::.v .un::.v .un::.v .un::.v (.vc (pB true))::.v (.vc (pB true))::.v .un::.v .un::.v .un::.v .un::.v (.vc (pB true))::[]) aR ⟨d0 (a8 (off:=0) (k:=0) rfl tyF92_0) ⟨rfl,trivial⟩,d0 (bD 0 1 rfl rfl rfl rfl (.one tyO3)) ⟨rfl,trivial⟩,d0 (dQ rfl) ⟨rfl,bC _ _,trivial⟩,d0 (cW (aL (.inl rfl)) h11) ⟨rfl,trivial⟩,g0 (a8 (off:=0) (k:=0) rfl tyF92_0) ⟨rfl,trivial⟩,g0 (bD 0 1 rfl rfl rfl rfl (.one tyO3)) ⟨rfl,trivial⟩,g0 (aL (.inl rfl)) ⟨rfl,trivial⟩,g0 (sB rfl) ⟨rfl,rfl,trivial⟩,d0 (bL rfl) ⟨rfl,rfl,trivial⟩,d0 (cW (aL (.inl rfl)) h12) ⟨rfl,trivial⟩,⟨rfl,.skipN⟩,⟨rfl,.skipN⟩,⟨rfl,.skipN⟩,⟨rfl,.skipU⟩,⟨rfl,.skipU⟩,⟨rfl,.skipU⟩,⟨rfl,.skipU⟩,⟨rfl,.skipU⟩,⟨rfl,.skipU⟩,⟨rfl,.skipU⟩,⟨rfl,.skipU⟩,⟨rfl,.skipU⟩,⟨rfl,.skipN⟩,d0 (bK rfl) ⟨rfl,dH _,trivial⟩,d0 (aL (.inl rfl)) ⟨rfl,trivial⟩,⟨rfl,.skipN⟩,⟨rfl,.skipN⟩,⟨rfl,.skipN⟩,⟨rfl,.skipN⟩,d0 (bK rfl) ⟨rfl,dH _,trivial⟩,trivial⟩ (fun bs10 G9=>?_)
   refine aC (aA (kT rfl ?_))
   refine aD (aE (aB (aL (.inr rfl)) ⟨dH _,trivial⟩ ?_))
   refine aC (aA (aX (aW ?_)))
   obtain rfl:=bX hF
   obtain rfl:=bX hRl3
   exact aI (.inl rfl) Tryz.results154 (.tmp rfl .nil) rfl rfl
  have hF:=aU h12 hF
  rcases Bool.eq_false_or_eq_true (decide (0<x2)) with h13|h13
  ·have hF:=aT h13 hF
   obtain⟨v14,h15,hF⟩:=aO hF
   obtain⟨v16,h17,hF⟩:=aO hF
   rcases Bool.eq_false_or_eq_true (decide (v6.dof≤v16.dof)) with h18|h18
   ·have hF:=aT h18 hF
    refine bP (0::1::3::7::15::31::15::127::255::511::1023::2047::4095::8191::16383::8191::8191::73727::237567::499711::1023999::2097151::4194303::8388607::16777215::33554431::67108863::134217727::268435455::536870911::[]) 30 0 (.v (.vc (pP (some b8) 0))::.v (.vc (pI .i64 v6.dof))::.v (.vc (pB (decide (v6.dof<0))))::.v (.vc (pB false))::.v (.vc (pP (some b8) 0))::.v (.vc (pI .i64 v6.dof))::.v (.vc (pI .i64 a1))::.v (.vc (pB (decide (a1≤v6.dof))))::.v (.vc (pB (decide (a1≤v6.dof))))::.v (.vc (pB false))::.v (.vc (pI .i64 x2))::.v (.vc (pB (decide (0<x2))))::.v (.vc (pB true))::.v (.vc (pP (some b8) 0))::.v (.vc (pI .i64 v6.dof))::.v (.vc (pS aQ.cod a0))::.v (.vc (pI .i64 x2))::.v (.vc (pI .i64 v14))::.v (.vc (pM (aQ.cod.e v16)))::.v (.vc (pM (aQ.cod.e v16)))::.v (.vc (pI .i64 v16.dof))::.v (.vc (pB (decide (v6.dof≤v16.dof))))::.v (.vc (pB (decide (v6.dof≤v16.dof))))::.v (.vc (pB (decide (v6.dof≤v16.dof))))::.v (.vc (pB true))::.v .un::.v .un::.v .un::.v .un::.v (.vc (pB true))::[]) aR ⟨d0 (a8 (off:=0) (k:=0) rfl tyF92_0) ⟨rfl,trivial⟩,d0 (bD 0 1 rfl rfl rfl rfl (.one tyO3)) ⟨rfl,trivial⟩,d0 (dQ rfl) ⟨rfl,bC _ _,trivial⟩,d0 (cW (aL (.inl rfl)) h11) ⟨rfl,trivial⟩,g0 (a8 (off:=0) (k:=0) rfl tyF92_0) ⟨rfl,trivial⟩,g0 (bD 0 1 rfl rfl rfl rfl (.one tyO3)) ⟨rfl,trivial⟩,g0 (aL (.inl rfl)) ⟨rfl,trivial⟩,g0 (sB rfl) ⟨rfl,rfl,trivial⟩,d0 (bL rfl) ⟨rfl,rfl,trivial⟩,d0 (cW (aL (.inl rfl)) h12) ⟨rfl,trivial⟩,g0 (aL (.inl rfl)) ⟨rfl,trivial⟩,g0 (p8 rfl) ⟨rfl,bC _ _,trivial⟩,g0 (cW (aL (.inl rfl)) h13) ⟨rfl,trivial⟩,g0 (a8 (off:=0) (k:=0) rfl tyF92_0) ⟨rfl,trivial⟩,g0 (bD 0 1 rfl rfl rfl rfl (.one tyO3)) ⟨rfl,trivial⟩,g0 (aL (.inl rfl)) ⟨rfl,trivial⟩,g0 (aL (.inl rfl)) ⟨rfl,trivial⟩,g0 (fH rfl h15) ⟨rfl,bC _ _,trivial⟩,g0 (dX rfl tyS49 h17) ⟨rfl,rfl,trivial⟩,g0 (tC (ps:=(aQ.cod.e v16)) (k:=0) rfl tyF92_0) ⟨rfl,trivial⟩,g0 (dM 1 rfl rfl (.one tyO3)) ⟨rfl,trivial⟩,g0 (w9 rfl) ⟨rfl,rfl,trivial⟩,g0 (bK rfl) ⟨rfl,rfl,trivial⟩,d0 (bL rfl) ⟨rfl,rfl,trivial⟩,d0 (cW (aL (.inl rfl)) h18) ⟨rfl,trivial⟩,⟨rfl,.skipN⟩,⟨rfl,.skipN⟩,⟨rfl,.skipN⟩,⟨rfl,.skipN⟩,d0 (bK rfl) ⟨rfl,dH _,trivial⟩,trivial⟩ (fun bs10 G9=>?_)
    refine aC (aA (kT rfl ?_))
    refine aD (aE (aB (aL (.inr rfl)) ⟨dH _,trivial⟩ ?_))
    refine aC (aA (aX (aW ?_)))
    obtain rfl:=bX hF
    obtain rfl:=bX hRl3
    exact aI (.inl rfl) Tryz.results154 (.tmp rfl .nil) rfl rfl
   have hF:=aU h18 hF
   obtain⟨v19,h20,hF⟩:=aO hF
   refine bP (0::1::3::7::15::31::15::127::255::511::1023::2047::4095::8191::16383::8191::8191::73727::237567::499711::1023999::2097151::4194303::8388607::16777215::33554431::67108863::134217727::268435455::536870911::[]) 30 0 (.v (.vc (pP (some b8) 0))::.v (.vc (pI .i64 v6.dof))::.v (.vc (pB (decide (v6.dof<0))))::.v (.vc (pB false))::.v (.vc (pP (some b8) 0))::.v (.vc (pI .i64 v6.dof))::.v (.vc (pI .i64 a1))::.v (.vc (pB (decide (a1≤v6.dof))))::.v (.vc (pB (decide (a1≤v6.dof))))::.v (.vc (pB false))::.v (.vc (pI .i64 x2))::.v (.vc (pB (decide (0<x2))))::.v (.vc (pB true))::.v (.vc (pP (some b8) 0))::.v (.vc (pI .i64 v6.dof))::.v (.vc (pS aQ.cod a0))::.v (.vc (pI .i64 x2))::.v (.vc (pI .i64 v14))::.v (.vc (pM (aQ.cod.e v16)))::.v (.vc (pM (aQ.cod.e v16)))::.v (.vc (pI .i64 v16.dof))::.v (.vc (pB (decide (v6.dof≤v16.dof))))::.v (.vc (pB (decide (v6.dof≤v16.dof))))::.v (.vc (pB (decide (v6.dof≤v16.dof))))::.v (.vc (pB false))::.v (.vc (pP (some b8) 1))::.v (.va (eQ v6.k))::.v (.vc (pB v19))::.v (.vc (pB (!v19)))::.v (.vc (pB (!v19)))::[]) aR ⟨d0 (a8 (off:=0) (k:=0) rfl tyF92_0) ⟨rfl,trivial⟩,d0 (bD 0 1 rfl rfl rfl rfl (.one tyO3)) ⟨rfl,trivial⟩,d0 (dQ rfl) ⟨rfl,bC _ _,trivial⟩,d0 (cW (aL (.inl rfl)) h11) ⟨rfl,trivial⟩,g0 (a8 (off:=0) (k:=0) rfl tyF92_0) ⟨rfl,trivial⟩,g0 (bD 0 1 rfl rfl rfl rfl (.one tyO3)) ⟨rfl,trivial⟩,g0 (aL (.inl rfl)) ⟨rfl,trivial⟩,g0 (sB rfl) ⟨rfl,rfl,trivial⟩,d0 (bL rfl) ⟨rfl,rfl,trivial⟩,d0 (cW (aL (.inl rfl)) h12) ⟨rfl,trivial⟩,g0 (aL (.inl rfl)) ⟨rfl,trivial⟩,g0 (p8 rfl) ⟨rfl,bC _ _,trivial⟩,g0 (cW (aL (.inl rfl)) h13) ⟨rfl,trivial⟩,g0 (a8 (off:=0) (k:=0) rfl tyF92_0) ⟨rfl,trivial⟩,g0 (bD 0 1 rfl rfl rfl rfl (.one tyO3)) ⟨rfl,trivial⟩,g0 (aL (.inl rfl)) ⟨rfl,trivial⟩,g0 (aL (.inl rfl)) ⟨rfl,trivial⟩,g0 (fH rfl h15) ⟨rfl,bC _ _,trivial⟩,g0 (dX rfl tyS49 h17) ⟨rfl,rfl,trivial⟩,g0 (tC (ps:=(aQ.cod.e v16)) (k:=0) rfl tyF92_0) ⟨rfl,trivial⟩,g0 (dM 1 rfl rfl (.one tyO3)) ⟨rfl,trivial⟩,g0 (w9 rfl) ⟨rfl,rfl,trivial⟩,g0 (bK rfl) ⟨rfl,rfl,trivial⟩,d0 (bL rfl) ⟨rfl,rfl,trivial⟩,d0 (cW (aL (.inl rfl)) h18) ⟨rfl,trivial⟩,g0 (a8 (off:=0) (k:=1) rfl tyF92_1) ⟨rfl,trivial⟩,g0 (bD 0 4 rfl rfl rfl rfl (.agg tyA44)) ⟨rfl,trivial⟩,g0 (aG rfl (nB h20) rfl) ⟨rfl,trivial⟩,g0 (lK rfl) ⟨rfl,trivial⟩,d0 (bL rfl) ⟨rfl,rfl,trivial⟩,trivial⟩ (fun bs10 G9=>?_)
   refine aC (aA (bO rfl (fun h21=>?_) (fun h21=>?_)))
   ·have hF:=aT h21 hF
    refine aD (aE (aB (aL (.inr rfl)) ⟨dH _,trivial⟩ ?_))
    refine aC (aA (aX (aW ?_)))
    obtain rfl:=bX hF
    obtain rfl:=bX hRl3
    exact aI (.inl rfl) Tryz.results154 (.tmp rfl .nil) rfl rfl
   have hF:=aU h21 hF
   refine aV (bF (aA (aE ?_)))
   obtain⟨v22,h23,hF⟩:=aO hF
   refine aB (bI rfl h23) ⟨rfl,bC _ _,trivial⟩ ?_
   refine aF ?_
   refine aC ?_
   exact bG (fun a w hh=>⟨v22,hF,bA [] rfl (by decide) (by exact⟨rfl,rfl,rfl,rfl,rfl,trivial⟩) hh⟩)
  have hF:=aU h13 hF
  obtain⟨v24,h25,hF⟩:=aO hF
  refine bP (0::1::3::7::15::31::15::127::255::511::1023::2047::4095::8191::16383::8191::8191::73727::237567::499711::1023999::2097151::4194303::8388607::16777215::33554431::67108863::134217727::268435455::536870911::[]) 30 0 (.v (.vc (pP (some b8) 0))::.v (.vc (pI .i64 v6.dof))::.v (.vc (pB (decide (v6.dof<0))))::.v (.vc (pB false))::.v (.vc (pP (some b8) 0))::.v (.vc (pI .i64 v6.dof))::.v (.vc (pI .i64 a1))::.v (.vc (pB (decide (a1≤v6.dof))))::.v (.vc (pB (decide (a1≤v6.dof))))::.v (.vc (pB false))::.v (.vc (pI .i64 x2))::.v (.vc (pB (decide (0<x2))))::.v (.vc (pB false))::.v .un::.v .un::.v .un::.v .un::.v .un::.v .un::.v .un::.v .un::.v .un::.v (.vc (pB false))::.v (.vc (pB false))::.v (.vc (pB false))::.v (.vc (pP (some b8) 1))::.v (.va (eQ v6.k))::.v (.vc (pB v24))::.v (.vc (pB (!v24)))::.v (.vc (pB (!v24)))::[]) aR ⟨d0 (a8 (off:=0) (k:=0) rfl tyF92_0) ⟨rfl,trivial⟩,d0 (bD 0 1 rfl rfl rfl rfl (.one tyO3)) ⟨rfl,trivial⟩,d0 (dQ rfl) ⟨rfl,bC _ _,trivial⟩,d0 (cW (aL (.inl rfl)) h11) ⟨rfl,trivial⟩,g0 (a8 (off:=0) (k:=0) rfl tyF92_0) ⟨rfl,trivial⟩,g0 (bD 0 1 rfl rfl rfl rfl (.one tyO3)) ⟨rfl,trivial⟩,g0 (aL (.inl rfl)) ⟨rfl,trivial⟩,g0 (sB rfl) ⟨rfl,rfl,trivial⟩,d0 (bL rfl) ⟨rfl,rfl,trivial⟩,d0 (cW (aL (.inl rfl)) h12) ⟨rfl,trivial⟩,g0 (aL (.inl rfl)) ⟨rfl,trivial⟩,g0 (p8 rfl) ⟨rfl,bC _ _,trivial⟩,g0 (cW (aL (.inl rfl)) h13) ⟨rfl,trivial⟩,⟨rfl,.skipN⟩,⟨rfl,.skipN⟩,⟨rfl,.skipN⟩,⟨rfl,.skipN⟩,⟨rfl,.skipN⟩,⟨rfl,.skipN⟩,⟨rfl,.skipN⟩,⟨rfl,.skipN⟩,⟨rfl,.skipN⟩,g0 (bL rfl) ⟨rfl,dH _,trivial⟩,d0 (bL rfl) ⟨rfl,rfl,trivial⟩,d0 (aL (.inl rfl)) ⟨rfl,trivial⟩,g0 (a8 (off:=0) (k:=1) rfl tyF92_1) ⟨rfl,trivial⟩,g0 (bD 0 4 rfl rfl rfl rfl (.agg tyA44)) ⟨rfl,trivial⟩,g0 (aG rfl (nB h25) rfl) ⟨rfl,trivial⟩,g0 (lK rfl) ⟨rfl,trivial⟩,d0 (bL rfl) ⟨rfl,rfl,trivial⟩,trivial⟩ (fun bs10 G9=>?_)
  refine aC (aA (bO rfl (fun h26=>?_) (fun h26=>?_)))
  ·have hF:=aT h26 hF
   refine aD (aE (aB (aL (.inr rfl)) ⟨dH _,trivial⟩ ?_))
   refine aC (aA (aX (aW ?_)))
   obtain rfl:=bX hF
   obtain rfl:=bX hRl3
   exact aI (.inl rfl) Tryz.results154 (.tmp rfl .nil) rfl rfl
  have hF:=aU h26 hF
  refine aV (bF (aA (aE ?_)))
  obtain⟨v27,h28,hF⟩:=aO hF
  refine aB (bI rfl h28) ⟨rfl,bC _ _,trivial⟩ ?_
  refine aF ?_
  refine aC ?_
  exact bG (fun a w hh=>⟨v27,hF,bA [] rfl (by decide) (by exact⟨rfl,rfl,rfl,rfl,rfl,trivial⟩) hh⟩)
 have hF:=aU h5 hF
 refine dE ?_
 obtain rfl:=bX hF
 exact bS Jj4 ⟨hRl3,rfl,rfl⟩ [] rfl trivial
def nG (K:Nat) (c0:Int) (c1:aM) (a0:aK):Option Bool:=
 (rZ K a0.j c0).bind fun v2=>bif(!v2) then(some true) else((rZ K a0.t c0).bind fun v5=>bif(!v5) then(some true) else((aBl a0.mu).bind fun v8=>bif(!v8) then(some true) else((s5 a0.mu).bind fun v11=>bif(decide (v11<0)) then(some true) else((gE K a0.j c1.v).bind fun v14=>(s5 v14).bind fun v16=>some (v16 != 0)))))
theorem u5 {K:Nat} {c0:Int} {c1:aM} {a0:aK} {r:Bool} (hF:nG K c0 c1 a0=some r):Ct Tryz.prog 153 [.va (aK.enc a0),.vc (pM (cI.e c0)),.vc (pM (aM.cod.e c1))] (.vc (pB r)):=by
 unfold nG at hF
 refine a9 Tryz.func153 rfl (by kernel_rfl) Tryz.ntmps153 rfl (fun w0 M0=>?_)
 refine aD (aE (cV rfl rfl trivial (fun b1=>?_)))
 refine aB (aL (.inr rfl)) ⟨dH _,trivial⟩ ?_
 refine aC (aA (aD (aE (aB (a8 (off:=0) (k:=8) rfl tyF51_5) ⟨rfl,trivial⟩ ?_))))
 refine aB (bD 0 1 rfl rfl rfl rfl (.one tyO49)) ⟨rfl,trivial⟩ ?_
 refine aB (dM 1 rfl rfl (.one tyO3)) ⟨rfl,trivial⟩ ?_
 obtain⟨v2,h3,hF⟩:=aO hF
 refine aB (aG rfl (u8 h3) rfl) ⟨rfl,rfl,trivial⟩ ?_
 refine aB (lK rfl) ⟨rfl,trivial⟩ ?_
 refine aF ?_
 refine cU (fun h4=>?_) (fun h4=>?_)
 ·have hF:=aT h4 hF
  refine aJ ?_
  refine aJ ?_
  refine aJ ?_
  refine aJ ?_
  refine aJ ?_
  refine aB (bK rfl) ⟨rfl,dH _,trivial⟩ ?_
  refine aF ?_
  refine aJ ?_
  refine aJ ?_
  refine aJ ?_
  refine aJ ?_
  refine aB (bK rfl) ⟨rfl,dH _,trivial⟩ ?_
  refine aF ?_
  refine aJ ?_
  refine aJ ?_
  refine aJ ?_
  refine aJ ?_
  refine aB (bK rfl) ⟨rfl,dH _,trivial⟩ ?_
  refine aF ?_
  refine aJ ?_
  refine aJ ?_
  refine aJ ?_
  refine aJ ?_
  refine aJ ?_
  refine aJ ?_
  refine aJ ?_
  refine aB (bK rfl) ⟨rfl,dH _,trivial⟩ ?_
  refine bB ?_
  refine aC (aA (aX (aW ?_)))
  obtain rfl:=bX hF
  exact aI (.inl rfl) Tryz.results153 (.tmp rfl .nil) rfl rfl
 have hF:=aU h4 hF
 refine aZ (a8 (off:=0) (k:=9) rfl tyF51_6) ⟨rfl,trivial⟩ ?_
 refine aZ (bD 0 1 rfl rfl rfl rfl (.one tyO49)) ⟨rfl,trivial⟩ ?_
 refine aZ (dM 1 rfl rfl (.one tyO3)) ⟨rfl,trivial⟩ ?_
 obtain⟨v5,h6,hF⟩:=aO hF
 refine aZ (aG rfl (u8 h6) rfl) ⟨rfl,rfl,trivial⟩ ?_
 refine aZ (lK rfl) ⟨rfl,trivial⟩ ?_
 refine aB (bL rfl) ⟨rfl,rfl,trivial⟩ ?_
 refine aF ?_
 refine cU (fun h7=>?_) (fun h7=>?_)
 ·have hF:=aT h7 hF
  refine aJ ?_
  refine aJ ?_
  refine aJ ?_
  refine aJ ?_
  refine aB (bK rfl) ⟨rfl,dH _,trivial⟩ ?_
  refine aF ?_
  refine aJ ?_
  refine aJ ?_
  refine aJ ?_
  refine aJ ?_
  refine aB (bK rfl) ⟨rfl,dH _,trivial⟩ ?_
  refine aF ?_
  refine aJ ?_
  refine aJ ?_
  refine aJ ?_
  refine aJ ?_
  refine aJ ?_
  refine aJ ?_
  refine aJ ?_
  refine aB (bK rfl) ⟨rfl,dH _,trivial⟩ ?_
  refine bB ?_
  refine aC (aA (aX (aW ?_)))
  obtain rfl:=bX hF
  exact aI (.inl rfl) Tryz.results153 (.tmp rfl .nil) rfl rfl
 have hF:=aU h7 hF
 refine aZ (a8 (off:=0) (k:=10) rfl tyF51_7) ⟨rfl,trivial⟩ ?_
 refine aZ (bD 0 4 rfl rfl rfl rfl (.agg tyA44)) ⟨rfl,trivial⟩ ?_
 obtain⟨v8,h9,hF⟩:=aO hF
 refine aZ (aG rfl (nB h9) rfl) ⟨rfl,trivial⟩ ?_
 refine aZ (lK rfl) ⟨rfl,trivial⟩ ?_
 refine aB (bL rfl) ⟨rfl,rfl,trivial⟩ ?_
 refine aF ?_
 refine cU (fun h10=>?_) (fun h10=>?_)
 ·have hF:=aT h10 hF
  refine aJ ?_
  refine aJ ?_
  refine aJ ?_
  refine aJ ?_
  refine aB (bK rfl) ⟨rfl,dH _,trivial⟩ ?_
  refine aF ?_
  refine aJ ?_
  refine aJ ?_
  refine aJ ?_
  refine aJ ?_
  refine aJ ?_
  refine aJ ?_
  refine aJ ?_
  refine aB (bK rfl) ⟨rfl,dH _,trivial⟩ ?_
  refine bB ?_
  refine aC (aA (aX (aW ?_)))
  obtain rfl:=bX hF
  exact aI (.inl rfl) Tryz.results153 (.tmp rfl .nil) rfl rfl
 have hF:=aU h10 hF
 refine aZ (a8 (off:=0) (k:=10) rfl tyF51_7) ⟨rfl,trivial⟩ ?_
 refine aZ (bD 0 4 rfl rfl rfl rfl (.agg tyA44)) ⟨rfl,trivial⟩ ?_
 obtain⟨v11,h12,hF⟩:=aO hF
 refine aZ (aG rfl (gF h12) rfl) ⟨rfl,trivial⟩ ?_
 refine aZ (dQ rfl) ⟨rfl,bC _ _,trivial⟩ ?_
 refine aB (bL rfl) ⟨rfl,rfl,trivial⟩ ?_
 refine aF ?_
 refine cU (fun h13=>?_) (fun h13=>?_)
 ·have hF:=aT h13 hF
  refine aJ ?_
  refine aJ ?_
  refine aJ ?_
  refine aJ ?_
  refine aJ ?_
  refine aJ ?_
  refine aJ ?_
  refine aB (bK rfl) ⟨rfl,dH _,trivial⟩ ?_
  refine bB ?_
  refine aC (aA (aX (aW ?_)))
  obtain rfl:=bX hF
  exact aI (.inl rfl) Tryz.results153 (.tmp rfl .nil) rfl rfl
 have hF:=aU h13 hF
 refine aZ (a8 (off:=0) (k:=8) rfl tyF51_5) ⟨rfl,trivial⟩ ?_
 refine aZ (bD 0 1 rfl rfl rfl rfl (.one tyO49)) ⟨rfl,trivial⟩ ?_
 refine aZ (tC (ps:=(aM.cod.e c1)) (k:=2) rfl tyF113_2) ⟨rfl,trivial⟩ ?_
 refine aZ (dM 1 rfl rfl (.one tyO24)) ⟨rfl,trivial⟩ ?_
 obtain⟨v14,h15,hF⟩:=aO hF
 refine aZ (aG rfl (iL h15) rfl) ⟨rfl,rfl,trivial⟩ ?_
 obtain⟨v16,h17,hF⟩:=aO hF
 refine aZ (aG rfl (gF h17) rfl) ⟨rfl,trivial⟩ ?_
 refine aZ (sC rfl) ⟨rfl,bC _ _,trivial⟩ ?_
 refine aB (bL rfl) ⟨rfl,rfl,trivial⟩ ?_
 refine bB ?_
 refine aC (aA (aX (aW ?_)))
 obtain rfl:=bX hF
 exact aI (.inl rfl) Tryz.results153 (.tmp rfl .nil) rfl rfl
def oQ (K:Nat) (a0:aM):Option Bool:=
 (eX K a0.rows (nG K (a0.dofs.length:Int) a0)).bind fun v16=>some (!v16)
def lO (K:Nat) (a0:aM):Nat→Int→Option (LR Bool Unit)
 |0,_=>none
 |k+1,x13=>bif(decide (x13<(a0.dofs.length:Int))) then((dO a0.dofs x13).bind fun v19=>(aBl v19.inv).bind fun v22=>bif(!v22) then(some (.ret false)) else((s5 v19.inv).bind fun v25=>bif(decide (v25≤0)) then(some (.ret false)) else((bQ (x13+1)).bind fun v28=>lO K a0 k v28))) else(some (.go ()))
def oK (K:Nat) (a0:aM):Option Bool:=
 bif(decide (12<(a0.dofs.length:Int))) then(some false) else(bif((a0.load.length:Int) != (a0.dofs.length:Int)) then(some false) else(bif((a0.v.length:Int) != (a0.dofs.length:Int)) then(some false) else((qZ K a0.load).bind fun v6=>bif(!v6) then(some false) else((qZ K a0.v).bind fun v9=>bif(!v9) then(some false) else((lO K a0 K 0).bind fun o=>match o with| .ret r=>some r| .go _=>oQ K a0)))))
theorem sD {K:Nat} {a0:aM} {r:Bool} (hF:oK K a0=some r):Ct Tryz.prog 69 [.va (aM.enc a0)] (.vc (pB r)):=by
 unfold oK at hF
 refine a9 Tryz.func69 rfl (by kernel_rfl) Tryz.ntmps69 rfl (fun w0 M0=>?_)
 refine aD (aE (cV rfl rfl trivial (fun b1=>?_)))
 refine aB (aL (.inr rfl)) ⟨dH _,trivial⟩ ?_
 refine aC (aA (aD (aE (aB (a8 (off:=0) (k:=0) rfl tyF113_0) ⟨rfl,trivial⟩ ?_))))
 refine aB (bD 0 1 rfl rfl rfl rfl (.one tyO23)) ⟨rfl,trivial⟩ ?_
 refine aB (bZ rfl tyS23) ⟨rfl,trivial⟩ ?_
 refine bJ rfl tyZ3q (fun b2=>?_)
 refine aY (dA 0 rfl rfl rfl tyO3.s) ⟨rfl,rfl,trivial⟩ ?_
 refine aC (aA (aD (aD (aE (aB (bD 0 1 rfl rfl rfl rfl (.one tyO3)) ⟨rfl,trivial⟩ ?_)))))
 refine aB (p8 rfl) ⟨rfl,bC _ _,trivial⟩ ?_
 refine aF ?_
 refine cU (fun h3=>?_) (fun h3=>?_)
 ·have hF:=aT h3 hF
  refine aJ ?_
  refine aJ ?_
  refine aJ ?_
  refine aJ ?_
  refine aJ ?_
  refine aB (bK rfl) ⟨rfl,dH _,trivial⟩ ?_
  refine aF ?_
  refine aJ ?_
  refine aJ ?_
  refine aJ ?_
  refine aJ ?_
  refine aJ ?_
  refine aB (bK rfl) ⟨rfl,dH _,trivial⟩ ?_
  refine aF ?_
  refine aJ ?_
  refine aJ ?_
  refine aJ ?_
  refine aJ ?_
  refine aB (bK rfl) ⟨rfl,dH _,trivial⟩ ?_
  refine aF ?_
  refine aJ ?_
  refine aJ ?_
  refine aJ ?_
  refine aJ ?_
  refine aB (bK rfl) ⟨rfl,dH _,trivial⟩ ?_
  refine aC (aA (kT rfl ?_))
  refine aD (aE (aB (aL (.inr rfl)) ⟨dH _,trivial⟩ ?_))
  refine aC (aA (aX (aW ?_)))
  obtain rfl:=bX hF
  exact aI (.inl rfl) Tryz.results69 (.tmp rfl .nil) rfl rfl
 have hF:=aU h3 hF
 refine aZ (a8 (off:=0) (k:=1) rfl tyF113_1) ⟨rfl,trivial⟩ ?_
 refine aZ (bD 1 1 rfl rfl rfl rfl (.one tyO24)) ⟨rfl,trivial⟩ ?_
 refine aZ (bZ rfl tyS24) ⟨rfl,trivial⟩ ?_
 refine aZ (bD 0 1 rfl rfl rfl rfl (.one tyO3)) ⟨rfl,trivial⟩ ?_
 refine aZ (sC rfl) ⟨rfl,rfl,trivial⟩ ?_
 refine aB (bL rfl) ⟨rfl,rfl,trivial⟩ ?_
 refine aF ?_
 refine cU (fun h4=>?_) (fun h4=>?_)
 ·have hF:=aT h4 hF
  refine aJ ?_
  refine aJ ?_
  refine aJ ?_
  refine aJ ?_
  refine aJ ?_
  refine aB (bK rfl) ⟨rfl,dH _,trivial⟩ ?_
  refine aF ?_
  refine aJ ?_
  refine aJ ?_
  refine aJ ?_
  refine aJ ?_
  refine aB (bK rfl) ⟨rfl,dH _,trivial⟩ ?_
  refine aF ?_
  refine aJ ?_
  refine aJ ?_
  refine aJ ?_
  refine aJ ?_
  refine aB (bK rfl) ⟨rfl,dH _,trivial⟩ ?_
  refine aC (aA (kT rfl ?_))
  refine aD (aE (aB (aL (.inr rfl)) ⟨dH _,trivial⟩ ?_))
  refine aC (aA (aX (aW ?_)))
  obtain rfl:=bX hF
  exact aI (.inl rfl) Tryz.results69 (.tmp rfl .nil) rfl rfl
 have hF:=aU h4 hF
 refine aZ (a8 (off:=0) (k:=2) rfl tyF113_2) ⟨rfl,trivial⟩ ?_
 refine aZ (bD 1 1 rfl rfl rfl rfl (.one tyO24)) ⟨rfl,trivial⟩ ?_
 refine aZ (bZ rfl tyS24) ⟨rfl,trivial⟩ ?_
 refine aZ (bD 0 1 rfl rfl rfl rfl (.one tyO3)) ⟨rfl,trivial⟩ ?_
 refine aZ (sC rfl) ⟨rfl,rfl,trivial⟩ ?_
 refine aB (bL rfl) ⟨rfl,rfl,trivial⟩ ?_
 refine aF ?_
 refine cU (fun h5=>?_) (fun h5=>?_)
 ·have hF:=aT h5 hF
  refine aJ ?_
  refine aJ ?_
  refine aJ ?_
  refine aJ ?_
  refine aB (bK rfl) ⟨rfl,dH _,trivial⟩ ?_
  refine aF ?_
  refine aJ ?_
  refine aJ ?_
  refine aJ ?_
  refine aJ ?_
  refine aB (bK rfl) ⟨rfl,dH _,trivial⟩ ?_
  refine aC (aA (kT rfl ?_))
  refine aD (aE (aB (aL (.inr rfl)) ⟨dH _,trivial⟩ ?_))
  refine aC (aA (aX (aW ?_)))
  obtain rfl:=bX hF
  exact aI (.inl rfl) Tryz.results69 (.tmp rfl .nil) rfl rfl
 have hF:=aU h5 hF
 refine aZ (a8 (off:=0) (k:=1) rfl tyF113_1) ⟨rfl,trivial⟩ ?_
 refine aZ (bD 1 1 rfl rfl rfl rfl (.one tyO24)) ⟨rfl,trivial⟩ ?_
 obtain⟨v6,h7,hF⟩:=aO hF
 refine aZ (aG rfl (tG h7) rfl) ⟨rfl,trivial⟩ ?_
 refine aZ (lK rfl) ⟨rfl,trivial⟩ ?_
 refine aB (bL rfl) ⟨rfl,rfl,trivial⟩ ?_
 refine aF ?_
 refine cU (fun h8=>?_) (fun h8=>?_)
 ·have hF:=aT h8 hF
  refine aJ ?_
  refine aJ ?_
  refine aJ ?_
  refine aJ ?_
  refine aB (bK rfl) ⟨rfl,dH _,trivial⟩ ?_
  refine aC (aA (kT rfl ?_))
  refine aD (aE (aB (aL (.inr rfl)) ⟨dH _,trivial⟩ ?_))
  refine aC (aA (aX (aW ?_)))
  obtain rfl:=bX hF
  exact aI (.inl rfl) Tryz.results69 (.tmp rfl .nil) rfl rfl
 have hF:=aU h8 hF
 refine aZ (a8 (off:=0) (k:=2) rfl tyF113_2) ⟨rfl,trivial⟩ ?_
 refine aZ (bD 1 1 rfl rfl rfl rfl (.one tyO24)) ⟨rfl,trivial⟩ ?_
 obtain⟨v9,h10,hF⟩:=aO hF
 refine aZ (aG rfl (tG h10) rfl) ⟨rfl,trivial⟩ ?_
 refine aZ (lK rfl) ⟨rfl,trivial⟩ ?_
 refine aB (bL rfl) ⟨rfl,rfl,trivial⟩ ?_
 refine aC (aA (bO rfl (fun h11=>?_) (fun h11=>?_)))
 ·have hF:=aT h11 hF
  refine aD (aE (aB (aL (.inr rfl)) ⟨dH _,trivial⟩ ?_))
  refine aC (aA (aX (aW ?_)))
  obtain rfl:=bX hF
  exact aI (.inl rfl) Tryz.results69 (.tmp rfl .nil) rfl rfl
 have hF:=aU h11 hF
 refine aV (aA (aD (aD (aE (aB (a8 (off:=0) (k:=0) rfl tyF113_0) ⟨rfl,trivial⟩ ?_)))))
 refine aB (bD 1 1 rfl rfl rfl rfl (.one tyO23)) ⟨rfl,trivial⟩ ?_
 refine aB (bZ rfl tyS23) ⟨rfl,trivial⟩ ?_
 refine aB (aL (.inl rfl)) ⟨bC _ _,trivial⟩ ?_
 refine aC (aA (bN (cL (fun H E=>oQ K a0=some r∧H=[⟨some b2,1,3,1,1,[pI .i64 (a0.dofs.length:Int)]⟩,⟨some b1,1,113,4,1,(aM.enc a0)⟩]∧E=[(1,.vc (pP (some b1) 0)),(3,.vc (pP (some b2) 0))]) ?_ (fun Jj15=>?_))))
 ·rintro _ _ ⟨hF,rfl,rfl⟩
  unfold oQ at hF
  refine aA (aD (aE (aB (a8 (off:=0) (k:=3) rfl tyF113_3) ⟨rfl,trivial⟩ ?_)))
  refine aB (bD 1 1 rfl rfl rfl rfl (.one tyO25)) ⟨rfl,trivial⟩ ?_
  refine aDb 0 [(3,0)] rfl ⟨rfl,trivial⟩ rfl ?_
  refine aDb 0 [(1,0),(55,3)] rfl ⟨rfl,rfl,trivial⟩ rfl ?_
  refine aB (aFY (φ:=(nG K (a0.dofs.length:Int) a0)) (pre:=fun x:aK=>[.va (aK.enc x)]) (post:=fun r:Bool=>.vc (pB r)) (xs:=[.tmp 3,.tmp 1]) (cs:=[pM (cI.e (a0.dofs.length:Int)),pM (aM.cod.e a0)]) rfl rfl (fun x r h=>u5 h)) ⟨rfl,rfl,trivial⟩ ?_
  obtain⟨v16,h17,hF⟩:=aO hF
  refine aB (aG rfl (pR h17) rfl) ⟨rfl,rfl,trivial⟩ ?_
  refine aB (lK rfl) ⟨rfl,trivial⟩ ?_
  refine bB ?_
  refine aC (aA (aX (aW ?_)))
  obtain rfl:=bX hF
  exact aI (.inl rfl) Tryz.results69 (.tmp rfl .nil) rfl rfl
 obtain⟨ol14,hL,hRl14⟩:=aO hF
 refine gY (fun k a w=>∃(x13:Int),lO K a0 k x13=some ol14∧hs _ [⟨some b2,1,3,1,1,[pI .i64 (a0.dofs.length:Int)]⟩,⟨some b1,1,113,4,1,(aM.enc a0)⟩] [(1,.vc (pP (some b1) 0)),(3,.vc (pP (some b2) 0)),(38,.vc (pS bE.cod a0.dofs)),(39,.vc (pI .i64 (a0.dofs.length:Int))),(40,.vc (pI .i64 x13))] a w) K (fun a w ⟨_,hF,_⟩=>by cases hF) (fun k a w ⟨x13,hF,hh⟩=>gX ?_ hh) (fun a w hh=>⟨0,hL,bA [0,1] rfl (by decide) (by exact⟨rfl,rfl,rfl,rfl,rfl,trivial⟩) hh⟩)
 rw [lO.eq_2] at hF
 refine aD (aE (aB (dQ rfl) ⟨rfl,rfl,trivial⟩ ?_))
 refine aC (aA (aD (bO rfl (fun h18=>?_) (fun h18=>?_))))
 ·have hF:=aT h18 hF
  refine aV (aA (aD (bN (aD (aE ?_)))))
  obtain⟨v19,h20,hF⟩:=aO hF
  refine aB (dX rfl tyS23 h20) ⟨rfl,rfl,trivial⟩ ?_
  refine aB (dM 17 rfl rfl (.agg tyA108)) ⟨rfl,trivial⟩ ?_
  refine bJ rfl tyZ108q (fun b21=>?_)
  refine aY (dA 0 rfl rfl rfl tyA108.s) ⟨rfl,rfl,trivial⟩ ?_
  refine aC (aA (aD (aE (aB (a8 (off:=0) (k:=0) rfl tyF108_0) ⟨rfl,trivial⟩ ?_))))
  refine aB (bD 0 4 rfl rfl rfl rfl (.agg tyA44)) ⟨rfl,trivial⟩ ?_
  obtain⟨v22,h23,hF⟩:=aO hF
  refine aB (aG rfl (nB h23) rfl) ⟨rfl,trivial⟩ ?_
  refine aB (lK rfl) ⟨rfl,trivial⟩ ?_
  refine aF ?_
  refine cU (fun h24=>?_) (fun h24=>?_)
  ·have hF:=aT h24 hF
   refine aJ ?_
   refine aJ ?_
   refine aJ ?_
   refine aJ ?_
   refine aB (bK rfl) ⟨rfl,dH _,trivial⟩ ?_
   refine aC (aA (kT rfl ?_))
   refine aD (aE (aB (aL (.inr rfl)) ⟨dH _,trivial⟩ ?_))
   refine aC (aA (aX (aW ?_)))
   obtain rfl:=bX hF
   obtain rfl:=bX hRl14
   exact aI (.inl rfl) Tryz.results69 (.tmp rfl .nil) rfl rfl
  have hF:=aU h24 hF
  refine aZ (a8 (off:=0) (k:=0) rfl tyF108_0) ⟨rfl,trivial⟩ ?_
  refine aZ (bD 0 4 rfl rfl rfl rfl (.agg tyA44)) ⟨rfl,trivial⟩ ?_
  obtain⟨v25,h26,hF⟩:=aO hF
  refine aZ (aG rfl (gF h26) rfl) ⟨rfl,trivial⟩ ?_
  refine aZ (w9 rfl) ⟨rfl,bC _ _,trivial⟩ ?_
  refine aB (bL rfl) ⟨rfl,rfl,trivial⟩ ?_
  refine aC (aA (bO rfl (fun h27=>?_) (fun h27=>?_)))
  ·have hF:=aT h27 hF
   refine aD (aE (aB (aL (.inr rfl)) ⟨dH _,trivial⟩ ?_))
   refine aC (aA (aX (aW ?_)))
   obtain rfl:=bX hF
   obtain rfl:=bX hRl14
   exact aI (.inl rfl) Tryz.results69 (.tmp rfl .nil) rfl rfl
  have hF:=aU h27 hF
  refine aV (bF (aA (aE ?_)))
  obtain⟨v28,h29,hF⟩:=aO hF
  refine aB (bI rfl h29) ⟨rfl,bC _ _,trivial⟩ ?_
  refine aF ?_
  refine aC ?_
  exact bG (fun a w hh=>⟨v28,hF,bA [1,2] rfl (by decide) (by exact⟨rfl,rfl,rfl,rfl,rfl,trivial⟩) hh⟩)
 have hF:=aU h18 hF
 refine dE ?_
 obtain rfl:=bX hF
 exact bS Jj15 ⟨hRl14,rfl,rfl⟩ [0,1] rfl ⟨rfl,rfl,trivial⟩
def mA (K:Nat) (a0:aM) (a1:aK):Option Int:=
 (gE K a1.t a0.v).bind fun v3=>(s5 v3).bind fun v5=>some v5
theorem qB {K:Nat} {a0:aM} {a1:aK} {r:Int} (hF:mA K a0 a1=some r):Ct Tryz.prog 155 [.va (aM.enc a0),.va (aK.enc a1)] (.vc (pI .i64 r)):=by
 unfold mA at hF
 refine a9 Tryz.func155 rfl (by kernel_rfl) Tryz.ntmps155 rfl (fun w0 M0=>?_)
 refine aD (aE (cV rfl rfl trivial (fun b1=>?_)))
 refine cV rfl rfl trivial (fun b2=>?_)
 refine aB (aL (.inr rfl)) ⟨bC _ _,trivial⟩ ?_
 refine aC (aA (aD (aE (aB (a8 (off:=0) (k:=9) rfl tyF51_6) ⟨rfl,trivial⟩ ?_))))
 refine aB (bD 0 1 rfl rfl rfl rfl (.one tyO49)) ⟨rfl,trivial⟩ ?_
 refine aB (a8 (off:=0) (k:=2) rfl tyF113_2) ⟨rfl,trivial⟩ ?_
 refine aB (bD 1 1 rfl rfl rfl rfl (.one tyO24)) ⟨rfl,trivial⟩ ?_
 obtain⟨v3,h4,hF⟩:=aO hF
 refine aB (aG rfl (iL h4) rfl) ⟨rfl,rfl,trivial⟩ ?_
 obtain⟨v5,h6,hF⟩:=aO hF
 refine aB (aG rfl (gF h6) rfl) ⟨rfl,trivial⟩ ?_
 refine bB ?_
 refine aC (aA (aX (aW ?_)))
 obtain rfl:=bX hF
 exact aI (.inl rfl) Tryz.results155 (.tmp rfl .nil) rfl rfl
def l5 (K:Nat) (x18:List aH):Option (List aH):=
 some x18
def fS (K:Nat) (a0:aM):Nat→(List aH)→Int→Option (List aH)
 |0,_,_=>none
 |k+1,x11,x17=>bif(decide (x17<(a0.rows.length:Int))) then((dO a0.rows x17).bind fun v27=>(tB x11 [(⟨x17,0⟩:aH)]).bind fun x30=>bif(decide (0<(v27.t.length:Int))) then((mA K a0 v27).bind fun v38=>bif(v38==0) then((tB x30 [(⟨x17,1⟩:aH),(⟨x17,2⟩:aH),(⟨x17,3⟩:aH)]).bind fun x41=>(bQ (x17+1)).bind fun v48=>fS K a0 k x41 v48) else((bQ (x17+1)).bind fun v50=>fS K a0 k x30 v50)) else((bQ (x17+1)).bind fun v52=>fS K a0 k x30 v52)) else(some x11)
def lT (K:Nat) (a0:aM):Option (List aH):=
 (fS K a0 K ([]:List aH) 0).bind fun x18=>l5 K x18
theorem qY {K:Nat} {a0:aM} {r:List aH} (hF:lT K a0=some r):Ct Tryz.prog 70 [.va (aM.enc a0)] (.vc (pS aH.cod r)):=by
 unfold lT at hF
 refine a9 Tryz.func70 rfl (by kernel_rfl) Tryz.ntmps70 rfl (fun w0 M0=>?_)
 refine aD (aE (cV rfl rfl trivial (fun b1=>?_)))
 refine aB (aL (.inr rfl)) ⟨eJ aH.cod,trivial⟩ ?_
 refine aC (aA (aD (aE (sA aH.cod 118 rfl ?_))))
 refine aC (aA (aD (aD (aE (aB (a8 (off:=0) (k:=3) rfl tyF113_3) ⟨rfl,trivial⟩ ?_)))))
 refine aB (bD 1 1 rfl rfl rfl rfl (.one tyO25)) ⟨rfl,trivial⟩ ?_
 refine aB (bZ rfl tyS25) ⟨rfl,trivial⟩ ?_
 refine aB (aL (.inl rfl)) ⟨bC _ _,trivial⟩ ?_
 refine aC (aA (bN (cL (fun H E=>∃(x18:List aH),∃(b19:Option Nat),∃(c20:Nat),∃(n21:Nat),l5 K x18=some r∧x18.length=n21∧H=[hO aH.cod b19 c20 118 n21 x18]∧E=[(3,.vc (pO b19 n21 c20))]) ?_ (fun Jj25=>?_))))
 ·rintro _ _ ⟨x18,b19,c20,n21,hF,q22,rfl,rfl⟩
  unfold l5 at hF
  refine aA (aD (aE (aF ?_)))
  refine bB ?_
  refine aC (aA (aX (aW (t5 0 [2,3,39] rfl q22 ⟨rfl,rfl,rfl,trivial⟩ rfl ?_))))
  obtain rfl:=bX hF
  exact aI (.inl rfl) Tryz.results70 (.tmp rfl .nil) rfl rfl
 obtain⟨x18',hL,hRl24⟩:=aO hF
 refine gY (fun k a w=>∃(x11:List aH),∃(x17:Int),∃(b12:Option Nat),∃(c13:Nat),∃(n14:Nat),fS K a0 k x11 x17=some x18'∧x11.length=n14∧hs _ [hO aH.cod b12 c13 118 n14 x11,⟨some b1,1,113,4,1,(aM.enc a0)⟩] [(1,.vc (pP (some b1) 0)),(3,.vc (pO b12 n14 c13)),(7,.vc (pS aK.cod a0.rows)),(8,.vc (pI .i64 (a0.rows.length:Int))),(9,.vc (pI .i64 x17))] a w) K (fun a w ⟨_,_,_,_,_,hF,_,_⟩=>by cases hF) (fun k a w ⟨x11,x17,b12,c13,n14,hF,q15,hh⟩=>gX ?_ hh) (fun a w hh=>⟨([]:List aH),0,none,0,0,hL,rfl,bA [0,1] rfl (by decide) (by exact⟨rfl,rfl,rfl,rfl,rfl,trivial⟩) hh⟩)
 rw [fS.eq_2] at hF
 refine aD (aE (aB (dQ rfl) ⟨rfl,rfl,trivial⟩ ?_))
 refine aC (aA (aD (bO rfl (fun h26=>?_) (fun h26=>?_))))
 ·have hF:=aT h26 hF
  refine aV (aA (aD (bN (aD (aE (aF ?_))))))
  obtain⟨v27,h28,hF⟩:=aO hF
  refine aB (dX rfl tyS25 h28) ⟨rfl,rfl,trivial⟩ ?_
  refine aB (dM 18 rfl rfl (.agg tyA51)) ⟨rfl,trivial⟩ ?_
  refine bJ rfl tyZ51q (fun b29=>?_)
  refine bB ?_
  refine aY (dA 0 rfl rfl rfl tyA51.s) ⟨rfl,rfl,trivial⟩ ?_
  refine aC (aA (aD (aE (aF ?_))))
  refine aF ?_
  refine aB (fA (is:=[0,1]) (xs:=[.tmp 15,.const (.int .i64 (0))]) (ps:=[.vc (pI .i64 x17),.vc (pI .i64 0)]) rfl tyB118q rfl rfl ⟨trivial,trivial,trivial⟩ rfl) ⟨rfl,bC _ _,trivial⟩ ?_
  refine aB (pX (C:=aH.cod) (xs:=[.tmp 16]) (ps:=[.va ([pI .i64 x17]++[pI .i64 0])]) (zs:=[(⟨x17,0⟩:aH)]) rfl tyS114 rfl ⟨⟨trivial,rfl⟩,trivial⟩ rfl) ⟨rfl,trivial⟩ ?_
  obtain⟨x30,h31,hF⟩:=aO hF
  refine nY 1 rfl tyS114 rfl rfl q15 rfl rfl h31 (fun b32 c33 H34 e35=>?_)
  cases e35
  refine bB ?_
  refine aC (aA (aD (aE (aB (a8 (off:=0) (k:=9) rfl tyF51_6) ⟨rfl,trivial⟩ ?_))))
  refine aB (bD 0 1 rfl rfl rfl rfl (.one tyO49)) ⟨rfl,trivial⟩ ?_
  refine aB (bZ rfl tyS49) ⟨rfl,trivial⟩ ?_
  refine aB (p8 rfl) ⟨rfl,bC _ _,trivial⟩ ?_
  refine aF ?_
  refine cU (fun h37=>?_) (fun h37=>?_)
  ·have hF:=aT h37 hF
   refine aZ (bD 2 4 rfl rfl rfl rfl (.agg tyA113)) ⟨rfl,trivial⟩ ?_
   refine aZ (bD 0 18 rfl rfl rfl rfl (.agg tyA51)) ⟨rfl,trivial⟩ ?_
   obtain⟨v38,h39,hF⟩:=aO hF
   refine aZ (aG rfl (qB h39) rfl) ⟨rfl,rfl,trivial⟩ ?_
   refine aZ (iJ rfl) ⟨rfl,bC _ _,trivial⟩ ?_
   refine aB (bK rfl) ⟨rfl,rfl,trivial⟩ ?_
   refine aC (aA (bO rfl (fun h40=>?_) (fun h40=>?_)))
   ·have hF:=aT h40 hF
    refine aE (aF ?_)
    refine aF ?_
    refine aB (fA (is:=[0,1]) (xs:=[.tmp 30,.const (.int .i64 (1))]) (ps:=[.vc (pI .i64 x17),.vc (pI .i64 1)]) rfl tyB118q rfl rfl ⟨trivial,trivial,trivial⟩ rfl) ⟨rfl,bC _ _,trivial⟩ ?_
    refine aF ?_
    refine aB (fA (is:=[0,1]) (xs:=[.tmp 32,.const (.int .i64 (2))]) (ps:=[.vc (pI .i64 x17),.vc (pI .i64 2)]) rfl tyB118q rfl rfl ⟨trivial,trivial,trivial⟩ rfl) ⟨rfl,bC _ _,trivial⟩ ?_
    refine aF ?_
    refine aB (fA (is:=[0,1]) (xs:=[.tmp 34,.const (.int .i64 (3))]) (ps:=[.vc (pI .i64 x17),.vc (pI .i64 3)]) rfl tyB118q rfl rfl ⟨trivial,trivial,trivial⟩ rfl) ⟨rfl,bC _ _,trivial⟩ ?_
    refine aB (pX (C:=aH.cod) (xs:=[.tmp 31,.tmp 33,.tmp 35]) (ps:=[.va ([pI .i64 x17]++[pI .i64 1]),.va ([pI .i64 x17]++[pI .i64 2]),.va ([pI .i64 x17]++[pI .i64 3])]) (zs:=[(⟨x17,1⟩:aH),(⟨x17,2⟩:aH),(⟨x17,3⟩:aH)]) rfl tyS114 rfl ⟨⟨trivial,rfl⟩,⟨trivial,rfl⟩,⟨trivial,rfl⟩,trivial⟩ rfl) ⟨rfl,rfl,rfl,trivial⟩ ?_
    obtain⟨x41,h42,hF⟩:=aO hF
    refine nY 1 rfl tyS114 rfl rfl (gB h31 q15) rfl rfl h42 (fun b43 c44 H45 e46=>?_)
    cases e46
    refine bB ?_
    refine aC (bF (aA (aE ?_)))
    obtain⟨v48,h49,hF⟩:=aO hF
    refine aB (bI rfl h49) ⟨rfl,bC _ _,trivial⟩ ?_
    refine aF ?_
    refine aC ?_
    exact bG (fun a w hh=>⟨x41,v48,b43,c44,((n14+[(⟨x17,0⟩:aH)].length)+[(⟨x17,1⟩:aH),(⟨x17,2⟩:aH),(⟨x17,3⟩:aH)].length),hF,(gB h42 (gB h31 q15)),bA [1,2] rfl (by decide) (by exact⟨rfl,rfl,rfl,rfl,rfl,trivial⟩) hh⟩)
   have hF:=aU h40 hF
   refine aV (bF (aA (aE ?_)))
   obtain⟨v50,h51,hF⟩:=aO hF
   refine aB (bI rfl h51) ⟨rfl,bC _ _,trivial⟩ ?_
   refine aF ?_
   refine aC ?_
   exact bG (fun a w hh=>⟨x30,v50,b32,c33,(n14+[(⟨x17,0⟩:aH)].length),hF,(gB h31 q15),bA [1,2] rfl (by decide) (by exact⟨rfl,rfl,rfl,rfl,rfl,trivial⟩) hh⟩)
  have hF:=aU h37 hF
  refine aJ ?_
  refine aJ ?_
  refine aJ ?_
  refine aJ ?_
  refine aB (bL rfl) ⟨rfl,dH _,trivial⟩ ?_
  refine aC (aA (qG rfl ?_))
  refine aV (bF (aA (aE ?_)))
  obtain⟨v52,h53,hF⟩:=aO hF
  refine aB (bI rfl h53) ⟨rfl,bC _ _,trivial⟩ ?_
  refine aF ?_
  refine aC ?_
  exact bG (fun a w hh=>⟨x30,v52,b32,c33,(n14+[(⟨x17,0⟩:aH)].length),hF,(gB h31 q15),bA [1,2] rfl (by decide) (by exact⟨rfl,rfl,rfl,rfl,rfl,trivial⟩) hh⟩)
 have hF:=aU h26 hF
 refine dE ?_
 obtain rfl:=bX hF
 exact bS Jj25 ⟨x11,b12,c13,n14,hRl24,q15,rfl,rfl⟩ [0] rfl ⟨rfl,trivial⟩
end Go.Proofs.YtcjdedkdoagifaaGreat
