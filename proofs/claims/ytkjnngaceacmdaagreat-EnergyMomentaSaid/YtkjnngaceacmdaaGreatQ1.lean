import Derived.Test.YtkjnngaceacmdaaGreatPR
set_option linter.unusedVariables false
namespace Go.Proofs.YtkjnngaceacmdaaGreat
structure St103 where
  n : Int
  of : (Int → Option Rat)
noncomputable def St103.enc (x : St103) : List CP := [pI .i64 x.n] ++ [pFn Tryz.prog (fun x : Int => [.vc (pI .i64 x)]) (fun r : Rat => .va (eQ r)) x.of]
noncomputable def St103.cod : Cd St103 := ⟨2, St103.enc, fun _ => rfl⟩
structure St135 where
  rows : List (List Rat)
  pivots : List Int
  det : Rat
noncomputable def St135.enc (x : St135) : List CP := [pS (cSl cQ) x.rows] ++ [pS cI x.pivots] ++ (eQ x.det)
noncomputable def St135.cod : Cd St135 := ⟨6, St135.enc, fun _ => rfl⟩
structure api_Dof where
  inv : Rat
  load : Rat
  bound : Bool
  lo : Rat
  hi : Rat
noncomputable def api_Dof.enc (x : api_Dof) : List CP := (eQ x.inv) ++ (eQ x.load) ++ [pB x.bound] ++ (eQ x.lo) ++ (eQ x.hi)
noncomputable def api_Dof.cod : Cd api_Dof := ⟨17, api_Dof.enc, fun _ => rfl⟩
structure api_Term where
  dof : Int
  k : Rat
noncomputable def api_Term.enc (x : api_Term) : List CP := [pI .i64 x.dof] ++ (eQ x.k)
noncomputable def api_Term.cod : Cd api_Term := ⟨5, api_Term.enc, fun _ => rfl⟩
structure api_Row where
  kind : Int
  a : Int
  b : Int
  edge : Int
  gap : Rat
  j : List api_Term
  t : List api_Term
  mu : Rat
  e : Rat
noncomputable def api_Row.enc (x : api_Row) : List CP := [pI .i64 x.kind] ++ [pI .i64 x.a] ++ [pI .i64 x.b] ++ [pI .i64 x.edge] ++ (eQ x.gap) ++ [pS api_Term.cod x.j] ++ [pS api_Term.cod x.t] ++ (eQ x.mu) ++ (eQ x.e)
noncomputable def api_Row.cod : Cd api_Row := ⟨18, api_Row.enc, fun _ => rfl⟩
structure St26 where
  dofs : List api_Dof
  load : List Rat
  v : List Rat
  rows : List api_Row
noncomputable def St26.enc (x : St26) : List CP := [pS api_Dof.cod x.dofs] ++ [pS cQ x.load] ++ [pS cQ x.v] ++ [pS api_Row.cod x.rows]
noncomputable def St26.cod : Cd St26 := ⟨4, St26.enc, fun _ => rfl⟩
structure St37 where
  dof : Int
  k : Rat
noncomputable def St37.enc (x : St37) : List CP := [pI .i64 x.dof] ++ (eQ x.k)
noncomputable def St37.cod : Cd St37 := ⟨5, St37.enc, fun _ => rfl⟩
structure St39 where
  kind : Int
  a : Int
  b : Int
  edge : Int
  gap : Rat
  j : List api_Term
  t : List api_Term
  mu : Rat
  e : Rat
noncomputable def St39.enc (x : St39) : List CP := [pI .i64 x.kind] ++ [pI .i64 x.a] ++ [pI .i64 x.b] ++ [pI .i64 x.edge] ++ (eQ x.gap) ++ [pS api_Term.cod x.j] ++ [pS api_Term.cod x.t] ++ (eQ x.mu) ++ (eQ x.e)
noncomputable def St39.cod : Cd St39 := ⟨18, St39.enc, fun _ => rfl⟩
structure St65 where
  inv : Rat
  load : Rat
  bound : Bool
  lo : Rat
  hi : Rat
noncomputable def St65.enc (x : St65) : List CP := (eQ x.inv) ++ (eQ x.load) ++ [pB x.bound] ++ (eQ x.lo) ++ (eQ x.hi)
noncomputable def St65.cod : Cd St65 := ⟨17, St65.enc, fun _ => rfl⟩
structure energy_account where
  n : Int
  of : (Int → Option Rat)
noncomputable def energy_account.enc (x : energy_account) : List CP := [pI .i64 x.n] ++ [pFn Tryz.prog (fun x : Int => [.vc (pI .i64 x)]) (fun r : Rat => .va (eQ r)) x.of]
noncomputable def energy_account.cod : Cd energy_account := ⟨2, energy_account.enc, fun _ => rfl⟩
structure gantryref19_Scene where
  dofs : List api_Dof
  load : List Rat
  v : List Rat
  rows : List api_Row
noncomputable def gantryref19_Scene.enc (x : gantryref19_Scene) : List CP := [pS api_Dof.cod x.dofs] ++ [pS cQ x.load] ++ [pS cQ x.v] ++ [pS api_Row.cod x.rows]
noncomputable def gantryref19_Scene.cod : Cd gantryref19_Scene := ⟨4, gantryref19_Scene.enc, fun _ => rfl⟩
structure matrix_form where
  rows : List (List Rat)
  pivots : List Int
  det : Rat
noncomputable def matrix_form.enc (x : matrix_form) : List CP := [pS (cSl cQ) x.rows] ++ [pS cI x.pivots] ++ (eQ x.det)
noncomputable def matrix_form.cod : Cd matrix_form := ⟨6, matrix_form.enc, fun _ => rfl⟩
theorem tyA104 : TyA Tryz.prog 104 2 := mkA Tryz.underlying104 rfl (by kernel_rfl)
theorem tyA136 : TyA Tryz.prog 136 6 := mkA Tryz.underlying136 rfl (by kernel_rfl)
theorem tyA27 : TyA Tryz.prog 27 4 := mkA Tryz.underlying27 rfl (by kernel_rfl)
theorem tyA38 : TyA Tryz.prog 38 5 := mkA Tryz.underlying38 rfl (by kernel_rfl)
theorem tyA40 : TyA Tryz.prog 40 18 := mkA Tryz.underlying40 rfl (by kernel_rfl)
theorem tyB104q : TyB Tryz.prog 104 [(0, 1), (1, 1)] ([pI .i64 0] ++ [pFn Tryz.prog (fun x : Int => [.vc (pI .i64 x)]) (fun r : Rat => .va (eQ r)) (fun _ => none)]) := mkB (z := .agg #[.int .i64 0, .nilFunc]) (by kernel_rfl) Tryz.underlying104 (by kernel_rfl) (fun M => All2.app (show All2 M [pI .i64 0] [.int .i64 0] from ⟨rfl, trivial⟩) (show All2 M [pFn Tryz.prog (fun x : Int => [.vc (pI .i64 x)]) (fun r : Rat => .va (eQ r)) (fun _ => none)] [.nilFunc] from ⟨pFn_nil _ _ M, trivial⟩))
theorem tyB136_o0_o1q : TyB Tryz.prog 136 [(0, 1), (1, 1), (2, 4)] ([pO none 0 0] ++ [pO none 0 0] ++ (eQ 0)) := mkB (z := .agg #[.slice none 0 0, .slice none 0 0, .bool false, .slice none 0 0, .bool false, .slice none 0 0]) (by kernel_rfl) Tryz.underlying136 (by kernel_rfl) (fun M => All2.app (All2.app (show All2 M [pO none 0 0] [.slice none 0 0] from ⟨.inl rfl, trivial⟩) (show All2 M [pO none 0 0] [.slice none 0 0] from ⟨.inl rfl, trivial⟩)) (eQ0 M))
theorem tyB35q : TyB Tryz.prog 35 [(0, 2), (2, 2)] (eQ 0) := mkB (z := .agg #[.bool false, .slice none 0 0, .bool false, .slice none 0 0]) (by kernel_rfl) Tryz.underlying35 (by kernel_rfl) (fun M => eQ0 M)
theorem tyB38q : TyB Tryz.prog 38 [(0, 1), (1, 4)] ([pI .i64 0] ++ (eQ 0)) := mkB (z := .agg #[.int .i64 0, .bool false, .slice none 0 0, .bool false, .slice none 0 0]) (by kernel_rfl) Tryz.underlying38 (by kernel_rfl) (fun M => All2.app (show All2 M [pI .i64 0] [.int .i64 0] from ⟨rfl, trivial⟩) (eQ0 M))
theorem tyB40q : TyB Tryz.prog 40 [(0, 1), (1, 1), (2, 1), (3, 1), (4, 4), (8, 1), (9, 1), (10, 4), (14, 4)] ([pI .i64 0] ++ [pI .i64 0] ++ [pI .i64 0] ++ [pI .i64 0] ++ (eQ 0) ++ [pS api_Term.cod ([] : List api_Term)] ++ [pS api_Term.cod ([] : List api_Term)] ++ (eQ 0) ++ (eQ 0)) := mkB (z := .agg #[.int .i64 0, .int .i64 0, .int .i64 0, .int .i64 0, .bool false, .slice none 0 0, .bool false, .slice none 0 0, .slice none 0 0, .slice none 0 0, .bool false, .slice none 0 0, .bool false, .slice none 0 0, .bool false, .slice none 0 0, .bool false, .slice none 0 0]) (by kernel_rfl) Tryz.underlying40 (by kernel_rfl) (fun M => All2.app (All2.app (All2.app (All2.app (All2.app (All2.app (All2.app (All2.app (show All2 M [pI .i64 0] [.int .i64 0] from ⟨rfl, trivial⟩) (show All2 M [pI .i64 0] [.int .i64 0] from ⟨rfl, trivial⟩)) (show All2 M [pI .i64 0] [.int .i64 0] from ⟨rfl, trivial⟩)) (show All2 M [pI .i64 0] [.int .i64 0] from ⟨rfl, trivial⟩)) (eQ0 M)) (show All2 M [pS api_Term.cod ([] : List api_Term)] [.slice none 0 0] from ⟨k_nil api_Term.cod M, trivial⟩)) (show All2 M [pS api_Term.cod ([] : List api_Term)] [.slice none 0 0] from ⟨k_nil api_Term.cod M, trivial⟩)) (eQ0 M)) (eQ0 M))
theorem tyB66q : TyB Tryz.prog 66 [(0, 4), (4, 4), (8, 1), (9, 4), (13, 4)] ((eQ 0) ++ (eQ 0) ++ [pB false] ++ (eQ 0) ++ (eQ 0)) := mkB (z := .agg #[.bool false, .slice none 0 0, .bool false, .slice none 0 0, .bool false, .slice none 0 0, .bool false, .slice none 0 0, .bool false, .bool false, .slice none 0 0, .bool false, .slice none 0 0, .bool false, .slice none 0 0, .bool false, .slice none 0 0]) (by kernel_rfl) Tryz.underlying66 (by kernel_rfl) (fun M => All2.app (All2.app (All2.app (All2.app (eQ0 M) (eQ0 M)) (show All2 M [pB false] [.bool false] from ⟨rfl, trivial⟩)) (eQ0 M)) (eQ0 M))
theorem tyF104_0 : TyF Tryz.prog 104 0 0 := mkF (ft := 3) (k := 0) Tryz.underlying104 rfl rfl rfl (by kernel_rfl)
theorem tyF104_1 : TyF Tryz.prog 104 1 1 := mkF (ft := 36) (k := 0) Tryz.underlying104 rfl rfl rfl (by kernel_rfl)
theorem tyF136_0 : TyF Tryz.prog 136 0 0 := mkF (ft := 47) (k := 0) Tryz.underlying136 rfl rfl rfl (by kernel_rfl)
theorem tyF136_1 : TyF Tryz.prog 136 1 1 := mkF (ft := 22) (k := 0) Tryz.underlying136 rfl rfl rfl (by kernel_rfl)
theorem tyF136_2 : TyF Tryz.prog 136 2 2 := mkF (ft := 35) (k := 3) Tryz.underlying136 rfl rfl rfl (by kernel_rfl)
theorem tyF27_0 : TyF Tryz.prog 27 0 0 := mkF (ft := 23) (k := 0) Tryz.underlying27 rfl rfl rfl (by kernel_rfl)
theorem tyF27_1 : TyF Tryz.prog 27 1 1 := mkF (ft := 24) (k := 0) Tryz.underlying27 rfl rfl rfl (by kernel_rfl)
theorem tyF27_2 : TyF Tryz.prog 27 2 2 := mkF (ft := 24) (k := 0) Tryz.underlying27 rfl rfl rfl (by kernel_rfl)
theorem tyF27_3 : TyF Tryz.prog 27 3 3 := mkF (ft := 25) (k := 0) Tryz.underlying27 rfl rfl rfl (by kernel_rfl)
theorem tyF38_0 : TyF Tryz.prog 38 0 0 := mkF (ft := 3) (k := 0) Tryz.underlying38 rfl rfl rfl (by kernel_rfl)
theorem tyF38_1 : TyF Tryz.prog 38 1 1 := mkF (ft := 35) (k := 3) Tryz.underlying38 rfl rfl rfl (by kernel_rfl)
theorem tyF40_5 : TyF Tryz.prog 40 5 8 := mkF (ft := 29) (k := 0) Tryz.underlying40 rfl rfl rfl (by kernel_rfl)
theorem tyF40_6 : TyF Tryz.prog 40 6 9 := mkF (ft := 29) (k := 0) Tryz.underlying40 rfl rfl rfl (by kernel_rfl)
theorem tyF40_7 : TyF Tryz.prog 40 7 10 := mkF (ft := 35) (k := 3) Tryz.underlying40 rfl rfl rfl (by kernel_rfl)
theorem tyF66_0 : TyF Tryz.prog 66 0 0 := mkF (ft := 35) (k := 3) Tryz.underlying66 rfl rfl rfl (by kernel_rfl)
theorem tyF66_1 : TyF Tryz.prog 66 1 4 := mkF (ft := 35) (k := 3) Tryz.underlying66 rfl rfl rfl (by kernel_rfl)
theorem tyO23 : Ty1 Tryz.prog 23 := mk1 Tryz.underlying23 rfl (by kernel_rfl)
theorem tyO24 : Ty1 Tryz.prog 24 := mk1 Tryz.underlying24 rfl (by kernel_rfl)
theorem tyO25 : Ty1 Tryz.prog 25 := mk1 Tryz.underlying25 rfl (by kernel_rfl)
theorem tyO29 : Ty1 Tryz.prog 29 := mk1 Tryz.underlying29 rfl (by kernel_rfl)
theorem tyO36 : Ty1 Tryz.prog 36 := mk1 Tryz.underlying36 rfl (by kernel_rfl)
theorem tyO47 : Ty1 Tryz.prog 47 := mk1 Tryz.underlying47 rfl (by kernel_rfl)
theorem tyS155 : TyS Tryz.prog 155 104 2 16 := mkS (z := .agg #[.int .i64 0, .nilFunc]) (k := 1) Tryz.underlying155 (by kernel_rfl) rfl
theorem tyS23 : TyS Tryz.prog 23 66 17 264 := mkS (z := .agg #[.bool false, .slice none 0 0, .bool false, .slice none 0 0, .bool false, .slice none 0 0, .bool false, .slice none 0 0, .bool false, .bool false, .slice none 0 0, .bool false, .slice none 0 0, .bool false, .slice none 0 0, .bool false, .slice none 0 0]) (k := 16) Tryz.underlying23 (by kernel_rfl) rfl
theorem tyS24 : TyS Tryz.prog 24 35 4 64 := mkS (z := .agg #[.bool false, .slice none 0 0, .bool false, .slice none 0 0]) (k := 3) Tryz.underlying24 (by kernel_rfl) rfl
theorem tyS25 : TyS Tryz.prog 25 40 18 272 := mkS (z := .agg #[.int .i64 0, .int .i64 0, .int .i64 0, .int .i64 0, .bool false, .slice none 0 0, .bool false, .slice none 0 0, .slice none 0 0, .slice none 0 0, .bool false, .slice none 0 0, .bool false, .slice none 0 0, .bool false, .slice none 0 0, .bool false, .slice none 0 0]) (k := 17) Tryz.underlying25 (by kernel_rfl) rfl
theorem tyS29 : TyS Tryz.prog 29 38 5 72 := mkS (z := .agg #[.int .i64 0, .bool false, .slice none 0 0, .bool false, .slice none 0 0]) (k := 4) Tryz.underlying29 (by kernel_rfl) rfl
theorem tyS42 : TyS Tryz.prog 42 25 1 24 := mkS (z := .slice none 0 0) (k := 0) Tryz.underlying42 (by kernel_rfl) rfl
theorem tyS47 : TyS Tryz.prog 47 24 1 24 := mkS (z := .slice none 0 0) (k := 0) Tryz.underlying47 (by kernel_rfl) rfl
theorem tyZ104q : TyZ Tryz.prog 104 ([pI .i64 0] ++ [pFn Tryz.prog (fun x : Int => [.vc (pI .i64 x)]) (fun r : Rat => .va (eQ r)) (fun _ => none)]) := mkZ (z := .agg #[.int .i64 0, .nilFunc]) (k := 2) (by kernel_rfl) rfl (fun M => All2.app (show All2 M [pI .i64 0] [.int .i64 0] from ⟨rfl, trivial⟩) (show All2 M [pFn Tryz.prog (fun x : Int => [.vc (pI .i64 x)]) (fun r : Rat => .va (eQ r)) (fun _ => none)] [.nilFunc] from ⟨pFn_nil _ _ M, trivial⟩))
theorem tyZ136q : TyZ Tryz.prog 136 ([pS (cSl cQ) ([] : List (List Rat))] ++ [pS cI ([] : List Int)] ++ (eQ 0)) := mkZ (z := .agg #[.slice none 0 0, .slice none 0 0, .bool false, .slice none 0 0, .bool false, .slice none 0 0]) (k := 6) (by kernel_rfl) rfl (fun M => All2.app (All2.app (show All2 M [pS (cSl cQ) ([] : List (List Rat))] [.slice none 0 0] from ⟨k_nil (cSl cQ) M, trivial⟩) (show All2 M [pS cI ([] : List Int)] [.slice none 0 0] from ⟨k_nil cI M, trivial⟩)) (eQ0 M))
theorem tyZ27q : TyZ Tryz.prog 27 ([pS api_Dof.cod ([] : List api_Dof)] ++ [pS cQ ([] : List Rat)] ++ [pS cQ ([] : List Rat)] ++ [pS api_Row.cod ([] : List api_Row)]) := mkZ (z := .agg #[.slice none 0 0, .slice none 0 0, .slice none 0 0, .slice none 0 0]) (k := 4) (by kernel_rfl) rfl (fun M => All2.app (All2.app (All2.app (show All2 M [pS api_Dof.cod ([] : List api_Dof)] [.slice none 0 0] from ⟨k_nil api_Dof.cod M, trivial⟩) (show All2 M [pS cQ ([] : List Rat)] [.slice none 0 0] from ⟨k_nil cQ M, trivial⟩)) (show All2 M [pS cQ ([] : List Rat)] [.slice none 0 0] from ⟨k_nil cQ M, trivial⟩)) (show All2 M [pS api_Row.cod ([] : List api_Row)] [.slice none 0 0] from ⟨k_nil api_Row.cod M, trivial⟩))
theorem tyZ27_o0_o1_o2_o3q : TyZ Tryz.prog 27 ([pO none 0 0] ++ [pO none 0 0] ++ [pO none 0 0] ++ [pO none 0 0]) := mkZ (z := .agg #[.slice none 0 0, .slice none 0 0, .slice none 0 0, .slice none 0 0]) (k := 4) (by kernel_rfl) rfl (fun M => All2.app (All2.app (All2.app (show All2 M [pO none 0 0] [.slice none 0 0] from ⟨.inl rfl, trivial⟩) (show All2 M [pO none 0 0] [.slice none 0 0] from ⟨.inl rfl, trivial⟩)) (show All2 M [pO none 0 0] [.slice none 0 0] from ⟨.inl rfl, trivial⟩)) (show All2 M [pO none 0 0] [.slice none 0 0] from ⟨.inl rfl, trivial⟩))
theorem tyZ3q : TyZ Tryz.prog 3 [pI .i64 0] := mkZ (z := .int .i64 0) (k := 1) (by kernel_rfl) rfl (fun M => show All2 M [pI .i64 0] [.int .i64 0] from ⟨rfl, trivial⟩)
theorem tyZ35q : TyZ Tryz.prog 35 (eQ 0) := mkZ (z := .agg #[.bool false, .slice none 0 0, .bool false, .slice none 0 0]) (k := 4) (by kernel_rfl) rfl (fun M => eQ0 M)
theorem tyZ38q : TyZ Tryz.prog 38 ([pI .i64 0] ++ (eQ 0)) := mkZ (z := .agg #[.int .i64 0, .bool false, .slice none 0 0, .bool false, .slice none 0 0]) (k := 5) (by kernel_rfl) rfl (fun M => All2.app (show All2 M [pI .i64 0] [.int .i64 0] from ⟨rfl, trivial⟩) (eQ0 M))
theorem tyZ40q : TyZ Tryz.prog 40 ([pI .i64 0] ++ [pI .i64 0] ++ [pI .i64 0] ++ [pI .i64 0] ++ (eQ 0) ++ [pS api_Term.cod ([] : List api_Term)] ++ [pS api_Term.cod ([] : List api_Term)] ++ (eQ 0) ++ (eQ 0)) := mkZ (z := .agg #[.int .i64 0, .int .i64 0, .int .i64 0, .int .i64 0, .bool false, .slice none 0 0, .bool false, .slice none 0 0, .slice none 0 0, .slice none 0 0, .bool false, .slice none 0 0, .bool false, .slice none 0 0, .bool false, .slice none 0 0, .bool false, .slice none 0 0]) (k := 18) (by kernel_rfl) rfl (fun M => All2.app (All2.app (All2.app (All2.app (All2.app (All2.app (All2.app (All2.app (show All2 M [pI .i64 0] [.int .i64 0] from ⟨rfl, trivial⟩) (show All2 M [pI .i64 0] [.int .i64 0] from ⟨rfl, trivial⟩)) (show All2 M [pI .i64 0] [.int .i64 0] from ⟨rfl, trivial⟩)) (show All2 M [pI .i64 0] [.int .i64 0] from ⟨rfl, trivial⟩)) (eQ0 M)) (show All2 M [pS api_Term.cod ([] : List api_Term)] [.slice none 0 0] from ⟨k_nil api_Term.cod M, trivial⟩)) (show All2 M [pS api_Term.cod ([] : List api_Term)] [.slice none 0 0] from ⟨k_nil api_Term.cod M, trivial⟩)) (eQ0 M)) (eQ0 M))
theorem tyZ47q : TyZ Tryz.prog 47 [pS (cSl cQ) ([] : List (List Rat))] := mkZ (z := .slice none 0 0) (k := 1) (by kernel_rfl) rfl (fun M => show All2 M [pS (cSl cQ) ([] : List (List Rat))] [.slice none 0 0] from ⟨k_nil (cSl cQ) M, trivial⟩)
abbrev N_gantryref01_Around : Nat := 11
def F_gantryref01_Around (a0 : Int) (a1 : Int) : Option Int :=
  bif (decide (a0 < 0)) then ((chk (a0 + 1)).bind fun v2 => (chk (-v2)).bind fun v4 => (chr v4 a1).bind fun v6 => some v6) else ((chr a0 a1).bind fun v8 => some v8)
set_option maxRecDepth 100000 in
theorem ct_gantryref01_Around {a0 : Int} {a1 : Int} {r : Int} (hF : F_gantryref01_Around a0 a1 = some r) : Ct Tryz.prog 11 [.vc (pI .i64 a0), .vc (pI .i64 a1)] (.vc (pI .i64 r)) := by
  unfold F_gantryref01_Around at hF
  refine ctO_intro Tryz.func11 rfl (by kernel_rfl) Tryz.ntmps11 rfl (fun w0 M0 => ?_)
  refine r_seq (r_reg (r_op (t_mv (.inr rfl)) ⟨k_I _ _, trivial⟩ ?_))
  refine r_nil (r_next (r_seq (r_seq (r_reg (r_mv ?_)))))
  refine r_op (t_lt rfl) ⟨rfl, k_I _ _, trivial⟩ ?_
  refine r_nil (r_next (r_if rfl (fun h1 => ?_) (fun h1 => ?_)))
  · have hF := cnd_t h1 hF
    refine r_reg (r_mv ?_)
    obtain ⟨v2, h3, hF⟩ := bnd hF
    refine r_op (t_add rfl h3) ⟨rfl, k_I _ _, trivial⟩ ?_
    obtain ⟨v4, h5, hF⟩ := bnd hF
    refine r_op (t_neg rfl h5) ⟨rfl, trivial⟩ ?_
    refine r_as ?_
    refine r_nil (r_next (r_seq (r_reg (r_mv ?_))))
    refine r_mv ?_
    obtain ⟨v6, h7, hF⟩ := bnd hF
    refine r_op (t_rem rfl h7) ⟨rfl, rfl, trivial⟩ ?_
    refine r_as ?_
    refine r_nil (r_next (r_ret (r_toR ?_)))
    obtain rfl := sm1 hF
    exact r_done1 (.inl rfl) Tryz.results11 (.tmp rfl .nil) rfl rfl
  · have hF := cnd_f h1 hF
    refine r_skip (r_next (r_seq (r_reg (r_mv ?_))))
    refine r_mv ?_
    obtain ⟨v8, h9, hF⟩ := bnd hF
    refine r_op (t_rem rfl h9) ⟨rfl, rfl, trivial⟩ ?_
    refine r_as ?_
    refine r_nil (r_next (r_ret (r_toR ?_)))
    obtain rfl := sm1 hF
    exact r_done1 (.inl rfl) Tryz.results11 (.tmp rfl .nil) rfl rfl

abbrev N_gantryref01_At : Nat := 12
def F_gantryref01_At (a0 : List Int) (a1 : Int) (a2 : Int) : Option Int :=
  bif (decide (a1 < 0)) then (some 0) else (bif (decide ((a0.length : Int) ≤ a1)) then (some 0) else ((rdL a0 a1).bind fun v3 => (F_gantryref01_Around v3 a2).bind fun v5 => some v5))
set_option maxRecDepth 100000 in
theorem ct_gantryref01_At {a0 : List Int} {a1 : Int} {a2 : Int} {r : Int} (hF : F_gantryref01_At a0 a1 a2 = some r) : Ct Tryz.prog 12 [.vc (pS cI a0), .vc (pI .i64 a1), .vc (pI .i64 a2)] (.vc (pI .i64 r)) := by
  unfold F_gantryref01_At at hF
  refine ctO_intro Tryz.func12 rfl (by kernel_rfl) Tryz.ntmps12 rfl (fun w0 M0 => ?_)
  refine r_seq (r_reg (r_op (t_mv (.inr rfl)) ⟨k_I _ _, trivial⟩ ?_))
  refine r_nil (r_next (r_seq (r_seq (r_reg (r_mv ?_)))))
  refine r_op (t_lt rfl) ⟨rfl, k_I _ _, trivial⟩ ?_
  refine r_mv ?_
  refine r_bool (fun h1 => ?_) (fun h1 => ?_)
  · have hF := cnd_t h1 hF
    refine r_opn ?_
    refine r_opn ?_
    refine r_opn ?_
    refine r_opn ?_
    refine r_op (t_pickT rfl) ⟨rfl, k_B _, trivial⟩ ?_
    refine r_nil (r_next (r_ifT rfl ?_))
    refine r_seq (r_reg (r_op (t_mv (.inr rfl)) ⟨k_I _ _, trivial⟩ ?_))
    refine r_nil (r_next (r_ret (r_toR ?_)))
    obtain rfl := sm1 hF
    exact r_done1 (.inl rfl) Tryz.results12 (.tmp rfl .nil) rfl rfl
  · have hF := cnd_f h1 hF
    refine r_opg (t_mv (.inl rfl)) ⟨rfl, trivial⟩ ?_
    refine r_opg (t_mv (.inl rfl)) ⟨rfl, trivial⟩ ?_
    refine r_opg (t_ln rfl tyS22) ⟨rfl, trivial⟩ ?_
    refine r_opg (t_ge rfl) ⟨rfl, rfl, trivial⟩ ?_
    refine r_op (t_pickF rfl) ⟨rfl, rfl, trivial⟩ ?_
    refine r_nil (r_next (r_if rfl (fun h2 => ?_) (fun h2 => ?_)))
    · have hF := cnd_t h2 hF
      refine r_seq (r_reg (r_op (t_mv (.inr rfl)) ⟨k_I _ _, trivial⟩ ?_))
      refine r_nil (r_next (r_ret (r_toR ?_)))
      obtain rfl := sm1 hF
      exact r_done1 (.inl rfl) Tryz.results12 (.tmp rfl .nil) rfl rfl
    · have hF := cnd_f h2 hF
      refine r_skip (r_next (r_seq (r_reg (r_mv ?_))))
      refine r_mv ?_
      obtain ⟨v3, h4, hF⟩ := bnd hF
      refine r_op (t_ix rfl tyS22 h4) ⟨rfl, rfl, trivial⟩ ?_
      refine r_op (t_lM 1 rfl rfl (.one tyO3)) ⟨rfl, trivial⟩ ?_
      refine r_mv ?_
      obtain ⟨v5, h6, hF⟩ := bnd hF
      refine r_op (t_call rfl (ct_gantryref01_Around h6) rfl) ⟨rfl, rfl, trivial⟩ ?_
      refine r_as ?_
      refine r_nil (r_next (r_ret (r_toR ?_)))
      obtain rfl := sm1 hF
      exact r_done1 (.inl rfl) Tryz.results12 (.tmp rfl .nil) rfl rfl

abbrev N_gantryref19_some : Nat := 64
def F_gantryref19_some_j26 (K : Nat) (x19 : List api_Term) : Option (List api_Term) :=
  some x19
def F_gantryref19_some_l25 (K : Nat) (a1 : Int) : Nat → (List api_Term) → Int → Int → Option (List api_Term)
  | 0, _, _, _ => none
  | k + 1, x11, x17, x18 => bif (decide (x18 < a1)) then ((chr x17 7).bind fun v28 => (rdL [0, 1, (-1), 0, 2, (-1), 1] v28).bind fun v30 => (chq x17 7).bind fun v32 => bif (v30 != 0) then ((chr v32 3).bind fun v35 => (chk (1 + v35)).bind fun v37 => (qof v30 v37).bind fun v39 => (apL x11 [(⟨x18, v39⟩ : api_Term)]).bind fun x41 => (chq v32 3).bind fun v48 => (chk (x18 + 1)).bind fun v50 => F_gantryref19_some_l25 K a1 k x41 v48 v50) else ((chq v32 3).bind fun v52 => (chk (x18 + 1)).bind fun v54 => F_gantryref19_some_l25 K a1 k x11 v52 v54)) else (some x11)
def F_gantryref19_some (K : Nat) (a0 : Int) (a1 : Int) : Option (List api_Term) :=
  (F_gantryref19_some_l25 K a1 K ([] : List api_Term) a0 0).bind fun x19 => F_gantryref19_some_j26 K x19
set_option maxRecDepth 100000 in
theorem ct_gantryref19_some {K : Nat} {a0 : Int} {a1 : Int} {r : List api_Term} (hF : F_gantryref19_some K a0 a1 = some r) : Ct Tryz.prog 64 [.vc (pI .i64 a0), .vc (pI .i64 a1)] (.vc (pS api_Term.cod r)) := by
  unfold F_gantryref19_some at hF
  refine ctO_intro Tryz.func64 rfl (by kernel_rfl) Tryz.ntmps64 rfl (fun w0 M0 => ?_)
  refine r_seq (r_reg (r_op (t_mv (.inr rfl)) ⟨k_nil api_Term.cod, trivial⟩ ?_))
  refine r_nil (r_next (r_seq (r_reg (r_nilO api_Term.cod 38 rfl ?_))))
  refine r_nil (r_next (r_seq (r_seq (r_reg (r_op (t_mv (.inr rfl)) ⟨k_I _ _, trivial⟩ ?_)))))
  refine r_nil (r_next (r_blk (r_cutN (fun H E => ∃ (x19 : List api_Term), ∃ (b20 : Option Nat), ∃ (c21 : Nat), ∃ (n22 : Nat), F_gantryref19_some_j26 K x19 = some r ∧ x19.length = n22 ∧ H = [hO api_Term.cod b20 c21 38 n22 x19] ∧ E = [(5, .vc (pO b20 n22 c21))]) ?_ (fun Jj26 => ?_))))
  · rintro _ _ ⟨x19, b20, c21, n22, hF, q23, rfl, rfl⟩
    unfold F_gantryref19_some_j26 at hF
    refine r_next (r_seq (r_reg (r_mv ?_)))
    refine r_as ?_
    refine r_nil (r_next (r_ret (r_toR (r_fzX 0 [4, 5, 34] rfl q23 ⟨rfl, rfl, rfl, trivial⟩ rfl ?_))))
    obtain rfl := sm1 hF
    exact r_done1 (.inl rfl) Tryz.results64 (.tmp rfl .nil) rfl rfl
  · skip
    obtain ⟨x19', hL, hRl25⟩ := bnd hF
    refine r_lp (fun k a w => ∃ (x11 : List api_Term), ∃ (x17 : Int), ∃ (x18 : Int), ∃ (b12 : Option Nat), ∃ (c13 : Nat), ∃ (n14 : Nat), F_gantryref19_some_l25 K a1 k x11 x17 x18 = some x19' ∧ x11.length = n14 ∧ hs _ [hO api_Term.cod b12 c13 38 n14 x11] [(0, .vc (pI .i64 x17)), (1, .vc (pI .i64 a1)), (5, .vc (pO b12 n14 c13)), (6, .vc (pI .i64 x18))] a w) K (fun a w ⟨_, _, _, _, _, _, hF, _, _⟩ => by cases hF) (fun k a w ⟨x11, x17, x18, b12, c13, n14, hF, q15, hh⟩ => r_at ?_ hh) (fun a w hh => ⟨([] : List api_Term), a0, 0, none, 0, 0, hL, rfl, hs_back [0] rfl (by decide) (by exact ⟨rfl, rfl, rfl, rfl, trivial⟩) hh⟩)
    rw [F_gantryref19_some_l25.eq_2] at hF
    refine r_seq (r_seq (r_reg (r_mv ?_)))
    refine r_mv ?_
    refine r_op (t_lt rfl) ⟨rfl, rfl, trivial⟩ ?_
    refine r_nil (r_next (r_if rfl (fun h27 => ?_) (fun h27 => ?_)))
    · have hF := cnd_t h27 hF
      refine r_skip (r_next (r_seq (r_blk (r_seq (r_reg (r_op (t_bs (C := cI) (xs := [.const (.int .i64 (0)), .const (.int .i64 (1)), .const (.int .i64 (-1)), .const (.int .i64 (0)), .const (.int .i64 (2)), .const (.int .i64 (-1)), .const (.int .i64 (1))]) (ps := [.vc (pI .i64 0), .vc (pI .i64 1), .vc (pI .i64 (-1)), .vc (pI .i64 0), .vc (pI .i64 2), .vc (pI .i64 (-1)), .vc (pI .i64 1)]) (zs := [0, 1, (-1), 0, 2, (-1), 1]) rfl tyS22 rfl ⟨⟨trivial, rfl⟩, ⟨trivial, rfl⟩, ⟨trivial, rfl⟩, ⟨trivial, rfl⟩, ⟨trivial, rfl⟩, ⟨trivial, rfl⟩, ⟨trivial, rfl⟩, trivial⟩ rfl) ⟨k_I _ _, k_I _ _, k_I _ _, k_I _ _, k_I _ _, k_I _ _, k_I _ _, trivial⟩ ?_))))))
      refine r_mv ?_
      obtain ⟨v28, h29, hF⟩ := bnd hF
      refine r_op (t_rem rfl h29) ⟨rfl, k_I _ _, trivial⟩ ?_
      obtain ⟨v30, h31, hF⟩ := bnd hF
      refine r_op (t_ix rfl tyS22 h31) ⟨rfl, rfl, trivial⟩ ?_
      refine r_op (t_lM 1 rfl rfl (.one tyO3)) ⟨rfl, trivial⟩ ?_
      refine r_as ?_
      refine r_nil (r_next (r_seq (r_reg (r_mv ?_))))
      obtain ⟨v32, h33, hF⟩ := bnd hF
      refine r_op (t_quo rfl h33) ⟨rfl, k_I _ _, trivial⟩ ?_
      refine r_as ?_
      refine r_nil (r_next (r_seq (r_seq (r_reg (r_mv ?_)))))
      refine r_op (t_ne rfl) ⟨rfl, k_I _ _, trivial⟩ ?_
      refine r_nil (r_next (r_if rfl (fun h34 => ?_) (fun h34 => ?_)))
      · have hF := cnd_t h34 hF
        refine r_reg (r_mv ?_)
        refine r_mv ?_
        refine r_mv ?_
        refine r_mv ?_
        obtain ⟨v35, h36, hF⟩ := bnd hF
        refine r_op (t_rem rfl h36) ⟨rfl, k_I _ _, trivial⟩ ?_
        obtain ⟨v37, h38, hF⟩ := bnd hF
        refine r_op (t_add rfl h38) ⟨k_I _ _, rfl, trivial⟩ ?_
        obtain ⟨v39, h40, hF⟩ := bnd hF
        refine r_op (t_call rfl (qc_gantryref05_Of h40) rfl) ⟨rfl, rfl, trivial⟩ ?_
        refine r_op (t_bld (is := [0, 1]) (xs := [.tmp 23, .tmp 28]) (ps := [.vc (pI .i64 x18), .va (eQ v39)]) rfl tyB38q rfl rfl ⟨trivial, trivial, trivial⟩ rfl) ⟨rfl, rfl, trivial⟩ ?_
        refine r_op (t_bs (C := api_Term.cod) (xs := [.tmp 29]) (ps := [.va ([pI .i64 x18] ++ (eQ v39))]) (zs := [(⟨x18, v39⟩ : api_Term)]) rfl tyS29 rfl ⟨⟨trivial, rfl⟩, trivial⟩ rfl) ⟨rfl, trivial⟩ ?_
        obtain ⟨x41, h42, hF⟩ := bnd hF
        refine r_app 0 rfl tyS29 rfl rfl q15 rfl rfl h42 (fun b43 c44 H45 e46 => ?_)
        cases e46
        refine r_as ?_
        refine r_nil (r_next (r_reg (r_mv ?_)))
        obtain ⟨v48, h49, hF⟩ := bnd hF
        refine r_op (t_quo rfl h49) ⟨rfl, k_I _ _, trivial⟩ ?_
        refine r_as ?_
        refine r_nil (r_blkN (r_next (r_reg (r_mv ?_))))
        obtain ⟨v50, h51, hF⟩ := bnd hF
        refine r_op (t_add rfl h51) ⟨rfl, k_I _ _, trivial⟩ ?_
        refine r_as ?_
        refine r_nil ?_
        exact r_round (fun a w hh => ⟨x41, v48, v50, b43, c44, (n14 + [(⟨x18, v39⟩ : api_Term)].length), hF, (apL_len h42 q15), hs_back [0] rfl (by decide) (by exact ⟨rfl, rfl, rfl, rfl, trivial⟩) hh⟩)
      · have hF := cnd_f h34 hF
        refine r_skip (r_next (r_reg (r_mv ?_)))
        obtain ⟨v52, h53, hF⟩ := bnd hF
        refine r_op (t_quo rfl h53) ⟨rfl, k_I _ _, trivial⟩ ?_
        refine r_as ?_
        refine r_nil (r_blkN (r_next (r_reg (r_mv ?_))))
        obtain ⟨v54, h55, hF⟩ := bnd hF
        refine r_op (t_add rfl h55) ⟨rfl, k_I _ _, trivial⟩ ?_
        refine r_as ?_
        refine r_nil ?_
        exact r_round (fun a w hh => ⟨x11, v52, v54, b12, c13, n14, hF, q15, hs_back [0] rfl (by decide) (by exact ⟨rfl, rfl, rfl, rfl, trivial⟩) hh⟩)
    · have hF := cnd_f h27 hF
      refine r_brk ?_
      obtain rfl := sm1 hF
      exact r_backJ Jj26 ⟨x11, b12, c13, n14, hRl25, q15, rfl, rfl⟩ [0] rfl ⟨rfl, trivial⟩

abbrev N_gantryref19_Make : Nat := 10
def F_gantryref19_Make_j121 (K : Nat) (x75 : List Rat) (x81 : List api_Dof) (x93 : List Rat) (x114 : List api_Row) : Option gantryref19_Scene :=
  some (⟨x81, x75, x93, x114⟩ : gantryref19_Scene)
def F_gantryref19_Make_j160 (K : Nat) (x107 : List api_Row) (x113 : Int) (v129 : Int) (recl120 : (List api_Row) → Int → Option (List api_Row)) (x159 : api_Row) : Option (List api_Row) :=
  (qsgn x159.mu).bind fun v161 => bif (v161 == 0) then ((apL x107 [(⟨x159.kind, x159.a, x159.b, x159.edge, x159.gap, x159.j, [], 0, x159.e⟩ : api_Row)]).bind fun x164 => (chk (x113 + 1)).bind fun v171 => recl120 x164 v171) else ((chr v129 5).bind fun v173 => bif (v173 == 0) then ((apL x107 [(⟨x159.kind, x159.a, x159.b, x159.edge, x159.gap, x159.j, [], 0, x159.e⟩ : api_Row)]).bind fun x176 => (chk (x113 + 1)).bind fun v183 => recl120 x176 v183) else ((apL x107 [x159]).bind fun x185 => (chk (x113 + 1)).bind fun v192 => recl120 x185 v192))
def F_gantryref19_Make_l120 (K : Nat) (a0 : List Int) (a1 : Bool) (v4 : Int) : Nat → (List api_Row) → Int → Option (List api_Row)
  | 0, _, _ => none
  | k + 1, x107, x113 => (F_gantryref01_At a0 8 5).bind fun v122 => bif (decide (x113 < v122)) then ((chk (3 * x113)).bind fun v125 => (chk (9 + v125)).bind fun v127 => (F_gantryref01_At a0 v127 1099511627776).bind fun v129 => (F_gantryref19_some K v129 v4).bind fun v131 => (chk (3 * x113)).bind fun v133 => (chk (10 + v133)).bind fun v135 => (F_gantryref01_At a0 v135 1099511627776).bind fun v137 => (F_gantryref19_some K v137 v4).bind fun v139 => (chk (3 * x113)).bind fun v141 => (chk (11 + v141)).bind fun v143 => (F_gantryref01_At a0 v143 5).bind fun v145 => (chk (3 * x113)).bind fun v147 => (chk (11 + v147)).bind fun v149 => (F_gantryref01_At a0 v149 3).bind fun v151 => (chk (1 + v151)).bind fun v153 => (qof v145 v153).bind fun v155 => bif (!a1) then ((chk (v4 - 1)).bind fun v195 => (F_gantryref19_some K v129 v195).bind fun v197 => F_gantryref19_Make_j160 K x107 x113 v129 (F_gantryref19_Make_l120 K a0 a1 v4 k) (⟨0, 0, x113, 0, 0, v197, v139, v155, 0⟩ : api_Row)) else (F_gantryref19_Make_j160 K x107 x113 v129 (F_gantryref19_Make_l120 K a0 a1 v4 k) (⟨0, 0, x113, 0, 0, v131, v139, v155, 0⟩ : api_Row))) else (some x107)
def F_gantryref19_Make_j99 (K : Nat) (a0 : List Int) (a1 : Bool) (v4 : Int) (x75 : List Rat) (x81 : List api_Dof) (x93 : List Rat) : Option gantryref19_Scene :=
  (F_gantryref19_Make_l120 K a0 a1 v4 K ([] : List api_Row) 0).bind fun x114 => F_gantryref19_Make_j121 K x75 x81 x93 x114
def F_gantryref19_Make_j242 (K : Nat) (x69 : List Rat) (x75 : List Rat) (x81 : List api_Dof) (x235 : List api_Row) : Option gantryref19_Scene :=
  some (⟨x81, x75, x69, x235⟩ : gantryref19_Scene)
def F_gantryref19_Make_j280 (K : Nat) (x228 : List api_Row) (x234 : Int) (v250 : Int) (v252 : List api_Term) (v260 : List api_Term) (v276 : Rat) (recl241 : (List api_Row) → Int → Option (List api_Row)) : Option (List api_Row) :=
  (qsgn v276).bind fun v281 => bif (v281 == 0) then ((apL x228 [(⟨0, 0, x234, 0, 0, v252, [], 0, 0⟩ : api_Row)]).bind fun x284 => (chk (x234 + 1)).bind fun v291 => recl241 x284 v291) else ((chr v250 5).bind fun v293 => bif (v293 == 0) then ((apL x228 [(⟨0, 0, x234, 0, 0, v252, [], 0, 0⟩ : api_Row)]).bind fun x296 => (chk (x234 + 1)).bind fun v303 => recl241 x296 v303) else ((apL x228 [(⟨0, 0, x234, 0, 0, v252, v260, v276, 0⟩ : api_Row)]).bind fun x305 => (chk (x234 + 1)).bind fun v312 => recl241 x305 v312))
def F_gantryref19_Make_l241 (K : Nat) (a0 : List Int) (v4 : Int) : Nat → (List api_Row) → Int → Option (List api_Row)
  | 0, _, _ => none
  | k + 1, x228, x234 => (F_gantryref01_At a0 8 5).bind fun v243 => bif (decide (x234 < v243)) then ((chk (3 * x234)).bind fun v246 => (chk (9 + v246)).bind fun v248 => (F_gantryref01_At a0 v248 1099511627776).bind fun v250 => (F_gantryref19_some K v250 v4).bind fun v252 => (chk (3 * x234)).bind fun v254 => (chk (10 + v254)).bind fun v256 => (F_gantryref01_At a0 v256 1099511627776).bind fun v258 => (F_gantryref19_some K v258 v4).bind fun v260 => (chk (3 * x234)).bind fun v262 => (chk (11 + v262)).bind fun v264 => (F_gantryref01_At a0 v264 5).bind fun v266 => (chk (3 * x234)).bind fun v268 => (chk (11 + v268)).bind fun v270 => (F_gantryref01_At a0 v270 3).bind fun v272 => (chk (1 + v272)).bind fun v274 => (qof v266 v274).bind fun v276 => F_gantryref19_Make_j280 K x228 x234 v250 v252 v260 v276 (F_gantryref19_Make_l241 K a0 v4 k) ) else (some x228)
def F_gantryref19_Make_j220 (K : Nat) (a0 : List Int) (v4 : Int) (x69 : List Rat) (x75 : List Rat) (x81 : List api_Dof) : Option gantryref19_Scene :=
  (F_gantryref19_Make_l241 K a0 v4 K ([] : List api_Row) 0).bind fun x235 => F_gantryref19_Make_j242 K x69 x75 x81 x235
def F_gantryref19_Make_j88 (K : Nat) (a0 : List Int) (a1 : Bool) (v4 : Int) (x69 : List Rat) (x75 : List Rat) (x81 : List api_Dof) : Option gantryref19_Scene :=
  (F_gantryref01_At a0 5 3).bind fun v89 => bif (decide (0 < v89)) then (bif (!a1) then ((chk (v4 - 1)).bind fun v202 => (F_gantryref01_At a0 6 9).bind fun v204 => (chk (v204 - 4)).bind fun v206 => (F_gantryref01_At a0 7 3).bind fun v208 => (chk (1 + v208)).bind fun v210 => (qof v206 v210).bind fun v212 => (rdL x69 v202).bind fun v214 => (stL x69 v202 v212).bind fun x216 => F_gantryref19_Make_j99 K a0 a1 v4 x75 x81 x216) else (F_gantryref19_Make_j99 K a0 a1 v4 x75 x81 x69)) else (F_gantryref19_Make_j220 K a0 v4 x69 x75 x81 )
def F_gantryref19_Make_l87 (K : Nat) (a0 : List Int) (v4 : Int) : Nat → (List Rat) → (List Rat) → (List api_Dof) → Int → Option ((List Rat) × (List Rat) × (List api_Dof))
  | 0, _, _, _, _ => none
  | k + 1, x50, x56, x62, x68 => bif (decide (x68 < v4)) then ((chk (1 + x68)).bind fun v315 => (F_gantryref01_At a0 v315 1073741824).bind fun v317 => (chr v317 3).bind fun v321 => (chk (1 + v321)).bind fun v323 => (chq v317 3).bind fun v325 => (chr v325 4).bind fun v327 => (chk (1 + v327)).bind fun v329 => (qof v323 v329).bind fun v331 => (apL x62 [(⟨v331, 0, false, 0, 0⟩ : api_Dof)]).bind fun x333 => (chq v317 12).bind fun v342 => (chr v342 13).bind fun v344 => (chk (v344 - 6)).bind fun v346 => (chq v317 156).bind fun v348 => (chr v348 3).bind fun v350 => (chk (1 + v350)).bind fun v352 => (qof v346 v352).bind fun v354 => (apL x56 [v354]).bind fun x356 => (apL x50 [0]).bind fun x363 => (chk (x68 + 1)).bind fun v370 => F_gantryref19_Make_l87 K a0 v4 k x363 x356 x333 v370) else (some (x50, x56, x62))
def F_gantryref19_Make (K : Nat) (a0 : List Int) (a1 : Bool) : Option gantryref19_Scene :=
  (F_gantryref01_At a0 0 4).bind fun v2 => (chk (1 + v2)).bind fun v4 => (F_gantryref19_Make_l87 K a0 v4 K ([] : List Rat) ([] : List Rat) ([] : List api_Dof) 0).bind fun (x69, x75, x81) => F_gantryref19_Make_j88 K a0 a1 v4 x69 x75 x81
set_option maxRecDepth 100000 in
theorem ct_gantryref19_Make {K : Nat} {a0 : List Int} {a1 : Bool} {r : gantryref19_Scene} (hF : F_gantryref19_Make K a0 a1 = some r) : Ct Tryz.prog 10 [.vc (pS cI a0), .vc (pB a1)] (.va (gantryref19_Scene.enc r)) := by
  unfold F_gantryref19_Make at hF
  refine ctO_intro Tryz.func10 rfl (by kernel_rfl) Tryz.ntmps10 rfl (fun w0 M0 => ?_)
  refine r_seq (r_reg (r_alloc rfl tyZ27q (fun b1 => ?_)))
  refine r_nil (r_next (r_seq (r_reg (r_mv ?_))))
  obtain ⟨v2, h3, hF⟩ := bnd hF
  refine r_op (t_call rfl (ct_gantryref01_At h3) rfl) ⟨rfl, k_I _ _, k_I _ _, trivial⟩ ?_
  obtain ⟨v4, h5, hF⟩ := bnd hF
  refine r_op (t_add rfl h5) ⟨k_I _ _, rfl, trivial⟩ ?_
  refine r_as ?_
  refine r_nil (r_next (r_seq (r_reg (r_newL api_Dof.cod 66 ?_))))
  refine r_newL cQ 35 ?_
  refine r_newL cQ 35 ?_
  refine r_newL api_Row.cod 40 ?_
  refine r_alloc rfl tyZ27_o0_o1_o2_o3q (fun b30 => ?_)
  refine r_nil (r_next (r_seq (r_seq (r_reg (r_op (t_mv (.inr rfl)) ⟨k_I _ _, trivial⟩ ?_)))))
  refine r_nil (r_next (r_blk (r_cutN (fun H E => ∃ (x69 : List Rat), ∃ (x75 : List Rat), ∃ (x81 : List api_Dof), ∃ (b70 : Option Nat), ∃ (c71 : Nat), ∃ (n72 : Nat), ∃ (b76 : Option Nat), ∃ (c77 : Nat), ∃ (n78 : Nat), ∃ (b82 : Option Nat), ∃ (c83 : Nat), ∃ (n84 : Nat), F_gantryref19_Make_j88 K a0 a1 v4 x69 x75 x81 = some r ∧ x69.length = n72 ∧ x75.length = n78 ∧ x81.length = n84 ∧ H = [⟨some b30, 1, 27, 4, 1, ([pO b82 n84 c83] ++ [pO b76 n78 c77] ++ [pO b70 n72 c71] ++ [pO none 0 0])⟩, hO api_Row.cod none 0 40 0 ([] : List api_Row), hO cQ b70 c71 35 n72 x69, hO cQ b76 c77 35 n78 x75, hO api_Dof.cod b82 c83 66 n84 x81, ⟨some b1, 1, 27, 4, 1, ([pS api_Dof.cod ([] : List api_Dof)] ++ [pS cQ ([] : List Rat)] ++ [pS cQ ([] : List Rat)] ++ [pS api_Row.cod ([] : List api_Row)])⟩] ∧ E = [(0, .vc (pS cI a0)), (1, .vc (pB a1)), (4, .vc (pP (some b1) 0)), (5, .vc (pI .i64 v4)), (6, .vc (pP (some b30) 0))]) ?_ (fun Jj88 => ?_))))
  · rintro _ _ ⟨x69, x75, x81, b70, c71, n72, b76, c77, n78, b82, c83, n84, hF, q73, q79, q85, rfl, rfl⟩
    unfold F_gantryref19_Make_j88 at hF
    refine r_next (r_seq (r_reg (r_mv ?_)))
    obtain ⟨v89, h90, hF⟩ := bnd hF
    refine r_op (t_call rfl (ct_gantryref01_At h90) rfl) ⟨rfl, k_I _ _, k_I _ _, trivial⟩ ?_
    refine r_op (t_gt rfl) ⟨rfl, k_I _ _, trivial⟩ ?_
    refine r_mv ?_
    refine r_bool (fun h91 => ?_) (fun h91 => ?_)
    · have hF := cnd_t h91 hF
      refine r_opg (t_mv (.inl rfl)) ⟨rfl, trivial⟩ ?_
      refine r_opg (t_not rfl) ⟨rfl, trivial⟩ ?_
      refine r_op (t_pickT rfl) ⟨rfl, rfl, trivial⟩ ?_
      refine r_as ?_
      refine r_nil (r_next (r_seq (r_cutS (fun H E => ∃ (x93 : List Rat), ∃ (b94 : Option Nat), ∃ (c95 : Nat), ∃ (n96 : Nat), F_gantryref19_Make_j99 K a0 a1 v4 x75 x81 x93 = some r ∧ x93.length = n96 ∧ H = [⟨some b30, 1, 27, 4, 1, ([pO b82 n84 c83] ++ [pO b76 n78 c77] ++ [pO b94 n96 c95] ++ [pO none 0 0])⟩, hO api_Row.cod none 0 40 0 ([] : List api_Row), hO cQ b94 c95 35 n96 x93, hO cQ b76 c77 35 n78 x75, hO api_Dof.cod b82 c83 66 n84 x81, ⟨some b1, 1, 27, 4, 1, ([pS api_Dof.cod ([] : List api_Dof)] ++ [pS cQ ([] : List Rat)] ++ [pS cQ ([] : List Rat)] ++ [pS api_Row.cod ([] : List api_Row)])⟩] ∧ E = [(0, .vc (pS cI a0)), (4, .vc (pP (some b1) 0)), (5, .vc (pI .i64 v4)), (6, .vc (pP (some b30) 0)), (9, .vc (pB (!a1)))]) ?_ (fun Jj99 => ?_))))
      · rintro _ _ ⟨x93, b94, c95, n96, hF, q97, rfl, rfl⟩
        unfold F_gantryref19_Make_j99 at hF
        refine r_seq (r_seq (r_reg (r_op (t_mv (.inr rfl)) ⟨k_I _ _, trivial⟩ ?_)))
        refine r_nil (r_next (r_blk (r_cutN (fun H E => ∃ (x114 : List api_Row), ∃ (b115 : Option Nat), ∃ (c116 : Nat), ∃ (n117 : Nat), F_gantryref19_Make_j121 K x75 x81 x93 x114 = some r ∧ x114.length = n117 ∧ H = [⟨some b30, 1, 27, 4, 1, ([pO b82 n84 c83] ++ [pO b76 n78 c77] ++ [pO b94 n96 c95] ++ [pO b115 n117 c116])⟩, hO api_Row.cod b115 c116 40 n117 x114, hO cQ b94 c95 35 n96 x93, hO cQ b76 c77 35 n78 x75, hO api_Dof.cod b82 c83 66 n84 x81, ⟨some b1, 1, 27, 4, 1, ([pS api_Dof.cod ([] : List api_Dof)] ++ [pS cQ ([] : List Rat)] ++ [pS cQ ([] : List Rat)] ++ [pS api_Row.cod ([] : List api_Row)])⟩] ∧ E = [(4, .vc (pP (some b1) 0)), (6, .vc (pP (some b30) 0))]) ?_ (fun Jj121 => ?_))))
        · rintro _ _ ⟨x114, b115, c116, n117, hF, q118, rfl, rfl⟩
          unfold F_gantryref19_Make_j121 at hF
          refine r_next (r_seq (r_reg (r_fbL 4 0 0 rfl q85 rfl rfl rfl rfl rfl ?_)))
          refine r_fbL 3 0 1 rfl q79 rfl rfl rfl rfl rfl ?_
          refine r_fbL 2 0 2 rfl q97 rfl rfl rfl rfl rfl ?_
          refine r_fbL 1 0 3 rfl q118 rfl rfl rfl rfl rfl ?_
          refine r_op (t_l 0 4 rfl rfl rfl rfl (.agg tyA27)) ⟨rfl, trivial⟩ ?_
          refine r_op0 (t_s 1 rfl rfl rfl tyA27.s) ⟨rfl, rfl, trivial⟩ ?_
          refine r_nil (r_next (r_ret (r_toR ?_)))
          obtain rfl := sm1 hF
          exact r_done1 (.inl rfl) Tryz.results10 (rv_cell 1 4 rfl rfl rfl rfl (.agg tyA27) .nil) rfl rfl
        · skip
          obtain ⟨x114', hL, hRl120⟩ := bnd hF
          refine r_lp (fun k a w => ∃ (x107 : List api_Row), ∃ (x113 : Int), ∃ (b108 : Option Nat), ∃ (c109 : Nat), ∃ (n110 : Nat), F_gantryref19_Make_l120 K a0 a1 v4 k x107 x113 = some x114' ∧ x107.length = n110 ∧ hs _ [⟨some b30, 1, 27, 4, 1, ([pO b82 n84 c83] ++ [pO b76 n78 c77] ++ [pO b94 n96 c95] ++ [pO b108 n110 c109])⟩, hO api_Row.cod b108 c109 40 n110 x107, hO cQ b94 c95 35 n96 x93, hO cQ b76 c77 35 n78 x75, hO api_Dof.cod b82 c83 66 n84 x81, ⟨some b1, 1, 27, 4, 1, ([pS api_Dof.cod ([] : List api_Dof)] ++ [pS cQ ([] : List Rat)] ++ [pS cQ ([] : List Rat)] ++ [pS api_Row.cod ([] : List api_Row)])⟩] [(0, .vc (pS cI a0)), (4, .vc (pP (some b1) 0)), (5, .vc (pI .i64 v4)), (6, .vc (pP (some b30) 0)), (9, .vc (pB (!a1))), (10, .vc (pI .i64 x113))] a w) K (fun a w ⟨_, _, _, _, _, hF, _, _⟩ => by cases hF) (fun k a w ⟨x107, x113, b108, c109, n110, hF, q111, hh⟩ => r_at ?_ hh) (fun a w hh => ⟨([] : List api_Row), 0, none, 0, 0, hL, rfl, hs_back [0, 1, 2, 3, 4, 5] rfl (by decide) (by exact ⟨rfl, rfl, rfl, rfl, rfl, rfl, trivial⟩) hh⟩)
          rw [F_gantryref19_Make_l120.eq_2] at hF
          refine r_seq (r_seq (r_reg (r_mv ?_)))
          refine r_mv ?_
          obtain ⟨v122, h123, hF⟩ := bnd hF
          refine r_op (t_call rfl (ct_gantryref01_At h123) rfl) ⟨rfl, k_I _ _, k_I _ _, trivial⟩ ?_
          refine r_op (t_lt rfl) ⟨rfl, rfl, trivial⟩ ?_
          refine r_nil (r_next (r_if rfl (fun h124 => ?_) (fun h124 => ?_)))
          · have hF := cnd_t h124 hF
            refine r_skip (r_next (r_seq (r_blk (r_seq (r_reg (r_mv ?_))))))
            refine r_mv ?_
            obtain ⟨v125, h126, hF⟩ := bnd hF
            refine r_op (t_mul rfl h126) ⟨k_I _ _, rfl, trivial⟩ ?_
            obtain ⟨v127, h128, hF⟩ := bnd hF
            refine r_op (t_add rfl h128) ⟨k_I _ _, rfl, trivial⟩ ?_
            obtain ⟨v129, h130, hF⟩ := bnd hF
            refine r_op (t_call rfl (ct_gantryref01_At h130) rfl) ⟨rfl, rfl, k_I _ _, trivial⟩ ?_
            refine r_as ?_
            refine r_nil (r_next (r_seq (r_reg (r_mv ?_))))
            refine r_mv ?_
            obtain ⟨v131, h132, hF⟩ := bnd hF
            refine r_op (t_call rfl (ct_gantryref19_some h132) rfl) ⟨rfl, rfl, trivial⟩ ?_
            refine r_mv ?_
            refine r_mv ?_
            obtain ⟨v133, h134, hF⟩ := bnd hF
            refine r_op (t_mul rfl h134) ⟨k_I _ _, rfl, trivial⟩ ?_
            obtain ⟨v135, h136, hF⟩ := bnd hF
            refine r_op (t_add rfl h136) ⟨k_I _ _, rfl, trivial⟩ ?_
            obtain ⟨v137, h138, hF⟩ := bnd hF
            refine r_op (t_call rfl (ct_gantryref01_At h138) rfl) ⟨rfl, rfl, k_I _ _, trivial⟩ ?_
            refine r_mv ?_
            obtain ⟨v139, h140, hF⟩ := bnd hF
            refine r_op (t_call rfl (ct_gantryref19_some h140) rfl) ⟨rfl, rfl, trivial⟩ ?_
            refine r_mv ?_
            refine r_mv ?_
            obtain ⟨v141, h142, hF⟩ := bnd hF
            refine r_op (t_mul rfl h142) ⟨k_I _ _, rfl, trivial⟩ ?_
            obtain ⟨v143, h144, hF⟩ := bnd hF
            refine r_op (t_add rfl h144) ⟨k_I _ _, rfl, trivial⟩ ?_
            obtain ⟨v145, h146, hF⟩ := bnd hF
            refine r_op (t_call rfl (ct_gantryref01_At h146) rfl) ⟨rfl, rfl, k_I _ _, trivial⟩ ?_
            refine r_mv ?_
            refine r_mv ?_
            obtain ⟨v147, h148, hF⟩ := bnd hF
            refine r_op (t_mul rfl h148) ⟨k_I _ _, rfl, trivial⟩ ?_
            obtain ⟨v149, h150, hF⟩ := bnd hF
            refine r_op (t_add rfl h150) ⟨k_I _ _, rfl, trivial⟩ ?_
            obtain ⟨v151, h152, hF⟩ := bnd hF
            refine r_op (t_call rfl (ct_gantryref01_At h152) rfl) ⟨rfl, rfl, k_I _ _, trivial⟩ ?_
            obtain ⟨v153, h154, hF⟩ := bnd hF
            refine r_op (t_add rfl h154) ⟨k_I _ _, rfl, trivial⟩ ?_
            obtain ⟨v155, h156, hF⟩ := bnd hF
            refine r_op (t_call rfl (qc_gantryref05_Of h156) rfl) ⟨rfl, rfl, trivial⟩ ?_
            refine r_mv ?_
            refine r_op (t_bld (is := [5, 6, 7, 2]) (xs := [.tmp 92, .tmp 99, .tmp 111, .tmp 112]) (ps := [.vc (pS api_Term.cod v131), .vc (pS api_Term.cod v139), .va (eQ v155), .vc (pI .i64 x113)]) rfl tyB40q rfl rfl ⟨trivial, trivial, trivial, trivial, trivial⟩ rfl) ⟨rfl, rfl, rfl, rfl, trivial⟩ ?_
            refine r_alloc rfl tyZ40q (fun b157 => ?_)
            refine r_op0 (t_s 0 rfl rfl rfl tyA40.s) ⟨rfl, rfl, trivial⟩ ?_
            refine r_nil (r_next (r_seq (r_cutS (fun H E => ∃ (x159 : api_Row), F_gantryref19_Make_j160 K x107 x113 v129 (F_gantryref19_Make_l120 K a0 a1 v4 k) x159 = some x114' ∧ H = [⟨some b157, 1, 40, 18, 1, (api_Row.enc x159)⟩, ⟨some b30, 1, 27, 4, 1, ([pO b82 n84 c83] ++ [pO b76 n78 c77] ++ [pO b94 n96 c95] ++ [pO b108 n110 c109])⟩, hO api_Row.cod b108 c109 40 n110 x107, hO cQ b94 c95 35 n96 x93, hO cQ b76 c77 35 n78 x75, hO api_Dof.cod b82 c83 66 n84 x81, ⟨some b1, 1, 27, 4, 1, ([pS api_Dof.cod ([] : List api_Dof)] ++ [pS cQ ([] : List Rat)] ++ [pS cQ ([] : List Rat)] ++ [pS api_Row.cod ([] : List api_Row)])⟩] ∧ E = [(0, .vc (pS cI a0)), (4, .vc (pP (some b1) 0)), (5, .vc (pI .i64 v4)), (6, .vc (pP (some b30) 0)), (9, .vc (pB (!a1))), (10, .vc (pI .i64 x113)), (11, .vc (pI .i64 v129)), (12, .vc (pP (some b157) 0))]) ?_ (fun Jj160 => ?_))))
            · rintro _ _ ⟨x159, hF, rfl, rfl⟩
              unfold F_gantryref19_Make_j160 at hF
              refine r_seq (r_seq (r_reg (r_op (t_fa (off := 0) (k := 10) rfl tyF40_7) ⟨rfl, trivial⟩ ?_)))
              refine r_op (t_l 0 4 rfl rfl rfl rfl (.agg tyA35)) ⟨rfl, trivial⟩ ?_
              obtain ⟨v161, h162, hF⟩ := bnd hF
              refine r_op (t_call rfl (qc_gantryref05_Sign h162) rfl) ⟨rfl, trivial⟩ ?_
              refine r_op (t_eq rfl) ⟨rfl, k_I _ _, trivial⟩ ?_
              refine r_mv ?_
              refine r_bool (fun h163 => ?_) (fun h163 => ?_)
              · have hF := cnd_t h163 hF
                refine r_opn ?_
                refine r_opn ?_
                refine r_opn ?_
                refine r_op (t_pickT rfl) ⟨rfl, k_B _, trivial⟩ ?_
                refine r_nil (r_next (r_ifT rfl ?_))
                refine r_seq (r_reg (r_op (t_fa (off := 0) (k := 9) rfl tyF40_6) ⟨rfl, trivial⟩ ?_))
                refine r_op0 (t_s 0 rfl rfl rfl tyO29.s) ⟨rfl, k_nil api_Term.cod, trivial⟩ ?_
                refine r_nil (r_next (r_reg (r_op (t_bld (is := []) (xs := []) (ps := []) rfl tyB35q rfl rfl trivial rfl) trivial ?_)))
                refine r_op (t_fa (off := 0) (k := 10) rfl tyF40_7) ⟨rfl, trivial⟩ ?_
                refine r_op0 (t_s 0 rfl rfl rfl tyA35.s) ⟨rfl, rfl, trivial⟩ ?_
                refine r_nil (r_next (r_reg (r_op (t_fa (off := 0) (k := 3) rfl tyF27_3) ⟨rfl, trivial⟩ ?_)))
                refine r_op (t_l 1 1 rfl rfl rfl rfl (.one tyO25)) ⟨rfl, trivial⟩ ?_
                refine r_op (t_l 0 18 rfl rfl rfl rfl (.agg tyA40)) ⟨rfl, trivial⟩ ?_
                refine r_op (t_bs (C := api_Row.cod) (xs := [.tmp 134]) (ps := [.va ([pI .i64 x159.kind] ++ [pI .i64 x159.a] ++ [pI .i64 x159.b] ++ [pI .i64 x159.edge] ++ (eQ x159.gap) ++ [pS api_Term.cod x159.j] ++ [pS api_Term.cod []] ++ (eQ 0) ++ (eQ x159.e))]) (zs := [(⟨x159.kind, x159.a, x159.b, x159.edge, x159.gap, x159.j, [], 0, x159.e⟩ : api_Row)]) rfl tyS25 rfl ⟨⟨trivial, rfl⟩, trivial⟩ rfl) ⟨rfl, trivial⟩ ?_
                obtain ⟨x164, h165, hF⟩ := bnd hF
                refine r_app 2 rfl tyS25 rfl rfl q111 rfl rfl h165 (fun b166 c167 H168 e169 => ?_)
                cases e169
                refine r_op (t_fa (off := 0) (k := 3) rfl tyF27_3) ⟨rfl, trivial⟩ ?_
                refine r_op0 (t_s 1 rfl rfl rfl tyO25.s) ⟨rfl, rfl, trivial⟩ ?_
                refine r_nil (r_blkN (r_next (r_reg (r_mv ?_))))
                obtain ⟨v171, h172, hF⟩ := bnd hF
                refine r_op (t_add rfl h172) ⟨rfl, k_I _ _, trivial⟩ ?_
                refine r_as ?_
                refine r_nil ?_
                exact r_round (fun a w hh => ⟨x164, v171, b166, c167, (n110 + [(⟨x159.kind, x159.a, x159.b, x159.edge, x159.gap, x159.j, [], 0, x159.e⟩ : api_Row)].length), hF, (apL_len h165 q111), hs_back [1, 2, 3, 4, 5, 6] rfl (by decide) (by exact ⟨rfl, rfl, rfl, rfl, rfl, rfl, trivial⟩) hh⟩)
              · have hF := cnd_f h163 hF
                refine r_opg (t_mv (.inl rfl)) ⟨rfl, trivial⟩ ?_
                obtain ⟨v173, h174, hF⟩ := bnd hF
                refine r_opg (t_rem rfl h174) ⟨rfl, k_I _ _, trivial⟩ ?_
                refine r_opg (t_eq rfl) ⟨rfl, k_I _ _, trivial⟩ ?_
                refine r_op (t_pickF rfl) ⟨rfl, rfl, trivial⟩ ?_
                refine r_nil (r_next (r_if rfl (fun h175 => ?_) (fun h175 => ?_)))
                · have hF := cnd_t h175 hF
                  refine r_seq (r_reg (r_op (t_fa (off := 0) (k := 9) rfl tyF40_6) ⟨rfl, trivial⟩ ?_))
                  refine r_op0 (t_s 0 rfl rfl rfl tyO29.s) ⟨rfl, k_nil api_Term.cod, trivial⟩ ?_
                  refine r_nil (r_next (r_reg (r_op (t_bld (is := []) (xs := []) (ps := []) rfl tyB35q rfl rfl trivial rfl) trivial ?_)))
                  refine r_op (t_fa (off := 0) (k := 10) rfl tyF40_7) ⟨rfl, trivial⟩ ?_
                  refine r_op0 (t_s 0 rfl rfl rfl tyA35.s) ⟨rfl, rfl, trivial⟩ ?_
                  refine r_nil (r_next (r_reg (r_op (t_fa (off := 0) (k := 3) rfl tyF27_3) ⟨rfl, trivial⟩ ?_)))
                  refine r_op (t_l 1 1 rfl rfl rfl rfl (.one tyO25)) ⟨rfl, trivial⟩ ?_
                  refine r_op (t_l 0 18 rfl rfl rfl rfl (.agg tyA40)) ⟨rfl, trivial⟩ ?_
                  refine r_op (t_bs (C := api_Row.cod) (xs := [.tmp 134]) (ps := [.va ([pI .i64 x159.kind] ++ [pI .i64 x159.a] ++ [pI .i64 x159.b] ++ [pI .i64 x159.edge] ++ (eQ x159.gap) ++ [pS api_Term.cod x159.j] ++ [pS api_Term.cod []] ++ (eQ 0) ++ (eQ x159.e))]) (zs := [(⟨x159.kind, x159.a, x159.b, x159.edge, x159.gap, x159.j, [], 0, x159.e⟩ : api_Row)]) rfl tyS25 rfl ⟨⟨trivial, rfl⟩, trivial⟩ rfl) ⟨rfl, trivial⟩ ?_
                  obtain ⟨x176, h177, hF⟩ := bnd hF
                  refine r_app 2 rfl tyS25 rfl rfl q111 rfl rfl h177 (fun b178 c179 H180 e181 => ?_)
                  cases e181
                  refine r_op (t_fa (off := 0) (k := 3) rfl tyF27_3) ⟨rfl, trivial⟩ ?_
                  refine r_op0 (t_s 1 rfl rfl rfl tyO25.s) ⟨rfl, rfl, trivial⟩ ?_
                  refine r_nil (r_blkN (r_next (r_reg (r_mv ?_))))
                  obtain ⟨v183, h184, hF⟩ := bnd hF
                  refine r_op (t_add rfl h184) ⟨rfl, k_I _ _, trivial⟩ ?_
                  refine r_as ?_
                  refine r_nil ?_
                  exact r_round (fun a w hh => ⟨x176, v183, b178, c179, (n110 + [(⟨x159.kind, x159.a, x159.b, x159.edge, x159.gap, x159.j, [], 0, x159.e⟩ : api_Row)].length), hF, (apL_len h177 q111), hs_back [1, 2, 3, 4, 5, 6] rfl (by decide) (by exact ⟨rfl, rfl, rfl, rfl, rfl, rfl, trivial⟩) hh⟩)
                · have hF := cnd_f h175 hF
                  refine r_skip (r_next (r_reg (r_op (t_fa (off := 0) (k := 3) rfl tyF27_3) ⟨rfl, trivial⟩ ?_)))
                  refine r_op (t_l 1 1 rfl rfl rfl rfl (.one tyO25)) ⟨rfl, trivial⟩ ?_
                  refine r_op (t_l 0 18 rfl rfl rfl rfl (.agg tyA40)) ⟨rfl, trivial⟩ ?_
                  refine r_op (t_bs (C := api_Row.cod) (xs := [.tmp 134]) (ps := [.va (api_Row.enc x159)]) (zs := [x159]) rfl tyS25 rfl ⟨⟨trivial, rfl⟩, trivial⟩ rfl) ⟨rfl, trivial⟩ ?_
                  obtain ⟨x185, h186, hF⟩ := bnd hF
                  refine r_app 2 rfl tyS25 rfl rfl q111 rfl rfl h186 (fun b187 c188 H189 e190 => ?_)
                  cases e190
                  refine r_op (t_fa (off := 0) (k := 3) rfl tyF27_3) ⟨rfl, trivial⟩ ?_
                  refine r_op0 (t_s 1 rfl rfl rfl tyO25.s) ⟨rfl, rfl, trivial⟩ ?_
                  refine r_nil (r_blkN (r_next (r_reg (r_mv ?_))))
                  obtain ⟨v192, h193, hF⟩ := bnd hF
                  refine r_op (t_add rfl h193) ⟨rfl, k_I _ _, trivial⟩ ?_
                  refine r_as ?_
                  refine r_nil ?_
                  exact r_round (fun a w hh => ⟨x185, v192, b187, c188, (n110 + [x159].length), hF, (apL_len h186 q111), hs_back [1, 2, 3, 4, 5, 6] rfl (by decide) (by exact ⟨rfl, rfl, rfl, rfl, rfl, rfl, trivial⟩) hh⟩)
            · skip
              refine r_seq (r_reg (r_mv ?_))
              refine r_nil (r_next (r_if rfl (fun h194 => ?_) (fun h194 => ?_)))
              · have hF := cnd_t h194 hF
                refine r_reg (r_mv ?_)
                refine r_mv ?_
                obtain ⟨v195, h196, hF⟩ := bnd hF
                refine r_op (t_sub rfl h196) ⟨rfl, k_I _ _, trivial⟩ ?_
                obtain ⟨v197, h198, hF⟩ := bnd hF
                refine r_op (t_call rfl (ct_gantryref19_some h198) rfl) ⟨rfl, rfl, trivial⟩ ?_
                refine r_op (t_fa (off := 0) (k := 8) rfl tyF40_5) ⟨rfl, trivial⟩ ?_
                refine r_op0 (t_s 0 rfl rfl rfl tyO29.s) ⟨rfl, rfl, trivial⟩ ?_
                refine r_nil ?_
                exact r_backJ Jj160 ⟨(⟨0, 0, x113, 0, 0, v197, v139, v155, 0⟩ : api_Row), hF, rfl, rfl⟩ [0, 1, 2, 3, 4, 5, 6] rfl ⟨rfl, rfl, rfl, rfl, rfl, rfl, rfl, rfl, trivial⟩
              · have hF := cnd_f h194 hF
                refine r_skip ?_
                exact r_backJ Jj160 ⟨(⟨0, 0, x113, 0, 0, v131, v139, v155, 0⟩ : api_Row), hF, rfl, rfl⟩ [0, 1, 2, 3, 4, 5, 6] rfl ⟨rfl, rfl, rfl, rfl, rfl, rfl, rfl, rfl, trivial⟩
          · have hF := cnd_f h124 hF
            refine r_brk ?_
            obtain rfl := sm1 hF
            exact r_backJ Jj121 ⟨x107, b108, c109, n110, hRl120, q111, rfl, rfl⟩ [0, 1, 2, 3, 4, 5] rfl ⟨rfl, rfl, trivial⟩
      · skip
        refine r_seq (r_reg (r_mv ?_))
        refine r_nil (r_next (r_if rfl (fun h199 => ?_) (fun h199 => ?_)))
        · have hF := cnd_t h199 hF
          obtain ⟨v202, h203, hF⟩ := bnd hF
          obtain ⟨v204, h205, hF⟩ := bnd hF
          obtain ⟨v206, h207, hF⟩ := bnd hF
          obtain ⟨v208, h209, hF⟩ := bnd hF
          obtain ⟨v210, h211, hF⟩ := bnd hF
          obtain ⟨v212, h213, hF⟩ := bnd hF
          obtain ⟨v214, h215, hF⟩ := bnd hF
          refine r_draw [0, 1, 0, 4, 0, 16, 48, 0, 176, 432, 1008, 2047, 4095] 12 1 [.v (.vc (pP (some b30) 2)), .v (.vc (pO b70 n72 c71)), .v (.vc (pI .i64 v4)), .v (.vc (pI .i64 v202)), .v (.vc (pS cI a0)), .v (.vc (pI .i64 v204)), .v (.vc (pI .i64 v206)), .v (.vc (pS cI a0)), .v (.vc (pI .i64 v208)), .v (.vc (pI .i64 v210)), .v (.va (eQ v212)), .v (.vc (pE b70 v202 cQ.n 0))] Tryz_mixed ⟨⟨rfl, .run (lo := 0) (n := 1) ⟨fun G200 A => t_fa (off := 0) (k := 2) rfl tyF27_2, trivial⟩ (fun G200 => ⟨rfl, trivial⟩)⟩, ⟨rfl, .run (lo := 0) (n := 1) ⟨fun G200 A => t_l 0 1 rfl rfl rfl rfl (.one tyO24), trivial⟩ (fun G200 => ⟨rfl, trivial⟩)⟩, ⟨rfl, .run (lo := 0) (n := 1) ⟨fun G200 A => t_mv (.inl rfl), trivial⟩ (fun G200 => ⟨rfl, trivial⟩)⟩, ⟨rfl, .run (lo := 0) (n := 1) ⟨fun G200 A => t_sub rfl h203, trivial⟩ (fun G200 => ⟨rfl, k_I _ _, trivial⟩)⟩, ⟨rfl, .run (lo := 0) (n := 1) ⟨fun G200 A => t_mv (.inl rfl), trivial⟩ (fun G200 => ⟨rfl, trivial⟩)⟩, ⟨rfl, .run (lo := 0) (n := 1) ⟨fun G200 A => t_call rfl (ct_gantryref01_At h205) rfl, trivial⟩ (fun G200 => ⟨rfl, k_I _ _, k_I _ _, trivial⟩)⟩, ⟨rfl, .run (lo := 0) (n := 1) ⟨fun G200 A => t_sub rfl h207, trivial⟩ (fun G200 => ⟨rfl, k_I _ _, trivial⟩)⟩, ⟨rfl, .run (lo := 0) (n := 1) ⟨fun G200 A => t_mv (.inl rfl), trivial⟩ (fun G200 => ⟨rfl, trivial⟩)⟩, ⟨rfl, .run (lo := 0) (n := 1) ⟨fun G200 A => t_call rfl (ct_gantryref01_At h209) rfl, trivial⟩ (fun G200 => ⟨rfl, k_I _ _, k_I _ _, trivial⟩)⟩, ⟨rfl, .run (lo := 0) (n := 1) ⟨fun G200 A => t_add rfl h211, trivial⟩ (fun G200 => ⟨k_I _ _, rfl, trivial⟩)⟩, ⟨rfl, .run (lo := 0) (n := 1) ⟨fun G200 A => t_call rfl (qc_gantryref05_Of h213) rfl, trivial⟩ (fun G200 => ⟨rfl, rfl, trivial⟩)⟩, ⟨rfl, .run (lo := 0) (n := 1) ⟨fun G200 A => t_ixE (C := cQ) 2 rfl tyS24 rfl q73 (rdL_some h215).1 (rdL_some h215).2.1, trivial⟩ (fun G200 => ⟨rfl, rfl, trivial⟩)⟩, trivial⟩ (fun bs201 G200 => ?_)
          obtain ⟨x216, h217, hF⟩ := bnd hF
          refine r_op0 (t_stE 2 rfl rfl h215 h217 tyA35.s) ⟨rfl, rfl, trivial⟩ ?_
          refine r_nil ?_
          exact r_backJ Jj99 ⟨x216, b70, c71, n72, hF, (stL_len h217 q73), rfl, rfl⟩ [0, 1, 2, 3, 4, 5] rfl ⟨rfl, rfl, rfl, rfl, rfl, trivial⟩
        · have hF := cnd_f h199 hF
          refine r_skip ?_
          exact r_backJ Jj99 ⟨x69, b70, c71, n72, hF, q73, rfl, rfl⟩ [0, 1, 2, 3, 4, 5] rfl ⟨rfl, rfl, rfl, rfl, rfl, trivial⟩
    · have hF := cnd_f h91 hF
      refine r_opn ?_
      refine r_opn ?_
      refine r_op (t_pickF rfl) ⟨rfl, k_B _, trivial⟩ ?_
      refine r_as ?_
      refine r_nil (r_next (r_seq (r_cutS (fun H E => F_gantryref19_Make_j220 K a0 v4 x69 x75 x81 = some r ∧ H = [⟨some b30, 1, 27, 4, 1, ([pO b82 n84 c83] ++ [pO b76 n78 c77] ++ [pO b70 n72 c71] ++ [pO none 0 0])⟩, hO api_Row.cod none 0 40 0 ([] : List api_Row), hO cQ b70 c71 35 n72 x69, hO cQ b76 c77 35 n78 x75, hO api_Dof.cod b82 c83 66 n84 x81, ⟨some b1, 1, 27, 4, 1, ([pS api_Dof.cod ([] : List api_Dof)] ++ [pS cQ ([] : List Rat)] ++ [pS cQ ([] : List Rat)] ++ [pS api_Row.cod ([] : List api_Row)])⟩] ∧ E = [(0, .vc (pS cI a0)), (4, .vc (pP (some b1) 0)), (5, .vc (pI .i64 v4)), (6, .vc (pP (some b30) 0)), (9, .vc (pB false))]) ?_ (fun Jj220 => ?_))))
      · rintro _ _ ⟨hF, rfl, rfl⟩
        unfold F_gantryref19_Make_j220 at hF
        refine r_seq (r_seq (r_reg (r_op (t_mv (.inr rfl)) ⟨k_I _ _, trivial⟩ ?_)))
        refine r_nil (r_next (r_blk (r_cutN (fun H E => ∃ (x235 : List api_Row), ∃ (b236 : Option Nat), ∃ (c237 : Nat), ∃ (n238 : Nat), F_gantryref19_Make_j242 K x69 x75 x81 x235 = some r ∧ x235.length = n238 ∧ H = [⟨some b30, 1, 27, 4, 1, ([pO b82 n84 c83] ++ [pO b76 n78 c77] ++ [pO b70 n72 c71] ++ [pO b236 n238 c237])⟩, hO api_Row.cod b236 c237 40 n238 x235, hO cQ b70 c71 35 n72 x69, hO cQ b76 c77 35 n78 x75, hO api_Dof.cod b82 c83 66 n84 x81, ⟨some b1, 1, 27, 4, 1, ([pS api_Dof.cod ([] : List api_Dof)] ++ [pS cQ ([] : List Rat)] ++ [pS cQ ([] : List Rat)] ++ [pS api_Row.cod ([] : List api_Row)])⟩] ∧ E = [(4, .vc (pP (some b1) 0)), (6, .vc (pP (some b30) 0))]) ?_ (fun Jj242 => ?_))))
        · rintro _ _ ⟨x235, b236, c237, n238, hF, q239, rfl, rfl⟩
          unfold F_gantryref19_Make_j242 at hF
          refine r_next (r_seq (r_reg (r_fbL 4 0 0 rfl q85 rfl rfl rfl rfl rfl ?_)))
          refine r_fbL 3 0 1 rfl q79 rfl rfl rfl rfl rfl ?_
          refine r_fbL 2 0 2 rfl q73 rfl rfl rfl rfl rfl ?_
          refine r_fbL 1 0 3 rfl q239 rfl rfl rfl rfl rfl ?_
          refine r_op (t_l 0 4 rfl rfl rfl rfl (.agg tyA27)) ⟨rfl, trivial⟩ ?_
          refine r_op0 (t_s 1 rfl rfl rfl tyA27.s) ⟨rfl, rfl, trivial⟩ ?_
          refine r_nil (r_next (r_ret (r_toR ?_)))
          obtain rfl := sm1 hF
          exact r_done1 (.inl rfl) Tryz.results10 (rv_cell 1 4 rfl rfl rfl rfl (.agg tyA27) .nil) rfl rfl
        · skip
          obtain ⟨x235', hL, hRl241⟩ := bnd hF
          refine r_lp (fun k a w => ∃ (x228 : List api_Row), ∃ (x234 : Int), ∃ (b229 : Option Nat), ∃ (c230 : Nat), ∃ (n231 : Nat), F_gantryref19_Make_l241 K a0 v4 k x228 x234 = some x235' ∧ x228.length = n231 ∧ hs _ [⟨some b30, 1, 27, 4, 1, ([pO b82 n84 c83] ++ [pO b76 n78 c77] ++ [pO b70 n72 c71] ++ [pO b229 n231 c230])⟩, hO api_Row.cod b229 c230 40 n231 x228, hO cQ b70 c71 35 n72 x69, hO cQ b76 c77 35 n78 x75, hO api_Dof.cod b82 c83 66 n84 x81, ⟨some b1, 1, 27, 4, 1, ([pS api_Dof.cod ([] : List api_Dof)] ++ [pS cQ ([] : List Rat)] ++ [pS cQ ([] : List Rat)] ++ [pS api_Row.cod ([] : List api_Row)])⟩] [(0, .vc (pS cI a0)), (4, .vc (pP (some b1) 0)), (5, .vc (pI .i64 v4)), (6, .vc (pP (some b30) 0)), (9, .vc (pB false)), (10, .vc (pI .i64 x234))] a w) K (fun a w ⟨_, _, _, _, _, hF, _, _⟩ => by cases hF) (fun k a w ⟨x228, x234, b229, c230, n231, hF, q232, hh⟩ => r_at ?_ hh) (fun a w hh => ⟨([] : List api_Row), 0, none, 0, 0, hL, rfl, hs_back [0, 1, 2, 3, 4, 5] rfl (by decide) (by exact ⟨rfl, rfl, rfl, rfl, rfl, rfl, trivial⟩) hh⟩)
          rw [F_gantryref19_Make_l241.eq_2] at hF
          refine r_seq (r_seq (r_reg (r_mv ?_)))
          refine r_mv ?_
          obtain ⟨v243, h244, hF⟩ := bnd hF
          refine r_op (t_call rfl (ct_gantryref01_At h244) rfl) ⟨rfl, k_I _ _, k_I _ _, trivial⟩ ?_
          refine r_op (t_lt rfl) ⟨rfl, rfl, trivial⟩ ?_
          refine r_nil (r_next (r_if rfl (fun h245 => ?_) (fun h245 => ?_)))
          · have hF := cnd_t h245 hF
            refine r_skip (r_next (r_seq (r_blk (r_seq (r_reg (r_mv ?_))))))
            refine r_mv ?_
            obtain ⟨v246, h247, hF⟩ := bnd hF
            refine r_op (t_mul rfl h247) ⟨k_I _ _, rfl, trivial⟩ ?_
            obtain ⟨v248, h249, hF⟩ := bnd hF
            refine r_op (t_add rfl h249) ⟨k_I _ _, rfl, trivial⟩ ?_
            obtain ⟨v250, h251, hF⟩ := bnd hF
            refine r_op (t_call rfl (ct_gantryref01_At h251) rfl) ⟨rfl, rfl, k_I _ _, trivial⟩ ?_
            refine r_as ?_
            refine r_nil (r_next (r_seq (r_reg (r_mv ?_))))
            refine r_mv ?_
            obtain ⟨v252, h253, hF⟩ := bnd hF
            refine r_op (t_call rfl (ct_gantryref19_some h253) rfl) ⟨rfl, rfl, trivial⟩ ?_
            refine r_mv ?_
            refine r_mv ?_
            obtain ⟨v254, h255, hF⟩ := bnd hF
            refine r_op (t_mul rfl h255) ⟨k_I _ _, rfl, trivial⟩ ?_
            obtain ⟨v256, h257, hF⟩ := bnd hF
            refine r_op (t_add rfl h257) ⟨k_I _ _, rfl, trivial⟩ ?_
            obtain ⟨v258, h259, hF⟩ := bnd hF
            refine r_op (t_call rfl (ct_gantryref01_At h259) rfl) ⟨rfl, rfl, k_I _ _, trivial⟩ ?_
            refine r_mv ?_
            obtain ⟨v260, h261, hF⟩ := bnd hF
            refine r_op (t_call rfl (ct_gantryref19_some h261) rfl) ⟨rfl, rfl, trivial⟩ ?_
            refine r_mv ?_
            refine r_mv ?_
            obtain ⟨v262, h263, hF⟩ := bnd hF
            refine r_op (t_mul rfl h263) ⟨k_I _ _, rfl, trivial⟩ ?_
            obtain ⟨v264, h265, hF⟩ := bnd hF
            refine r_op (t_add rfl h265) ⟨k_I _ _, rfl, trivial⟩ ?_
            obtain ⟨v266, h267, hF⟩ := bnd hF
            refine r_op (t_call rfl (ct_gantryref01_At h267) rfl) ⟨rfl, rfl, k_I _ _, trivial⟩ ?_
            refine r_mv ?_
            refine r_mv ?_
            obtain ⟨v268, h269, hF⟩ := bnd hF
            refine r_op (t_mul rfl h269) ⟨k_I _ _, rfl, trivial⟩ ?_
            obtain ⟨v270, h271, hF⟩ := bnd hF
            refine r_op (t_add rfl h271) ⟨k_I _ _, rfl, trivial⟩ ?_
            obtain ⟨v272, h273, hF⟩ := bnd hF
            refine r_op (t_call rfl (ct_gantryref01_At h273) rfl) ⟨rfl, rfl, k_I _ _, trivial⟩ ?_
            obtain ⟨v274, h275, hF⟩ := bnd hF
            refine r_op (t_add rfl h275) ⟨k_I _ _, rfl, trivial⟩ ?_
            obtain ⟨v276, h277, hF⟩ := bnd hF
            refine r_op (t_call rfl (qc_gantryref05_Of h277) rfl) ⟨rfl, rfl, trivial⟩ ?_
            refine r_mv ?_
            refine r_op (t_bld (is := [5, 6, 7, 2]) (xs := [.tmp 92, .tmp 99, .tmp 111, .tmp 112]) (ps := [.vc (pS api_Term.cod v252), .vc (pS api_Term.cod v260), .va (eQ v276), .vc (pI .i64 x234)]) rfl tyB40q rfl rfl ⟨trivial, trivial, trivial, trivial, trivial⟩ rfl) ⟨rfl, rfl, rfl, rfl, trivial⟩ ?_
            refine r_alloc rfl tyZ40q (fun b278 => ?_)
            refine r_op0 (t_s 0 rfl rfl rfl tyA40.s) ⟨rfl, rfl, trivial⟩ ?_
            refine r_nil (r_next (r_seq (r_cutS (fun H E => F_gantryref19_Make_j280 K x228 x234 v250 v252 v260 v276 (F_gantryref19_Make_l241 K a0 v4 k) = some x235' ∧ H = [⟨some b278, 1, 40, 18, 1, ([pI .i64 0] ++ [pI .i64 0] ++ [pI .i64 x234] ++ [pI .i64 0] ++ (eQ 0) ++ [pS api_Term.cod v252] ++ [pS api_Term.cod v260] ++ (eQ v276) ++ (eQ 0))⟩, ⟨some b30, 1, 27, 4, 1, ([pO b82 n84 c83] ++ [pO b76 n78 c77] ++ [pO b70 n72 c71] ++ [pO b229 n231 c230])⟩, hO api_Row.cod b229 c230 40 n231 x228, hO cQ b70 c71 35 n72 x69, hO cQ b76 c77 35 n78 x75, hO api_Dof.cod b82 c83 66 n84 x81, ⟨some b1, 1, 27, 4, 1, ([pS api_Dof.cod ([] : List api_Dof)] ++ [pS cQ ([] : List Rat)] ++ [pS cQ ([] : List Rat)] ++ [pS api_Row.cod ([] : List api_Row)])⟩] ∧ E = [(0, .vc (pS cI a0)), (4, .vc (pP (some b1) 0)), (5, .vc (pI .i64 v4)), (6, .vc (pP (some b30) 0)), (9, .vc (pB false)), (10, .vc (pI .i64 x234)), (11, .vc (pI .i64 v250)), (12, .vc (pP (some b278) 0))]) ?_ (fun Jj280 => ?_))))
            · rintro _ _ ⟨hF, rfl, rfl⟩
              unfold F_gantryref19_Make_j280 at hF
              refine r_seq (r_seq (r_reg (r_op (t_fa (off := 0) (k := 10) rfl tyF40_7) ⟨rfl, trivial⟩ ?_)))
              refine r_op (t_l 0 4 rfl rfl rfl rfl (.agg tyA35)) ⟨rfl, trivial⟩ ?_
              obtain ⟨v281, h282, hF⟩ := bnd hF
              refine r_op (t_call rfl (qc_gantryref05_Sign h282) rfl) ⟨rfl, trivial⟩ ?_
              refine r_op (t_eq rfl) ⟨rfl, k_I _ _, trivial⟩ ?_
              refine r_mv ?_
              refine r_bool (fun h283 => ?_) (fun h283 => ?_)
              · have hF := cnd_t h283 hF
                refine r_opn ?_
                refine r_opn ?_
                refine r_opn ?_
                refine r_op (t_pickT rfl) ⟨rfl, k_B _, trivial⟩ ?_
                refine r_nil (r_next (r_ifT rfl ?_))
                refine r_seq (r_reg (r_op (t_fa (off := 0) (k := 9) rfl tyF40_6) ⟨rfl, trivial⟩ ?_))
                refine r_op0 (t_s 0 rfl rfl rfl tyO29.s) ⟨rfl, k_nil api_Term.cod, trivial⟩ ?_
                refine r_nil (r_next (r_reg (r_op (t_bld (is := []) (xs := []) (ps := []) rfl tyB35q rfl rfl trivial rfl) trivial ?_)))
                refine r_op (t_fa (off := 0) (k := 10) rfl tyF40_7) ⟨rfl, trivial⟩ ?_
                refine r_op0 (t_s 0 rfl rfl rfl tyA35.s) ⟨rfl, rfl, trivial⟩ ?_
                refine r_nil (r_next (r_reg (r_op (t_fa (off := 0) (k := 3) rfl tyF27_3) ⟨rfl, trivial⟩ ?_)))
                refine r_op (t_l 1 1 rfl rfl rfl rfl (.one tyO25)) ⟨rfl, trivial⟩ ?_
                refine r_op (t_l 0 18 rfl rfl rfl rfl (.agg tyA40)) ⟨rfl, trivial⟩ ?_
                refine r_op (t_bs (C := api_Row.cod) (xs := [.tmp 134]) (ps := [.va ([pI .i64 0] ++ [pI .i64 0] ++ [pI .i64 x234] ++ [pI .i64 0] ++ (eQ 0) ++ [pS api_Term.cod v252] ++ [pS api_Term.cod []] ++ (eQ 0) ++ (eQ 0))]) (zs := [(⟨0, 0, x234, 0, 0, v252, [], 0, 0⟩ : api_Row)]) rfl tyS25 rfl ⟨⟨trivial, rfl⟩, trivial⟩ rfl) ⟨rfl, trivial⟩ ?_
                obtain ⟨x284, h285, hF⟩ := bnd hF
                refine r_app 2 rfl tyS25 rfl rfl q232 rfl rfl h285 (fun b286 c287 H288 e289 => ?_)
                cases e289
                refine r_op (t_fa (off := 0) (k := 3) rfl tyF27_3) ⟨rfl, trivial⟩ ?_
                refine r_op0 (t_s 1 rfl rfl rfl tyO25.s) ⟨rfl, rfl, trivial⟩ ?_
                refine r_nil (r_blkN (r_next (r_reg (r_mv ?_))))
                obtain ⟨v291, h292, hF⟩ := bnd hF
                refine r_op (t_add rfl h292) ⟨rfl, k_I _ _, trivial⟩ ?_
                refine r_as ?_
                refine r_nil ?_
                exact r_round (fun a w hh => ⟨x284, v291, b286, c287, (n231 + [(⟨0, 0, x234, 0, 0, v252, [], 0, 0⟩ : api_Row)].length), hF, (apL_len h285 q232), hs_back [1, 2, 3, 4, 5, 6] rfl (by decide) (by exact ⟨rfl, rfl, rfl, rfl, rfl, rfl, trivial⟩) hh⟩)
              · have hF := cnd_f h283 hF
                refine r_opg (t_mv (.inl rfl)) ⟨rfl, trivial⟩ ?_
                obtain ⟨v293, h294, hF⟩ := bnd hF
                refine r_opg (t_rem rfl h294) ⟨rfl, k_I _ _, trivial⟩ ?_
                refine r_opg (t_eq rfl) ⟨rfl, k_I _ _, trivial⟩ ?_
                refine r_op (t_pickF rfl) ⟨rfl, rfl, trivial⟩ ?_
                refine r_nil (r_next (r_if rfl (fun h295 => ?_) (fun h295 => ?_)))
                · have hF := cnd_t h295 hF
                  refine r_seq (r_reg (r_op (t_fa (off := 0) (k := 9) rfl tyF40_6) ⟨rfl, trivial⟩ ?_))
                  refine r_op0 (t_s 0 rfl rfl rfl tyO29.s) ⟨rfl, k_nil api_Term.cod, trivial⟩ ?_
                  refine r_nil (r_next (r_reg (r_op (t_bld (is := []) (xs := []) (ps := []) rfl tyB35q rfl rfl trivial rfl) trivial ?_)))
                  refine r_op (t_fa (off := 0) (k := 10) rfl tyF40_7) ⟨rfl, trivial⟩ ?_
                  refine r_op0 (t_s 0 rfl rfl rfl tyA35.s) ⟨rfl, rfl, trivial⟩ ?_
                  refine r_nil (r_next (r_reg (r_op (t_fa (off := 0) (k := 3) rfl tyF27_3) ⟨rfl, trivial⟩ ?_)))
                  refine r_op (t_l 1 1 rfl rfl rfl rfl (.one tyO25)) ⟨rfl, trivial⟩ ?_
                  refine r_op (t_l 0 18 rfl rfl rfl rfl (.agg tyA40)) ⟨rfl, trivial⟩ ?_
                  refine r_op (t_bs (C := api_Row.cod) (xs := [.tmp 134]) (ps := [.va ([pI .i64 0] ++ [pI .i64 0] ++ [pI .i64 x234] ++ [pI .i64 0] ++ (eQ 0) ++ [pS api_Term.cod v252] ++ [pS api_Term.cod []] ++ (eQ 0) ++ (eQ 0))]) (zs := [(⟨0, 0, x234, 0, 0, v252, [], 0, 0⟩ : api_Row)]) rfl tyS25 rfl ⟨⟨trivial, rfl⟩, trivial⟩ rfl) ⟨rfl, trivial⟩ ?_
                  obtain ⟨x296, h297, hF⟩ := bnd hF
                  refine r_app 2 rfl tyS25 rfl rfl q232 rfl rfl h297 (fun b298 c299 H300 e301 => ?_)
                  cases e301
                  refine r_op (t_fa (off := 0) (k := 3) rfl tyF27_3) ⟨rfl, trivial⟩ ?_
                  refine r_op0 (t_s 1 rfl rfl rfl tyO25.s) ⟨rfl, rfl, trivial⟩ ?_
                  refine r_nil (r_blkN (r_next (r_reg (r_mv ?_))))
                  obtain ⟨v303, h304, hF⟩ := bnd hF
                  refine r_op (t_add rfl h304) ⟨rfl, k_I _ _, trivial⟩ ?_
                  refine r_as ?_
                  refine r_nil ?_
                  exact r_round (fun a w hh => ⟨x296, v303, b298, c299, (n231 + [(⟨0, 0, x234, 0, 0, v252, [], 0, 0⟩ : api_Row)].length), hF, (apL_len h297 q232), hs_back [1, 2, 3, 4, 5, 6] rfl (by decide) (by exact ⟨rfl, rfl, rfl, rfl, rfl, rfl, trivial⟩) hh⟩)
                · have hF := cnd_f h295 hF
                  refine r_skip (r_next (r_reg (r_op (t_fa (off := 0) (k := 3) rfl tyF27_3) ⟨rfl, trivial⟩ ?_)))
                  refine r_op (t_l 1 1 rfl rfl rfl rfl (.one tyO25)) ⟨rfl, trivial⟩ ?_
                  refine r_op (t_l 0 18 rfl rfl rfl rfl (.agg tyA40)) ⟨rfl, trivial⟩ ?_
                  refine r_op (t_bs (C := api_Row.cod) (xs := [.tmp 134]) (ps := [.va ([pI .i64 0] ++ [pI .i64 0] ++ [pI .i64 x234] ++ [pI .i64 0] ++ (eQ 0) ++ [pS api_Term.cod v252] ++ [pS api_Term.cod v260] ++ (eQ v276) ++ (eQ 0))]) (zs := [(⟨0, 0, x234, 0, 0, v252, v260, v276, 0⟩ : api_Row)]) rfl tyS25 rfl ⟨⟨trivial, rfl⟩, trivial⟩ rfl) ⟨rfl, trivial⟩ ?_
                  obtain ⟨x305, h306, hF⟩ := bnd hF
                  refine r_app 2 rfl tyS25 rfl rfl q232 rfl rfl h306 (fun b307 c308 H309 e310 => ?_)
                  cases e310
                  refine r_op (t_fa (off := 0) (k := 3) rfl tyF27_3) ⟨rfl, trivial⟩ ?_
                  refine r_op0 (t_s 1 rfl rfl rfl tyO25.s) ⟨rfl, rfl, trivial⟩ ?_
                  refine r_nil (r_blkN (r_next (r_reg (r_mv ?_))))
                  obtain ⟨v312, h313, hF⟩ := bnd hF
                  refine r_op (t_add rfl h313) ⟨rfl, k_I _ _, trivial⟩ ?_
                  refine r_as ?_
                  refine r_nil ?_
                  exact r_round (fun a w hh => ⟨x305, v312, b307, c308, (n231 + [(⟨0, 0, x234, 0, 0, v252, v260, v276, 0⟩ : api_Row)].length), hF, (apL_len h306 q232), hs_back [1, 2, 3, 4, 5, 6] rfl (by decide) (by exact ⟨rfl, rfl, rfl, rfl, rfl, rfl, trivial⟩) hh⟩)
            · skip
              refine r_seq (r_reg (r_mv ?_))
              refine r_nil (r_next (r_ifF rfl ?_))
              refine r_skip ?_
              exact r_backJ Jj280 ⟨hF, rfl, rfl⟩ [0, 1, 2, 3, 4, 5, 6] rfl ⟨rfl, rfl, rfl, rfl, rfl, rfl, rfl, rfl, trivial⟩
          · have hF := cnd_f h245 hF
            refine r_brk ?_
            obtain rfl := sm1 hF
            exact r_backJ Jj242 ⟨x228, b229, c230, n231, hRl241, q232, rfl, rfl⟩ [0, 1, 2, 3, 4, 5] rfl ⟨rfl, rfl, trivial⟩
      · skip
        refine r_seq (r_reg (r_mv ?_))
        refine r_nil (r_next (r_ifF rfl ?_))
        refine r_skip ?_
        exact r_backJ Jj220 ⟨hF, rfl, rfl⟩ [0, 1, 2, 3, 4, 5] rfl ⟨rfl, rfl, rfl, rfl, rfl, trivial⟩
  · skip
    obtain ⟨⟨x69', x75', x81'⟩, hL, hRl87⟩ := bnd hF
    refine r_lp (fun k a w => ∃ (x50 : List Rat), ∃ (x56 : List Rat), ∃ (x62 : List api_Dof), ∃ (x68 : Int), ∃ (b51 : Option Nat), ∃ (c52 : Nat), ∃ (n53 : Nat), ∃ (b57 : Option Nat), ∃ (c58 : Nat), ∃ (n59 : Nat), ∃ (b63 : Option Nat), ∃ (c64 : Nat), ∃ (n65 : Nat), F_gantryref19_Make_l87 K a0 v4 k x50 x56 x62 x68 = some (x69', x75', x81') ∧ x50.length = n53 ∧ x56.length = n59 ∧ x62.length = n65 ∧ hs _ [⟨some b30, 1, 27, 4, 1, ([pO b63 n65 c64] ++ [pO b57 n59 c58] ++ [pO b51 n53 c52] ++ [pO none 0 0])⟩, hO api_Row.cod none 0 40 0 ([] : List api_Row), hO cQ b51 c52 35 n53 x50, hO cQ b57 c58 35 n59 x56, hO api_Dof.cod b63 c64 66 n65 x62, ⟨some b1, 1, 27, 4, 1, ([pS api_Dof.cod ([] : List api_Dof)] ++ [pS cQ ([] : List Rat)] ++ [pS cQ ([] : List Rat)] ++ [pS api_Row.cod ([] : List api_Row)])⟩] [(0, .vc (pS cI a0)), (1, .vc (pB a1)), (4, .vc (pP (some b1) 0)), (5, .vc (pI .i64 v4)), (6, .vc (pP (some b30) 0)), (7, .vc (pI .i64 x68))] a w) K (fun a w ⟨_, _, _, _, _, _, _, _, _, _, _, _, _, hF, _, _, _, _⟩ => by cases hF) (fun k a w ⟨x50, x56, x62, x68, b51, c52, n53, b57, c58, n59, b63, c64, n65, hF, q54, q60, q66, hh⟩ => r_at ?_ hh) (fun a w hh => ⟨([] : List Rat), ([] : List Rat), ([] : List api_Dof), 0, none, 0, 0, none, 0, 0, none, 0, 0, hL, rfl, rfl, rfl, hs_back [0, 1, 2, 3, 4, 5] rfl (by decide) (by exact ⟨rfl, rfl, rfl, rfl, rfl, rfl, trivial⟩) hh⟩)
    rw [F_gantryref19_Make_l87.eq_2] at hF
    refine r_seq (r_seq (r_reg (r_mv ?_)))
    refine r_mv ?_
    refine r_op (t_lt rfl) ⟨rfl, rfl, trivial⟩ ?_
    refine r_nil (r_next (r_if rfl (fun h314 => ?_) (fun h314 => ?_)))
    · have hF := cnd_t h314 hF
      refine r_skip (r_next (r_seq (r_blk (r_seq (r_reg (r_mv ?_))))))
      refine r_mv ?_
      obtain ⟨v315, h316, hF⟩ := bnd hF
      refine r_op (t_add rfl h316) ⟨k_I _ _, rfl, trivial⟩ ?_
      obtain ⟨v317, h318, hF⟩ := bnd hF
      refine r_op (t_call rfl (ct_gantryref01_At h318) rfl) ⟨rfl, rfl, k_I _ _, trivial⟩ ?_
      refine r_as ?_
      refine r_nil (r_next (r_seq ?_))
      obtain ⟨v321, h322, hF⟩ := bnd hF
      obtain ⟨v323, h324, hF⟩ := bnd hF
      obtain ⟨v325, h326, hF⟩ := bnd hF
      obtain ⟨v327, h328, hF⟩ := bnd hF
      obtain ⟨v329, h330, hF⟩ := bnd hF
      obtain ⟨v331, h332, hF⟩ := bnd hF
      refine r_draw [0, 1, 0, 4, 12, 0, 32, 96, 224, 508, 1020, 2044, 4095, 8191, 16383] 12 3 [.v (.vc (pP (some b30) 0)), .v (.vc (pO b63 n65 c64)), .v (.vc (pI .i64 v317)), .v (.vc (pI .i64 v321)), .v (.vc (pI .i64 v323)), .v (.vc (pI .i64 v317)), .v (.vc (pI .i64 v325)), .v (.vc (pI .i64 v327)), .v (.vc (pI .i64 v329)), .v (.va (eQ v331)), .v (.va ((eQ v331) ++ (eQ 0) ++ [pB false] ++ (eQ 0) ++ (eQ 0))), .v (.vc (pS api_Dof.cod [(⟨v331, 0, false, 0, 0⟩ : api_Dof)]))] Tryz_mixed ⟨⟨rfl, .run (lo := 0) (n := 1) ⟨fun G319 A => t_fa (off := 0) (k := 0) rfl tyF27_0, trivial⟩ (fun G319 => ⟨rfl, trivial⟩)⟩, ⟨rfl, .run (lo := 0) (n := 1) ⟨fun G319 A => t_l 0 1 rfl rfl rfl rfl (.one tyO23), trivial⟩ (fun G319 => ⟨rfl, trivial⟩)⟩, ⟨rfl, .run (lo := 0) (n := 1) ⟨fun G319 A => t_mv (.inl rfl), trivial⟩ (fun G319 => ⟨rfl, trivial⟩)⟩, ⟨rfl, .run (lo := 0) (n := 1) ⟨fun G319 A => t_rem rfl h322, trivial⟩ (fun G319 => ⟨rfl, k_I _ _, trivial⟩)⟩, ⟨rfl, .run (lo := 0) (n := 1) ⟨fun G319 A => t_add rfl h324, trivial⟩ (fun G319 => ⟨k_I _ _, rfl, trivial⟩)⟩, ⟨rfl, .run (lo := 0) (n := 1) ⟨fun G319 A => t_mv (.inl rfl), trivial⟩ (fun G319 => ⟨rfl, trivial⟩)⟩, ⟨rfl, .run (lo := 0) (n := 1) ⟨fun G319 A => t_quo rfl h326, trivial⟩ (fun G319 => ⟨rfl, k_I _ _, trivial⟩)⟩, ⟨rfl, .run (lo := 0) (n := 1) ⟨fun G319 A => t_rem rfl h328, trivial⟩ (fun G319 => ⟨rfl, k_I _ _, trivial⟩)⟩, ⟨rfl, .run (lo := 0) (n := 1) ⟨fun G319 A => t_add rfl h330, trivial⟩ (fun G319 => ⟨k_I _ _, rfl, trivial⟩)⟩, ⟨rfl, .run (lo := 0) (n := 1) ⟨fun G319 A => t_call rfl (qc_gantryref05_Of h332) rfl, trivial⟩ (fun G319 => ⟨rfl, rfl, trivial⟩)⟩, ⟨rfl, .run (lo := 0) (n := 1) ⟨fun G319 A => t_bld (is := [0]) (xs := [.tmp 34]) (ps := [.va (eQ v331)]) rfl tyB66q rfl rfl ⟨trivial, trivial⟩ rfl, trivial⟩ (fun G319 => ⟨rfl, trivial⟩)⟩, ⟨rfl, .run (lo := 0) (n := 1) ⟨fun G319 A => t_bs (C := api_Dof.cod) (xs := [.tmp 35]) (ps := [.va ((eQ v331) ++ (eQ 0) ++ [pB false] ++ (eQ 0) ++ (eQ 0))]) (zs := [(⟨v331, 0, false, 0, 0⟩ : api_Dof)]) rfl tyS23 rfl ⟨⟨trivial, rfl⟩, trivial⟩ rfl, trivial⟩ (fun G319 => ⟨rfl, trivial⟩)⟩, trivial⟩ (fun bs320 G319 => ?_)
      obtain ⟨x333, h334, hF⟩ := bnd hF
      refine r_app 4 rfl tyS23 rfl rfl q66 rfl rfl h334 (fun b335 c336 H337 e338 => ?_)
      cases e338
      refine r_op (t_fa (off := 0) (k := 0) rfl tyF27_0) ⟨rfl, trivial⟩ ?_
      refine r_op0 (t_s 0 rfl rfl rfl tyO23.s) ⟨rfl, rfl, trivial⟩ ?_
      refine r_nil (r_next (r_seq ?_))
      obtain ⟨v342, h343, hF⟩ := bnd hF
      obtain ⟨v344, h345, hF⟩ := bnd hF
      obtain ⟨v346, h347, hF⟩ := bnd hF
      obtain ⟨v348, h349, hF⟩ := bnd hF
      obtain ⟨v350, h351, hF⟩ := bnd hF
      obtain ⟨v352, h353, hF⟩ := bnd hF
      obtain ⟨v354, h355, hF⟩ := bnd hF
      refine r_draw [0, 1, 0, 4, 12, 28, 0, 64, 192, 448, 1020, 2044, 4095, 8191, 16383] 12 3 [.v (.vc (pP (some b30) 1)), .v (.vc (pO b57 n59 c58)), .v (.vc (pI .i64 v317)), .v (.vc (pI .i64 v342)), .v (.vc (pI .i64 v344)), .v (.vc (pI .i64 v346)), .v (.vc (pI .i64 v317)), .v (.vc (pI .i64 v348)), .v (.vc (pI .i64 v350)), .v (.vc (pI .i64 v352)), .v (.va (eQ v354)), .v (.vc (pS cQ [v354]))] Tryz_mixed ⟨⟨rfl, .run (lo := 0) (n := 1) ⟨fun G340 A => t_fa (off := 0) (k := 1) rfl tyF27_1, trivial⟩ (fun G340 => ⟨rfl, trivial⟩)⟩, ⟨rfl, .run (lo := 0) (n := 1) ⟨fun G340 A => t_l 0 1 rfl rfl rfl rfl (.one tyO24), trivial⟩ (fun G340 => ⟨rfl, trivial⟩)⟩, ⟨rfl, .run (lo := 0) (n := 1) ⟨fun G340 A => t_mv (.inl rfl), trivial⟩ (fun G340 => ⟨rfl, trivial⟩)⟩, ⟨rfl, .run (lo := 0) (n := 1) ⟨fun G340 A => t_quo rfl h343, trivial⟩ (fun G340 => ⟨rfl, k_I _ _, trivial⟩)⟩, ⟨rfl, .run (lo := 0) (n := 1) ⟨fun G340 A => t_rem rfl h345, trivial⟩ (fun G340 => ⟨rfl, k_I _ _, trivial⟩)⟩, ⟨rfl, .run (lo := 0) (n := 1) ⟨fun G340 A => t_sub rfl h347, trivial⟩ (fun G340 => ⟨rfl, k_I _ _, trivial⟩)⟩, ⟨rfl, .run (lo := 0) (n := 1) ⟨fun G340 A => t_mv (.inl rfl), trivial⟩ (fun G340 => ⟨rfl, trivial⟩)⟩, ⟨rfl, .run (lo := 0) (n := 1) ⟨fun G340 A => t_quo rfl h349, trivial⟩ (fun G340 => ⟨rfl, k_I _ _, trivial⟩)⟩, ⟨rfl, .run (lo := 0) (n := 1) ⟨fun G340 A => t_rem rfl h351, trivial⟩ (fun G340 => ⟨rfl, k_I _ _, trivial⟩)⟩, ⟨rfl, .run (lo := 0) (n := 1) ⟨fun G340 A => t_add rfl h353, trivial⟩ (fun G340 => ⟨k_I _ _, rfl, trivial⟩)⟩, ⟨rfl, .run (lo := 0) (n := 1) ⟨fun G340 A => t_call rfl (qc_gantryref05_Of h355) rfl, trivial⟩ (fun G340 => ⟨rfl, rfl, trivial⟩)⟩, ⟨rfl, .run (lo := 0) (n := 1) ⟨fun G340 A => t_bs (C := cQ) (xs := [.tmp 49]) (ps := [.va (eQ v354)]) (zs := [v354]) rfl tyS24 rfl ⟨⟨trivial, rfl⟩, trivial⟩ rfl, trivial⟩ (fun G340 => ⟨rfl, trivial⟩)⟩, trivial⟩ (fun bs341 G340 => ?_)
      obtain ⟨x356, h357, hF⟩ := bnd hF
      refine r_app 3 rfl tyS24 rfl rfl q60 rfl rfl h357 (fun b358 c359 H360 e361 => ?_)
      cases e361
      refine r_op (t_fa (off := 0) (k := 1) rfl tyF27_1) ⟨rfl, trivial⟩ ?_
      refine r_op0 (t_s 0 rfl rfl rfl tyO24.s) ⟨rfl, rfl, trivial⟩ ?_
      refine r_nil (r_next (r_reg (r_op (t_fa (off := 0) (k := 2) rfl tyF27_2) ⟨rfl, trivial⟩ ?_)))
      refine r_op (t_l 0 1 rfl rfl rfl rfl (.one tyO24)) ⟨rfl, trivial⟩ ?_
      refine r_op (t_bld (is := []) (xs := []) (ps := []) rfl tyB35q rfl rfl trivial rfl) trivial ?_
      refine r_op (t_bs (C := cQ) (xs := [.tmp 55]) (ps := [.va (eQ 0)]) (zs := [0]) rfl tyS24 rfl ⟨⟨trivial, rfl⟩, trivial⟩ rfl) ⟨rfl, trivial⟩ ?_
      obtain ⟨x363, h364, hF⟩ := bnd hF
      refine r_app 2 rfl tyS24 rfl rfl q54 rfl rfl h364 (fun b365 c366 H367 e368 => ?_)
      cases e368
      refine r_op (t_fa (off := 0) (k := 2) rfl tyF27_2) ⟨rfl, trivial⟩ ?_
      refine r_op0 (t_s 0 rfl rfl rfl tyO24.s) ⟨rfl, rfl, trivial⟩ ?_
      refine r_nil (r_blkN (r_next (r_reg (r_mv ?_))))
      obtain ⟨v370, h371, hF⟩ := bnd hF
      refine r_op (t_add rfl h371) ⟨rfl, k_I _ _, trivial⟩ ?_
      refine r_as ?_
      refine r_nil ?_
      exact r_round (fun a w hh => ⟨x363, x356, x333, v370, b365, c366, (n53 + [0].length), b358, c359, (n59 + [v354].length), b335, c336, (n65 + [(⟨v331, 0, false, 0, 0⟩ : api_Dof)].length), hF, (apL_len h364 q54), (apL_len h357 q60), (apL_len h334 q66), hs_back [0, 1, 2, 3, 4, 5] rfl (by decide) (by exact ⟨rfl, rfl, rfl, rfl, rfl, rfl, trivial⟩) hh⟩)
    · have hF := cnd_f h314 hF
      refine r_brk ?_
      obtain ⟨rfl, rfl, rfl⟩ := sm3 hF
      exact r_backJ Jj88 ⟨x50, x56, x62, b51, c52, n53, b57, c58, n59, b63, c64, n65, hRl87, q54, q60, q66, rfl, rfl⟩ [0, 1, 2, 3, 4, 5] rfl ⟨rfl, rfl, rfl, rfl, rfl, trivial⟩

abbrev N_gantryref05_Small : Nat := 13
def F_gantryref05_Small (a0 : Int) : Option Rat :=
  (F_gantryref01_Around a0 1099511627776).bind fun v2 => (chr v2 6).bind fun v4 => (chk (1 + v4)).bind fun v6 => (chq v2 6).bind fun v8 => (chk (16 * v6)).bind fun v10 => (chk (v10 + 1)).bind fun v12 => (chr v8 v12).bind fun v14 => (chk (8 * v6)).bind fun v16 => (chk (v14 - v16)).bind fun v18 => (qof v18 v6).bind fun v20 => some v20
set_option maxRecDepth 100000 in
theorem ct_gantryref05_Small {a0 : Int} {r : Rat} (hF : F_gantryref05_Small a0 = some r) : Ct Tryz.prog 13 [.vc (pI .i64 a0)] (.va (eQ r)) := by
  unfold F_gantryref05_Small at hF
  refine ctO_intro Tryz.func13 rfl (by kernel_rfl) Tryz.ntmps13 rfl (fun w0 M0 => ?_)
  refine r_seq (r_reg (r_alloc rfl tyZ35q (fun b1 => ?_)))
  refine r_nil (r_next (r_seq (r_reg (r_mv ?_))))
  obtain ⟨v2, h3, hF⟩ := bnd hF
  refine r_op (t_call rfl (ct_gantryref01_Around h3) rfl) ⟨rfl, k_I _ _, trivial⟩ ?_
  refine r_as ?_
  refine r_nil (r_next (r_seq (r_reg (r_mv ?_))))
  obtain ⟨v4, h5, hF⟩ := bnd hF
  refine r_op (t_rem rfl h5) ⟨rfl, k_I _ _, trivial⟩ ?_
  obtain ⟨v6, h7, hF⟩ := bnd hF
  refine r_op (t_add rfl h7) ⟨k_I _ _, rfl, trivial⟩ ?_
  refine r_as ?_
  refine r_nil (r_next (r_seq (r_reg (r_mv ?_))))
  obtain ⟨v8, h9, hF⟩ := bnd hF
  refine r_op (t_quo rfl h9) ⟨rfl, k_I _ _, trivial⟩ ?_
  refine r_mv ?_
  obtain ⟨v10, h11, hF⟩ := bnd hF
  refine r_op (t_mul rfl h11) ⟨k_I _ _, rfl, trivial⟩ ?_
  obtain ⟨v12, h13, hF⟩ := bnd hF
  refine r_op (t_add rfl h13) ⟨rfl, k_I _ _, trivial⟩ ?_
  obtain ⟨v14, h15, hF⟩ := bnd hF
  refine r_op (t_rem rfl h15) ⟨rfl, rfl, trivial⟩ ?_
  refine r_mv ?_
  obtain ⟨v16, h17, hF⟩ := bnd hF
  refine r_op (t_mul rfl h17) ⟨k_I _ _, rfl, trivial⟩ ?_
  obtain ⟨v18, h19, hF⟩ := bnd hF
  refine r_op (t_sub rfl h19) ⟨rfl, rfl, trivial⟩ ?_
  refine r_mv ?_
  obtain ⟨v20, h21, hF⟩ := bnd hF
  refine r_op (t_call rfl (qc_gantryref05_Of h21) rfl) ⟨rfl, rfl, trivial⟩ ?_
  refine r_op0 (t_s 0 rfl rfl rfl tyA35.s) ⟨rfl, rfl, trivial⟩ ?_
  refine r_nil (r_next (r_ret (r_toR ?_)))
  obtain rfl := sm1 hF
  exact r_done1 (.inl rfl) Tryz.results13 (rv_cell 0 4 rfl rfl rfl rfl (.agg tyA35) .nil) rfl rfl

abbrev N_slices_IndexFunc_Term : Nat := 161
def F_slices_IndexFunc_Term_j4 (K : Nat) : Option Int :=
  some (-1)
def F_slices_IndexFunc_Term_l3 (K : Nat) (a0 : List api_Term) (a1 : (api_Term → Option Bool)) : Nat → Int → Option (LR Int Unit)
  | 0, _ => none
  | k + 1, x2 => bif (decide (x2 < (a0.length : Int))) then ((rdL a0 x2).bind fun v6 => (a1 v6).bind fun v8 => bif v8 then (some (.ret x2)) else ((chk (x2 + 1)).bind fun v11 => F_slices_IndexFunc_Term_l3 K a0 a1 k v11)) else (some (.go ()))
def F_slices_IndexFunc_Term (K : Nat) (a0 : List api_Term) (a1 : (api_Term → Option Bool)) : Option Int :=
  (F_slices_IndexFunc_Term_l3 K a0 a1 K 0).bind fun o => match o with | .ret r => some r | .go _ => F_slices_IndexFunc_Term_j4 K 
set_option maxRecDepth 100000 in
theorem ct_slices_IndexFunc_Term {K : Nat} {a0 : List api_Term} {a1 : (api_Term → Option Bool)} {r : Int} (hF : F_slices_IndexFunc_Term K a0 a1 = some r) : Ct Tryz.prog 161 [.vc (pS api_Term.cod a0), .vc (pFn Tryz.prog (fun x : api_Term => [.va (api_Term.enc x)]) (fun r : Bool => .vc (pB r)) a1)] (.vc (pI .i64 r)) := by
  unfold F_slices_IndexFunc_Term at hF
  refine ctO_intro Tryz.func161 rfl (by kernel_rfl) Tryz.ntmps161 rfl (fun w0 M0 => ?_)
  refine r_seq (r_reg (r_op (t_mv (.inr rfl)) ⟨k_I _ _, trivial⟩ ?_))
  refine r_nil (r_next (r_seq (r_seq (r_reg (r_mv ?_)))))
  refine r_op (t_ln rfl tyS29) ⟨rfl, trivial⟩ ?_
  refine r_op (t_mv (.inl rfl)) ⟨k_I _ _, trivial⟩ ?_
  refine r_nil (r_next (r_blk (r_cutN (fun H E => F_slices_IndexFunc_Term_j4 K = some r ∧ H = [] ∧ E = []) ?_ (fun Jj4 => ?_))))
  · rintro _ _ ⟨hF, rfl, rfl⟩
    unfold F_slices_IndexFunc_Term_j4 at hF
    refine r_next (r_seq (r_reg (r_op (t_mv (.inr rfl)) ⟨k_I _ _, trivial⟩ ?_)))
    refine r_nil (r_next (r_ret (r_toR ?_)))
    obtain rfl := sm1 hF
    exact r_done1 (.inl rfl) Tryz.results161 (.tmp rfl .nil) rfl rfl
  · skip
    obtain ⟨ol3, hL, hRl3⟩ := bnd hF
    refine r_lp (fun k a w => ∃ (x2 : Int), F_slices_IndexFunc_Term_l3 K a0 a1 k x2 = some ol3 ∧ hs _ [] [(0, .vc (pS api_Term.cod a0)), (1, .vc (pFn Tryz.prog (fun x : api_Term => [.va (api_Term.enc x)]) (fun r : Bool => .vc (pB r)) a1)), (7, .vc (pI .i64 (a0.length : Int))), (8, .vc (pI .i64 x2))] a w) K (fun a w ⟨_, hF, _⟩ => by cases hF) (fun k a w ⟨x2, hF, hh⟩ => r_at ?_ hh) (fun a w hh => ⟨0, hL, hs_back [] rfl (by decide) (by exact ⟨rfl, rfl, rfl, rfl, trivial⟩) hh⟩)
    rw [F_slices_IndexFunc_Term_l3.eq_2] at hF
    refine r_seq (r_reg (r_op (t_lt rfl) ⟨rfl, rfl, trivial⟩ ?_))
    refine r_nil (r_next (r_seq (r_if rfl (fun h5 => ?_) (fun h5 => ?_))))
    · have hF := cnd_t h5 hF
      refine r_skip (r_next (r_seq (r_blk (r_seq (r_reg (r_mv ?_))))))
      refine r_as ?_
      refine r_nil (r_next (r_seq (r_reg (r_mv ?_))))
      refine r_mv ?_
      refine r_mv ?_
      obtain ⟨v6, h7, hF⟩ := bnd hF
      refine r_op (t_ix rfl tyS29 h7) ⟨rfl, rfl, trivial⟩ ?_
      refine r_op (t_lM 5 rfl rfl (.agg tyA38)) ⟨rfl, trivial⟩ ?_
      obtain ⟨v8, h9, hF⟩ := bnd hF
      refine r_op (t_callF (pre := fun x : api_Term => [.va (api_Term.enc x)]) (post := fun r : Bool => .vc (pB r)) (x := v6) (r := v8) rfl h9 rfl) ⟨rfl, rfl, trivial⟩ ?_
      refine r_nil (r_next (r_if rfl (fun h10 => ?_) (fun h10 => ?_)))
      · have hF := cnd_t h10 hF
        refine r_seq (r_reg (r_mv ?_))
        refine r_as ?_
        refine r_nil (r_next (r_ret (r_toR ?_)))
        obtain rfl := sm1 hF
        obtain rfl := sm1 hRl3
        exact r_done1 (.inl rfl) Tryz.results161 (.tmp rfl .nil) rfl rfl
      · have hF := cnd_f h10 hF
        refine r_skip (r_blkN (r_next (r_reg ?_)))
        obtain ⟨v11, h12, hF⟩ := bnd hF
        refine r_op (t_add rfl h12) ⟨rfl, k_I _ _, trivial⟩ ?_
        refine r_mv ?_
        refine r_nil ?_
        exact r_round (fun a w hh => ⟨v11, hF, hs_back [] rfl (by decide) (by exact ⟨rfl, rfl, rfl, rfl, trivial⟩) hh⟩)
    · have hF := cnd_f h5 hF
      refine r_brk ?_
      obtain rfl := sm1 hF
      exact r_backJ Jj4 ⟨hRl3, rfl, rfl⟩ [] rfl trivial

abbrev N_slices_ContainsFunc_Term : Nat := 131
def F_slices_ContainsFunc_Term (K : Nat) (a0 : List api_Term) (a1 : (api_Term → Option Bool)) : Option Bool :=
  (F_slices_IndexFunc_Term K a0 a1).bind fun v1 => some (decide (0 ≤ v1))
set_option maxRecDepth 100000 in
theorem ct_slices_ContainsFunc_Term {K : Nat} {a0 : List api_Term} {a1 : (api_Term → Option Bool)} {r : Bool} (hF : F_slices_ContainsFunc_Term K a0 a1 = some r) : Ct Tryz.prog 131 [.vc (pS api_Term.cod a0), .vc (pFn Tryz.prog (fun x : api_Term => [.va (api_Term.enc x)]) (fun r : Bool => .vc (pB r)) a1)] (.vc (pB r)) := by
  unfold F_slices_ContainsFunc_Term at hF
  refine ctO_intro Tryz.func131 rfl (by kernel_rfl) Tryz.ntmps131 rfl (fun w0 M0 => ?_)
  refine r_seq (r_reg (r_op (t_mv (.inr rfl)) ⟨k_B _, trivial⟩ ?_))
  refine r_nil (r_next (r_seq (r_reg (r_mv ?_))))
  refine r_mv ?_
  obtain ⟨v1, h2, hF⟩ := bnd hF
  refine r_op (t_call rfl (ct_slices_IndexFunc_Term h2) rfl) ⟨rfl, rfl, trivial⟩ ?_
  refine r_op (t_ge rfl) ⟨rfl, k_I _ _, trivial⟩ ?_
  refine r_as ?_
  refine r_nil (r_next (r_ret (r_toR ?_)))
  obtain rfl := sm1 hF
  exact r_done1 (.inl rfl) Tryz.results131 (.tmp rfl .nil) rfl rfl

abbrev N_energy_within_1 : Nat := 132
def F_energy_within_1 (c0 : Int) (a0 : api_Term) : Option Bool :=
  bif (decide (a0.dof < 0)) then (some true) else (some (decide (c0 ≤ a0.dof)))
set_option maxRecDepth 100000 in
theorem ct_energy_within_1 {c0 : Int} {a0 : api_Term} {r : Bool} (hF : F_energy_within_1 c0 a0 = some r) : Ct Tryz.prog 132 [.va (api_Term.enc a0), .vc (pM (cI.e c0))] (.vc (pB r)) := by
  unfold F_energy_within_1 at hF
  refine ctO_intro Tryz.func132 rfl (by kernel_rfl) Tryz.ntmps132 rfl (fun w0 M0 => ?_)
  refine r_seq (r_reg (r_box rfl rfl trivial (fun b1 => ?_)))
  refine r_op (t_mv (.inr rfl)) ⟨k_B _, trivial⟩ ?_
  refine r_nil (r_next (r_seq (r_reg (r_op (t_fa (off := 0) (k := 0) rfl tyF38_0) ⟨rfl, trivial⟩ ?_))))
  refine r_op (t_l 0 1 rfl rfl rfl rfl (.one tyO3)) ⟨rfl, trivial⟩ ?_
  refine r_op (t_lt rfl) ⟨rfl, k_I _ _, trivial⟩ ?_
  refine r_mv ?_
  refine r_bool (fun h2 => ?_) (fun h2 => ?_)
  · have hF := cnd_t h2 hF
    refine r_opn ?_
    refine r_opn ?_
    refine r_opn ?_
    refine r_opn ?_
    refine r_op (t_pickT rfl) ⟨rfl, k_B _, trivial⟩ ?_
    refine r_as ?_
    refine r_nil (r_next (r_ret (r_toR ?_)))
    obtain rfl := sm1 hF
    exact r_done1 (.inl rfl) Tryz.results132 (.tmp rfl .nil) rfl rfl
  · have hF := cnd_f h2 hF
    refine r_opg (t_fa (off := 0) (k := 0) rfl tyF38_0) ⟨rfl, trivial⟩ ?_
    refine r_opg (t_l 0 1 rfl rfl rfl rfl (.one tyO3)) ⟨rfl, trivial⟩ ?_
    refine r_opg (t_lM 1 rfl rfl (.one tyO3)) ⟨rfl, trivial⟩ ?_
    refine r_opg (t_ge rfl) ⟨rfl, rfl, trivial⟩ ?_
    refine r_op (t_pickF rfl) ⟨rfl, rfl, trivial⟩ ?_
    refine r_as ?_
    refine r_nil (r_next (r_ret (r_toR ?_)))
    obtain rfl := sm1 hF
    exact r_done1 (.inl rfl) Tryz.results132 (.tmp rfl .nil) rfl rfl

abbrev N_energy_within : Nat := 68
def F_energy_within (K : Nat) (a0 : List api_Term) (a1 : Int) : Option Bool :=
  (F_slices_ContainsFunc_Term K a0 (F_energy_within_1 a1)).bind fun v2 => some (!v2)
set_option maxRecDepth 100000 in
theorem ct_energy_within {K : Nat} {a0 : List api_Term} {a1 : Int} {r : Bool} (hF : F_energy_within K a0 a1 = some r) : Ct Tryz.prog 68 [.vc (pS api_Term.cod a0), .vc (pI .i64 a1)] (.vc (pB r)) := by
  unfold F_energy_within at hF
  refine ctO_intro Tryz.func68 rfl (by kernel_rfl) Tryz.ntmps68 rfl (fun w0 M0 => ?_)
  refine r_seq (r_reg (r_box rfl rfl trivial (fun b1 => ?_)))
  refine r_op (t_mv (.inr rfl)) ⟨k_B _, trivial⟩ ?_
  refine r_nil (r_next (r_seq (r_reg (r_mv ?_))))
  refine r_fvL 0 [(3, 0)] rfl ⟨rfl, trivial⟩ rfl ?_
  refine r_op (t_fnF (φ := (F_energy_within_1 a1)) (pre := fun x : api_Term => [.va (api_Term.enc x)]) (post := fun r : Bool => .vc (pB r)) (xs := [.tmp 3]) (cs := [pM (cI.e a1)]) rfl rfl (fun x r h => ct_energy_within_1 h)) ⟨rfl, trivial⟩ ?_
  obtain ⟨v2, h3, hF⟩ := bnd hF
  refine r_op (t_call rfl (ct_slices_ContainsFunc_Term h3) rfl) ⟨rfl, rfl, trivial⟩ ?_
  refine r_op (t_not rfl) ⟨rfl, trivial⟩ ?_
  refine r_as ?_
  refine r_nil (r_next (r_ret (r_toR ?_)))
  obtain rfl := sm1 hF
  exact r_done1 (.inl rfl) Tryz.results68 (.tmp rfl .nil) rfl rfl

abbrev N_energy_sum : Nat := 69
def F_energy_sum_j9 (K : Nat) (x7 : Rat) : Option Rat :=
  some x7
def F_energy_sum_j20 (K : Nat) (x6 : Int) (recl8 : Rat → Int → Option Rat) (x18 : Rat) : Option Rat :=
  (chk (x6 + 1)).bind fun v21 => recl8 x18 v21
def F_energy_sum_l19 (K : Nat) (v11 : energy_account) : Nat → Rat → Int → Option Rat
  | 0, _, _ => none
  | k + 1, x16, x17 => bif (decide (x17 < v11.n)) then ((v11.of x17).bind fun v26 => (qadd x16 v26).bind fun v28 => (chk (x17 + 1)).bind fun v30 => F_energy_sum_l19 K v11 k v28 v30) else (some x16)
def F_energy_sum_l8 (K : Nat) (a0 : List energy_account) : Nat → Rat → Int → Option Rat
  | 0, _, _ => none
  | k + 1, x5, x6 => bif (decide (x6 < (a0.length : Int))) then ((rdL a0 x6).bind fun v11 => (F_energy_sum_l19 K v11 K x5 0).bind fun x18 => F_energy_sum_j20 K x6 (F_energy_sum_l8 K a0 k) x18) else (some x5)
def F_energy_sum (K : Nat) (a0 : List energy_account) : Option Rat :=
  (F_energy_sum_l8 K a0 K 0 0).bind fun x7 => F_energy_sum_j9 K x7
set_option maxRecDepth 100000 in
theorem ct_energy_sum {K : Nat} {a0 : List energy_account} {r : Rat} (hF : F_energy_sum K a0 = some r) : Ct Tryz.prog 69 [.vc (pS energy_account.cod a0)] (.va (eQ r)) := by
  unfold F_energy_sum at hF
  refine ctO_intro Tryz.func69 rfl (by kernel_rfl) Tryz.ntmps69 rfl (fun w0 M0 => ?_)
  refine r_seq (r_reg (r_alloc rfl tyZ35q (fun b1 => ?_)))
  refine r_nil (r_next (r_seq (r_reg (r_alloc rfl tyZ35q (fun b2 => ?_)))))
  refine r_nil (r_next (r_seq (r_seq (r_reg (r_mv ?_)))))
  refine r_op (t_ln rfl tyS155) ⟨rfl, trivial⟩ ?_
  refine r_op (t_mv (.inl rfl)) ⟨k_I _ _, trivial⟩ ?_
  refine r_nil (r_next (r_blk (r_cutN (fun H E => ∃ (x7 : Rat), F_energy_sum_j9 K x7 = some r ∧ H = [⟨some b2, 1, 35, 4, 1, (eQ x7)⟩, ⟨some b1, 1, 35, 4, 1, (eQ 0)⟩] ∧ E = [(2, .vc (pP (some b1) 0)), (3, .vc (pP (some b2) 0))]) ?_ (fun Jj9 => ?_))))
  · rintro _ _ ⟨x7, hF, rfl, rfl⟩
    unfold F_energy_sum_j9 at hF
    refine r_next (r_seq (r_reg (r_op (t_l 0 4 rfl rfl rfl rfl (.agg tyA35)) ⟨rfl, trivial⟩ ?_)))
    refine r_op0 (t_s 1 rfl rfl rfl tyA35.s) ⟨rfl, rfl, trivial⟩ ?_
    refine r_nil (r_next (r_ret (r_toR ?_)))
    obtain rfl := sm1 hF
    exact r_done1 (.inl rfl) Tryz.results69 (rv_cell 1 4 rfl rfl rfl rfl (.agg tyA35) .nil) rfl rfl
  · skip
    obtain ⟨x7', hL, hRl8⟩ := bnd hF
    refine r_lp (fun k a w => ∃ (x5 : Rat), ∃ (x6 : Int), F_energy_sum_l8 K a0 k x5 x6 = some x7' ∧ hs _ [⟨some b2, 1, 35, 4, 1, (eQ x5)⟩, ⟨some b1, 1, 35, 4, 1, (eQ 0)⟩] [(2, .vc (pP (some b1) 0)), (3, .vc (pP (some b2) 0)), (7, .vc (pS energy_account.cod a0)), (8, .vc (pI .i64 (a0.length : Int))), (9, .vc (pI .i64 x6))] a w) K (fun a w ⟨_, _, hF, _⟩ => by cases hF) (fun k a w ⟨x5, x6, hF, hh⟩ => r_at ?_ hh) (fun a w hh => ⟨0, 0, hL, hs_back [0, 1] rfl (by decide) (by exact ⟨rfl, rfl, rfl, rfl, rfl, trivial⟩) hh⟩)
    rw [F_energy_sum_l8.eq_2] at hF
    refine r_seq (r_reg (r_op (t_lt rfl) ⟨rfl, rfl, trivial⟩ ?_))
    refine r_nil (r_next (r_seq (r_if rfl (fun h10 => ?_) (fun h10 => ?_))))
    · have hF := cnd_t h10 hF
      refine r_skip (r_next (r_seq (r_blk (r_seq (r_reg ?_)))))
      obtain ⟨v11, h12, hF⟩ := bnd hF
      refine r_op (t_ix rfl tyS155 h12) ⟨rfl, rfl, trivial⟩ ?_
      refine r_op (t_lM 2 rfl rfl (.agg tyA104)) ⟨rfl, trivial⟩ ?_
      refine r_alloc rfl tyZ104q (fun b13 => ?_)
      refine r_op0 (t_s 0 rfl rfl rfl tyA104.s) ⟨rfl, rfl, trivial⟩ ?_
      refine r_nil (r_next (r_seq (r_reg (r_op (t_fa (off := 0) (k := 0) rfl tyF104_0) ⟨rfl, trivial⟩ ?_))))
      refine r_op (t_l 0 1 rfl rfl rfl rfl (.one tyO3)) ⟨rfl, trivial⟩ ?_
      refine r_op (t_mv (.inl rfl)) ⟨k_I _ _, trivial⟩ ?_
      refine r_nil (r_next (r_blk (r_cutN (fun H E => ∃ (x18 : Rat), F_energy_sum_j20 K x6 (F_energy_sum_l8 K a0 k) x18 = some x7' ∧ H = [⟨some b2, 1, 35, 4, 1, (eQ x18)⟩, ⟨some b1, 1, 35, 4, 1, (eQ 0)⟩] ∧ E = [(2, .vc (pP (some b1) 0)), (3, .vc (pP (some b2) 0)), (7, .vc (pS energy_account.cod a0)), (8, .vc (pI .i64 (a0.length : Int))), (9, .vc (pI .i64 x6))]) ?_ (fun Jj20 => ?_))))
      · rintro _ _ ⟨x18, hF, rfl, rfl⟩
        unfold F_energy_sum_j20 at hF
        refine r_blkN (r_next (r_reg ?_))
        obtain ⟨v21, h22, hF⟩ := bnd hF
        refine r_op (t_add rfl h22) ⟨rfl, k_I _ _, trivial⟩ ?_
        refine r_mv ?_
        refine r_nil ?_
        exact r_round (fun a w hh => ⟨x18, v21, hF, hs_back [0, 1] rfl (by decide) (by exact ⟨rfl, rfl, rfl, rfl, rfl, trivial⟩) hh⟩)
      · skip
        obtain ⟨x18', hL, hRl19⟩ := bnd hF
        refine r_lp (fun k a w => ∃ (x16 : Rat), ∃ (x17 : Int), F_energy_sum_l19 K v11 k x16 x17 = some x18' ∧ hs _ [⟨some b13, 1, 104, 2, 1, (energy_account.enc v11)⟩, ⟨some b2, 1, 35, 4, 1, (eQ x16)⟩, ⟨some b1, 1, 35, 4, 1, (eQ 0)⟩] [(2, .vc (pP (some b1) 0)), (3, .vc (pP (some b2) 0)), (5, .vc (pP (some b13) 0)), (7, .vc (pS energy_account.cod a0)), (8, .vc (pI .i64 (a0.length : Int))), (9, .vc (pI .i64 x6)), (14, .vc (pI .i64 v11.n)), (15, .vc (pI .i64 x17))] a w) K (fun a w ⟨_, _, hF, _⟩ => by cases hF) (fun k a w ⟨x16, x17, hF, hh⟩ => r_at ?_ hh) (fun a w hh => ⟨x5, 0, hL, hs_back [0, 1, 2] rfl (by decide) (by exact ⟨rfl, rfl, rfl, rfl, rfl, rfl, rfl, rfl, trivial⟩) hh⟩)
        rw [F_energy_sum_l19.eq_2] at hF
        refine r_seq (r_reg (r_op (t_lt rfl) ⟨rfl, rfl, trivial⟩ ?_))
        refine r_nil (r_next (r_seq (r_if rfl (fun h23 => ?_) (fun h23 => ?_))))
        · have hF := cnd_t h23 hF
          refine r_skip (r_next (r_seq (r_blk (r_seq (r_reg (r_mv ?_))))))
          refine r_as ?_
          refine r_nil (r_next ?_)
          obtain ⟨v26, h27, hF⟩ := bnd hF
          obtain ⟨v28, h29, hF⟩ := bnd hF
          refine r_draw [0, 0, 2, 0, 14, 31, 63] 6 1 [.v (.va (eQ x16)), .v (.vc (pP (some b13) 1)), .v (.vc (pFn Tryz.prog (fun x : Int => [.vc (pI .i64 x)]) (fun r : Rat => .va (eQ r)) v11.of)), .v (.vc (pI .i64 x17)), .v (.va (eQ v26)), .v (.va (eQ v28))] Tryz_mixed ⟨⟨rfl, .run (lo := 0) (n := 1) ⟨fun G24 A => t_l 1 4 rfl rfl rfl rfl (.agg tyA35), trivial⟩ (fun G24 => ⟨rfl, trivial⟩)⟩, ⟨rfl, .run (lo := 0) (n := 1) ⟨fun G24 A => t_fa (off := 0) (k := 1) rfl tyF104_1, trivial⟩ (fun G24 => ⟨rfl, trivial⟩)⟩, ⟨rfl, .run (lo := 0) (n := 1) ⟨fun G24 A => t_l 0 1 rfl rfl rfl rfl (.one tyO36), trivial⟩ (fun G24 => ⟨rfl, trivial⟩)⟩, ⟨rfl, .run (lo := 0) (n := 1) ⟨fun G24 A => t_mv (.inl rfl), trivial⟩ (fun G24 => ⟨rfl, trivial⟩)⟩, ⟨rfl, .run (lo := 0) (n := 1) ⟨fun G24 A => t_callF (pre := fun x : Int => [.vc (pI .i64 x)]) (post := fun r : Rat => .va (eQ r)) (x := x17) (r := v26) rfl h27 rfl, trivial⟩ (fun G24 => ⟨rfl, rfl, trivial⟩)⟩, ⟨rfl, .run (lo := 0) (n := 1) ⟨fun G24 A => t_call rfl (qc_rat_Add h29) rfl, trivial⟩ (fun G24 => ⟨rfl, rfl, trivial⟩)⟩, trivial⟩ (fun bs25 G24 => ?_)
          refine r_op0 (t_s 1 rfl rfl rfl tyA35.s) ⟨rfl, rfl, trivial⟩ ?_
          refine r_nil (r_blkN (r_next (r_reg ?_)))
          obtain ⟨v30, h31, hF⟩ := bnd hF
          refine r_op (t_add rfl h31) ⟨rfl, k_I _ _, trivial⟩ ?_
          refine r_mv ?_
          refine r_nil ?_
          exact r_round (fun a w hh => ⟨v28, v30, hF, hs_back [0, 1, 2] rfl (by decide) (by exact ⟨rfl, rfl, rfl, rfl, rfl, rfl, rfl, rfl, trivial⟩) hh⟩)
        · have hF := cnd_f h23 hF
          refine r_brk ?_
          obtain rfl := sm1 hF
          exact r_backJ Jj20 ⟨x16, hRl19, rfl, rfl⟩ [1, 2] rfl ⟨rfl, rfl, rfl, rfl, rfl, trivial⟩
    · have hF := cnd_f h10 hF
      refine r_brk ?_
      obtain rfl := sm1 hF
      exact r_backJ Jj9 ⟨x5, hRl8, rfl, rfl⟩ [0, 1] rfl ⟨rfl, rfl, trivial⟩

abbrev N_energy_Momentum_1 : Nat := 70
def F_energy_Momentum_1 (c0 : List api_Term) (c1 : List Rat) (c2 : List api_Dof) (a0 : Int) : Option Rat :=
  (rdL c0 a0).bind fun v2 => (rdL c0 a0).bind fun v6 => (rdL c1 v2.dof).bind fun v8 => (qmul v6.k v8).bind fun v10 => (rdL c2 v2.dof).bind fun v12 => (qdiv v10 v12.inv).bind fun v14 => some v14
set_option maxRecDepth 100000 in
theorem ct_energy_Momentum_1 {c0 : List api_Term} {c1 : List Rat} {c2 : List api_Dof} {a0 : Int} {r : Rat} (hF : F_energy_Momentum_1 c0 c1 c2 a0 = some r) : Ct Tryz.prog 70 [.vc (pI .i64 a0), .vc (pM ((cSl api_Term.cod).e c0)), .vc (pM ((cSl cQ).e c1)), .vc (pM ((cSl api_Dof.cod).e c2))] (.va (eQ r)) := by
  unfold F_energy_Momentum_1 at hF
  refine ctO_intro Tryz.func70 rfl (by kernel_rfl) Tryz.ntmps70 rfl (fun w0 M0 => ?_)
  refine r_seq (r_reg (r_alloc rfl tyZ35q (fun b1 => ?_)))
  refine r_nil (r_next (r_seq (r_reg (r_op (t_lM 1 rfl rfl (.one tyO29)) ⟨rfl, trivial⟩ ?_))))
  refine r_mv ?_
  obtain ⟨v2, h3, hF⟩ := bnd hF
  refine r_op (t_ix rfl tyS29 h3) ⟨rfl, rfl, trivial⟩ ?_
  refine r_op (t_faM (ps := (api_Term.cod.e v2)) (k := 0) rfl tyF38_0) ⟨rfl, trivial⟩ ?_
  refine r_op (t_lM 1 rfl rfl (.one tyO3)) ⟨rfl, trivial⟩ ?_
  refine r_as ?_
  refine r_nil (r_next (r_seq ?_))
  obtain ⟨v6, h7, hF⟩ := bnd hF
  obtain ⟨v8, h9, hF⟩ := bnd hF
  obtain ⟨v10, h11, hF⟩ := bnd hF
  obtain ⟨v12, h13, hF⟩ := bnd hF
  obtain ⟨v14, h15, hF⟩ := bnd hF
  refine r_draw [0, 0, 3, 7, 15, 0, 0, 96, 224, 511, 0, 0, 3072, 7168, 15360, 32767, 65535] 16 1 [.v (.vc (pS api_Term.cod c0)), .v (.vc (pI .i64 a0)), .v (.vc (pM (api_Term.cod.e v6))), .v (.vc (pM ((api_Term.cod.e v6).drop 1))), .v (.va (eQ v6.k)), .v (.vc (pS cQ c1)), .v (.vc (pI .i64 v2.dof)), .v (.vc (pM (cQ.e v8))), .v (.va (eQ v8)), .v (.va (eQ v10)), .v (.vc (pS api_Dof.cod c2)), .v (.vc (pI .i64 v2.dof)), .v (.vc (pM (api_Dof.cod.e v12))), .v (.vc (pM (api_Dof.cod.e v12))), .v (.va (eQ v12.inv)), .v (.va (eQ v14))] Tryz_mixed ⟨⟨rfl, .run (lo := 0) (n := 1) ⟨fun G4 A => t_lM 1 rfl rfl (.one tyO29), trivial⟩ (fun G4 => ⟨rfl, trivial⟩)⟩, ⟨rfl, .run (lo := 0) (n := 1) ⟨fun G4 A => t_mv (.inl rfl), trivial⟩ (fun G4 => ⟨rfl, trivial⟩)⟩, ⟨rfl, .run (lo := 0) (n := 1) ⟨fun G4 A => t_ix rfl tyS29 h7, trivial⟩ (fun G4 => ⟨rfl, rfl, trivial⟩)⟩, ⟨rfl, .run (lo := 0) (n := 1) ⟨fun G4 A => t_faM (ps := (api_Term.cod.e v6)) (k := 1) rfl tyF38_1, trivial⟩ (fun G4 => ⟨rfl, trivial⟩)⟩, ⟨rfl, .run (lo := 0) (n := 1) ⟨fun G4 A => t_lM 4 rfl rfl (.agg tyA35), trivial⟩ (fun G4 => ⟨rfl, trivial⟩)⟩, ⟨rfl, .run (lo := 0) (n := 1) ⟨fun G4 A => t_lM 1 rfl rfl (.one tyO24), trivial⟩ (fun G4 => ⟨rfl, trivial⟩)⟩, ⟨rfl, .run (lo := 0) (n := 1) ⟨fun G4 A => t_mv (.inl rfl), trivial⟩ (fun G4 => ⟨rfl, trivial⟩)⟩, ⟨rfl, .run (lo := 0) (n := 1) ⟨fun G4 A => t_ix rfl tyS24 h9, trivial⟩ (fun G4 => ⟨rfl, rfl, trivial⟩)⟩, ⟨rfl, .run (lo := 0) (n := 1) ⟨fun G4 A => t_lM 4 rfl rfl (.agg tyA35), trivial⟩ (fun G4 => ⟨rfl, trivial⟩)⟩, ⟨rfl, .run (lo := 0) (n := 1) ⟨fun G4 A => t_call rfl (qc_rat_Mul h11) rfl, trivial⟩ (fun G4 => ⟨rfl, rfl, trivial⟩)⟩, ⟨rfl, .run (lo := 0) (n := 1) ⟨fun G4 A => t_lM 1 rfl rfl (.one tyO23), trivial⟩ (fun G4 => ⟨rfl, trivial⟩)⟩, ⟨rfl, .run (lo := 0) (n := 1) ⟨fun G4 A => t_mv (.inl rfl), trivial⟩ (fun G4 => ⟨rfl, trivial⟩)⟩, ⟨rfl, .run (lo := 0) (n := 1) ⟨fun G4 A => t_ix rfl tyS23 h13, trivial⟩ (fun G4 => ⟨rfl, rfl, trivial⟩)⟩, ⟨rfl, .run (lo := 0) (n := 1) ⟨fun G4 A => t_faM (ps := (api_Dof.cod.e v12)) (k := 0) rfl tyF66_0, trivial⟩ (fun G4 => ⟨rfl, trivial⟩)⟩, ⟨rfl, .run (lo := 0) (n := 1) ⟨fun G4 A => t_lM 4 rfl rfl (.agg tyA35), trivial⟩ (fun G4 => ⟨rfl, trivial⟩)⟩, ⟨rfl, .run (lo := 0) (n := 1) ⟨fun G4 A => t_call rfl (qc_rat_Div h15) rfl, trivial⟩ (fun G4 => ⟨rfl, rfl, trivial⟩)⟩, trivial⟩ (fun bs5 G4 => ?_)
  refine r_op0 (t_s 0 rfl rfl rfl tyA35.s) ⟨rfl, rfl, trivial⟩ ?_
  refine r_nil (r_next (r_ret (r_toR ?_)))
  obtain rfl := sm1 hF
  exact r_done1 (.inl rfl) Tryz.results70 (rv_cell 0 4 rfl rfl rfl rfl (.agg tyA35) .nil) rfl rfl

abbrev N_energy_Momentum : Nat := 15
def F_energy_Momentum (K : Nat) (a0 : List api_Dof) (a1 : List Rat) (a2 : List api_Term) : Option (Rat × Int) :=
  (F_energy_within K a2 (a0.length : Int)).bind fun v5 => bif (!v5) then (some (0, 1)) else ((F_energy_sum K [(⟨(a2.length : Int), (F_energy_Momentum_1 a2 a1 a0)⟩ : energy_account)]).bind fun v8 => some (v8, 0))
set_option maxRecDepth 100000 in
theorem ct_energy_Momentum {K : Nat} {a0 : List api_Dof} {a1 : List Rat} {a2 : List api_Term} {r : Rat × Int} (hF : F_energy_Momentum K a0 a1 a2 = some r) : Ct Tryz.prog 15 [.vc (pS api_Dof.cod a0), .vc (pS cQ a1), .vc (pS api_Term.cod a2)] (.t2 (.va (eQ r.1)) (.vc (pI .i64 r.2))) := by
  unfold F_energy_Momentum at hF
  refine ctO_intro Tryz.func15 rfl (by kernel_rfl) Tryz.ntmps15 rfl (fun w0 M0 => ?_)
  refine r_seq (r_reg (r_box rfl rfl trivial (fun b1 => ?_)))
  refine r_box rfl rfl trivial (fun b2 => ?_)
  refine r_box rfl rfl trivial (fun b3 => ?_)
  refine r_alloc rfl tyZ35q (fun b4 => ?_)
  refine r_op (t_mv (.inr rfl)) ⟨k_I _ _, trivial⟩ ?_
  refine r_nil (r_next (r_seq (r_seq (r_reg (r_op (t_l 1 1 rfl rfl rfl rfl (.one tyO29)) ⟨rfl, trivial⟩ ?_)))))
  refine r_op (t_l 3 1 rfl rfl rfl rfl (.one tyO23)) ⟨rfl, trivial⟩ ?_
  refine r_op (t_ln rfl tyS23) ⟨rfl, trivial⟩ ?_
  obtain ⟨v5, h6, hF⟩ := bnd hF
  refine r_op (t_call rfl (ct_energy_within h6) rfl) ⟨rfl, rfl, trivial⟩ ?_
  refine r_op (t_not rfl) ⟨rfl, trivial⟩ ?_
  refine r_nil (r_next (r_if rfl (fun h7 => ?_) (fun h7 => ?_)))
  · have hF := cnd_t h7 hF
    refine r_seq (r_reg (r_op (t_bld (is := []) (xs := []) (ps := []) rfl tyB35q rfl rfl trivial rfl) trivial ?_))
    refine r_op0 (t_s 0 rfl rfl rfl tyA35.s) ⟨rfl, rfl, trivial⟩ ?_
    refine r_op (t_mv (.inr rfl)) ⟨k_I _ _, trivial⟩ ?_
    refine r_nil (r_next (r_ret (r_toR ?_)))
    obtain rfl := sm1 hF
    exact r_done1 (.inl rfl) Tryz.results15 (rv_cell 0 4 rfl rfl rfl rfl (.agg tyA35) (.tmp rfl .nil)) rfl rfl
  · have hF := cnd_f h7 hF
    refine r_skip (r_next (r_seq (r_reg (r_op (t_l 1 1 rfl rfl rfl rfl (.one tyO29)) ⟨rfl, trivial⟩ ?_))))
    refine r_op (t_ln rfl tyS29) ⟨rfl, trivial⟩ ?_
    refine r_fvL 1 [(5, 0)] rfl ⟨rfl, trivial⟩ rfl ?_
    refine r_fvL 1 [(4, 0)] rfl ⟨rfl, trivial⟩ rfl ?_
    refine r_fvL 1 [(3, 0)] rfl ⟨rfl, trivial⟩ rfl ?_
    refine r_op (t_fnF (φ := (F_energy_Momentum_1 a2 a1 a0)) (pre := fun x : Int => [.vc (pI .i64 x)]) (post := fun r : Rat => .va (eQ r)) (xs := [.tmp 5, .tmp 4, .tmp 3]) (cs := [pM ((cSl api_Term.cod).e a2), pM ((cSl cQ).e a1), pM ((cSl api_Dof.cod).e a0)]) rfl rfl (fun x r h => ct_energy_Momentum_1 h)) ⟨rfl, rfl, rfl, trivial⟩ ?_
    refine r_op (t_bld (is := [0, 1]) (xs := [.tmp 15, .tmp 16]) (ps := [.vc (pI .i64 (a2.length : Int)), .vc (pFn Tryz.prog (fun x : Int => [.vc (pI .i64 x)]) (fun r : Rat => .va (eQ r)) (F_energy_Momentum_1 a2 a1 a0))]) rfl tyB104q rfl rfl ⟨trivial, trivial, trivial⟩ rfl) ⟨rfl, rfl, trivial⟩ ?_
    refine r_op (t_bs (C := energy_account.cod) (xs := [.tmp 17]) (ps := [.va ([pI .i64 (a2.length : Int)] ++ [pFn Tryz.prog (fun x : Int => [.vc (pI .i64 x)]) (fun r : Rat => .va (eQ r)) (F_energy_Momentum_1 a2 a1 a0)])]) (zs := [(⟨(a2.length : Int), (F_energy_Momentum_1 a2 a1 a0)⟩ : energy_account)]) rfl tyS155 rfl ⟨⟨trivial, rfl⟩, trivial⟩ rfl) ⟨rfl, trivial⟩ ?_
    obtain ⟨v8, h9, hF⟩ := bnd hF
    refine r_op (t_call rfl (ct_energy_sum h9) rfl) ⟨rfl, trivial⟩ ?_
    refine r_op0 (t_s 0 rfl rfl rfl tyA35.s) ⟨rfl, rfl, trivial⟩ ?_
    refine r_op (t_mv (.inr rfl)) ⟨k_I _ _, trivial⟩ ?_
    refine r_nil (r_next (r_ret (r_toR ?_)))
    obtain rfl := sm1 hF
    exact r_done1 (.inl rfl) Tryz.results15 (rv_cell 0 4 rfl rfl rfl rfl (.agg tyA35) (.tmp rfl .nil)) rfl rfl

abbrev N_gantryref21_within : Nat := 72
def F_gantryref21_within_j4 (K : Nat) : Option Bool :=
  some true
def F_gantryref21_within_l3 (K : Nat) (a0 : List api_Term) (a1 : Int) : Nat → Int → Option (LR Bool Unit)
  | 0, _ => none
  | k + 1, x2 => bif (decide (x2 < (a0.length : Int))) then ((rdL a0 x2).bind fun v6 => bif (decide (v6.dof < 0)) then (some (.ret false)) else ((rdL a0 x2).bind fun v9 => bif (decide (a1 ≤ v9.dof)) then (some (.ret false)) else ((chk (x2 + 1)).bind fun v12 => F_gantryref21_within_l3 K a0 a1 k v12))) else (some (.go ()))
def F_gantryref21_within (K : Nat) (a0 : List api_Term) (a1 : Int) : Option Bool :=
  (F_gantryref21_within_l3 K a0 a1 K 0).bind fun o => match o with | .ret r => some r | .go _ => F_gantryref21_within_j4 K 
set_option maxRecDepth 100000 in
theorem ct_gantryref21_within {K : Nat} {a0 : List api_Term} {a1 : Int} {r : Bool} (hF : F_gantryref21_within K a0 a1 = some r) : Ct Tryz.prog 72 [.vc (pS api_Term.cod a0), .vc (pI .i64 a1)] (.vc (pB r)) := by
  unfold F_gantryref21_within at hF
  refine ctO_intro Tryz.func72 rfl (by kernel_rfl) Tryz.ntmps72 rfl (fun w0 M0 => ?_)
  refine r_seq (r_reg (r_op (t_mv (.inr rfl)) ⟨k_B _, trivial⟩ ?_))
  refine r_nil (r_next (r_seq (r_seq (r_reg (r_op (t_mv (.inr rfl)) ⟨k_I _ _, trivial⟩ ?_)))))
  refine r_nil (r_next (r_blk (r_cutN (fun H E => F_gantryref21_within_j4 K = some r ∧ H = [] ∧ E = []) ?_ (fun Jj4 => ?_))))
  · rintro _ _ ⟨hF, rfl, rfl⟩
    unfold F_gantryref21_within_j4 at hF
    refine r_next (r_seq (r_reg (r_op (t_mv (.inr rfl)) ⟨k_B _, trivial⟩ ?_)))
    refine r_nil (r_next (r_ret (r_toR ?_)))
    obtain rfl := sm1 hF
    exact r_done1 (.inl rfl) Tryz.results72 (.tmp rfl .nil) rfl rfl
  · skip
    obtain ⟨ol3, hL, hRl3⟩ := bnd hF
    refine r_lp (fun k a w => ∃ (x2 : Int), F_gantryref21_within_l3 K a0 a1 k x2 = some ol3 ∧ hs _ [] [(0, .vc (pS api_Term.cod a0)), (1, .vc (pI .i64 a1)), (5, .vc (pI .i64 x2))] a w) K (fun a w ⟨_, hF, _⟩ => by cases hF) (fun k a w ⟨x2, hF, hh⟩ => r_at ?_ hh) (fun a w hh => ⟨0, hL, hs_back [] rfl (by decide) (by exact ⟨rfl, rfl, rfl, trivial⟩) hh⟩)
    rw [F_gantryref21_within_l3.eq_2] at hF
    refine r_seq (r_seq (r_reg (r_mv ?_)))
    refine r_mv ?_
    refine r_op (t_ln rfl tyS29) ⟨rfl, trivial⟩ ?_
    refine r_op (t_lt rfl) ⟨rfl, rfl, trivial⟩ ?_
    refine r_nil (r_next (r_if rfl (fun h5 => ?_) (fun h5 => ?_)))
    · have hF := cnd_t h5 hF
      refine r_skip (r_next (r_seq (r_blk (r_seq (r_reg (r_mv ?_))))))
      refine r_mv ?_
      obtain ⟨v6, h7, hF⟩ := bnd hF
      refine r_op (t_ix rfl tyS29 h7) ⟨rfl, rfl, trivial⟩ ?_
      refine r_op (t_faM (ps := (api_Term.cod.e v6)) (k := 0) rfl tyF38_0) ⟨rfl, trivial⟩ ?_
      refine r_op (t_lM 1 rfl rfl (.one tyO3)) ⟨rfl, trivial⟩ ?_
      refine r_op (t_lt rfl) ⟨rfl, k_I _ _, trivial⟩ ?_
      refine r_mv ?_
      refine r_bool (fun h8 => ?_) (fun h8 => ?_)
      · have hF := cnd_t h8 hF
        refine r_opn ?_
        refine r_opn ?_
        refine r_opn ?_
        refine r_opn ?_
        refine r_opn ?_
        refine r_opn ?_
        refine r_opn ?_
        refine r_op (t_pickT rfl) ⟨rfl, k_B _, trivial⟩ ?_
        refine r_nil (r_next (r_ifT rfl ?_))
        refine r_seq (r_reg (r_op (t_mv (.inr rfl)) ⟨k_B _, trivial⟩ ?_))
        refine r_nil (r_next (r_ret (r_toR ?_)))
        obtain rfl := sm1 hF
        obtain rfl := sm1 hRl3
        exact r_done1 (.inl rfl) Tryz.results72 (.tmp rfl .nil) rfl rfl
      · have hF := cnd_f h8 hF
        refine r_opg (t_mv (.inl rfl)) ⟨rfl, trivial⟩ ?_
        refine r_opg (t_mv (.inl rfl)) ⟨rfl, trivial⟩ ?_
        obtain ⟨v9, h10, hF⟩ := bnd hF
        refine r_opg (t_ix rfl tyS29 h10) ⟨rfl, rfl, trivial⟩ ?_
        refine r_opg (t_faM (ps := (api_Term.cod.e v9)) (k := 0) rfl tyF38_0) ⟨rfl, trivial⟩ ?_
        refine r_opg (t_lM 1 rfl rfl (.one tyO3)) ⟨rfl, trivial⟩ ?_
        refine r_opg (t_mv (.inl rfl)) ⟨rfl, trivial⟩ ?_
        refine r_opg (t_ge rfl) ⟨rfl, rfl, trivial⟩ ?_
        refine r_op (t_pickF rfl) ⟨rfl, rfl, trivial⟩ ?_
        refine r_nil (r_next (r_if rfl (fun h11 => ?_) (fun h11 => ?_)))
        · have hF := cnd_t h11 hF
          refine r_seq (r_reg (r_op (t_mv (.inr rfl)) ⟨k_B _, trivial⟩ ?_))
          refine r_nil (r_next (r_ret (r_toR ?_)))
          obtain rfl := sm1 hF
          obtain rfl := sm1 hRl3
          exact r_done1 (.inl rfl) Tryz.results72 (.tmp rfl .nil) rfl rfl
        · have hF := cnd_f h11 hF
          refine r_skip (r_blkN (r_next (r_reg (r_mv ?_))))
          obtain ⟨v12, h13, hF⟩ := bnd hF
          refine r_op (t_add rfl h13) ⟨rfl, k_I _ _, trivial⟩ ?_
          refine r_as ?_
          refine r_nil ?_
          exact r_round (fun a w hh => ⟨v12, hF, hs_back [] rfl (by decide) (by exact ⟨rfl, rfl, rfl, trivial⟩) hh⟩)
    · have hF := cnd_f h5 hF
      refine r_brk ?_
      obtain rfl := sm1 hF
      exact r_backJ Jj4 ⟨hRl3, rfl, rfl⟩ [] rfl trivial

abbrev N_gantryref21_Momentum : Nat := 16
def F_gantryref21_Momentum_j12 (K : Nat) (x10 : Rat) : Option (Rat × Int) :=
  some (x10, 0)
def F_gantryref21_Momentum_l11 (K : Nat) (a0 : List api_Dof) (a1 : List Rat) (a2 : List api_Term) : Nat → Rat → Int → Option Rat
  | 0, _, _ => none
  | k + 1, x8, x9 => bif (decide (x9 < (a2.length : Int))) then ((rdL a2 x9).bind fun v16 => (rdL a2 x9).bind fun v18 => (rdL a1 v18.dof).bind fun v20 => (rdL a2 x9).bind fun v22 => (rdL a0 v22.dof).bind fun v24 => (qdiv v20 v24.inv).bind fun v26 => (qmul v16.k v26).bind fun v28 => (qadd x8 v28).bind fun v30 => (chk (x9 + 1)).bind fun v32 => F_gantryref21_Momentum_l11 K a0 a1 a2 k v30 v32) else (some x8)
def F_gantryref21_Momentum (K : Nat) (a0 : List api_Dof) (a1 : List Rat) (a2 : List api_Term) : Option (Rat × Int) :=
  (F_gantryref21_within K a2 (a0.length : Int)).bind fun v2 => bif (!v2) then (some (0, 1)) else ((F_gantryref21_Momentum_l11 K a0 a1 a2 K 0 0).bind fun x10 => F_gantryref21_Momentum_j12 K x10)
set_option maxRecDepth 100000 in
theorem ct_gantryref21_Momentum {K : Nat} {a0 : List api_Dof} {a1 : List Rat} {a2 : List api_Term} {r : Rat × Int} (hF : F_gantryref21_Momentum K a0 a1 a2 = some r) : Ct Tryz.prog 16 [.vc (pS api_Dof.cod a0), .vc (pS cQ a1), .vc (pS api_Term.cod a2)] (.t2 (.va (eQ r.1)) (.vc (pI .i64 r.2))) := by
  unfold F_gantryref21_Momentum at hF
  refine ctO_intro Tryz.func16 rfl (by kernel_rfl) Tryz.ntmps16 rfl (fun w0 M0 => ?_)
  refine r_seq (r_reg (r_alloc rfl tyZ35q (fun b1 => ?_)))
  refine r_op (t_mv (.inr rfl)) ⟨k_I _ _, trivial⟩ ?_
  refine r_nil (r_next (r_seq (r_seq (r_reg (r_mv ?_)))))
  refine r_mv ?_
  refine r_op (t_ln rfl tyS23) ⟨rfl, trivial⟩ ?_
  obtain ⟨v2, h3, hF⟩ := bnd hF
  refine r_op (t_call rfl (ct_gantryref21_within h3) rfl) ⟨rfl, rfl, trivial⟩ ?_
  refine r_op (t_not rfl) ⟨rfl, trivial⟩ ?_
  refine r_nil (r_next (r_if rfl (fun h4 => ?_) (fun h4 => ?_)))
  · have hF := cnd_t h4 hF
    refine r_seq (r_reg (r_op (t_bld (is := []) (xs := []) (ps := []) rfl tyB35q rfl rfl trivial rfl) trivial ?_))
    refine r_op0 (t_s 0 rfl rfl rfl tyA35.s) ⟨rfl, rfl, trivial⟩ ?_
    refine r_op (t_mv (.inr rfl)) ⟨k_I _ _, trivial⟩ ?_
    refine r_nil (r_next (r_ret (r_toR ?_)))
    obtain rfl := sm1 hF
    exact r_done1 (.inl rfl) Tryz.results16 (rv_cell 0 4 rfl rfl rfl rfl (.agg tyA35) (.tmp rfl .nil)) rfl rfl
  · have hF := cnd_f h4 hF
    refine r_skip (r_next (r_seq (r_reg (r_alloc rfl tyZ35q (fun b5 => ?_)))))
    refine r_nil (r_next (r_seq (r_seq (r_reg (r_op (t_mv (.inr rfl)) ⟨k_I _ _, trivial⟩ ?_)))))
    refine r_nil (r_next (r_blk (r_cutN (fun H E => ∃ (x10 : Rat), F_gantryref21_Momentum_j12 K x10 = some r ∧ H = [⟨some b5, 1, 35, 4, 1, (eQ x10)⟩, ⟨some b1, 1, 35, 4, 1, (eQ 0)⟩] ∧ E = [(6, .vc (pP (some b1) 0)), (8, .vc (pP (some b5) 0))]) ?_ (fun Jj12 => ?_))))
    · rintro _ _ ⟨x10, hF, rfl, rfl⟩
      unfold F_gantryref21_Momentum_j12 at hF
      refine r_next (r_seq (r_reg (r_op (t_l 0 4 rfl rfl rfl rfl (.agg tyA35)) ⟨rfl, trivial⟩ ?_)))
      refine r_op0 (t_s 1 rfl rfl rfl tyA35.s) ⟨rfl, rfl, trivial⟩ ?_
      refine r_op (t_mv (.inr rfl)) ⟨k_I _ _, trivial⟩ ?_
      refine r_nil (r_next (r_ret (r_toR ?_)))
      obtain rfl := sm1 hF
      exact r_done1 (.inl rfl) Tryz.results16 (rv_cell 1 4 rfl rfl rfl rfl (.agg tyA35) (.tmp rfl .nil)) rfl rfl
    · skip
      obtain ⟨x10', hL, hRl11⟩ := bnd hF
      refine r_lp (fun k a w => ∃ (x8 : Rat), ∃ (x9 : Int), F_gantryref21_Momentum_l11 K a0 a1 a2 k x8 x9 = some x10' ∧ hs _ [⟨some b5, 1, 35, 4, 1, (eQ x8)⟩, ⟨some b1, 1, 35, 4, 1, (eQ 0)⟩] [(0, .vc (pS api_Dof.cod a0)), (1, .vc (pS cQ a1)), (2, .vc (pS api_Term.cod a2)), (6, .vc (pP (some b1) 0)), (8, .vc (pP (some b5) 0)), (9, .vc (pI .i64 x9))] a w) K (fun a w ⟨_, _, hF, _⟩ => by cases hF) (fun k a w ⟨x8, x9, hF, hh⟩ => r_at ?_ hh) (fun a w hh => ⟨0, 0, hL, hs_back [0, 1] rfl (by decide) (by exact ⟨rfl, rfl, rfl, rfl, rfl, rfl, trivial⟩) hh⟩)
      rw [F_gantryref21_Momentum_l11.eq_2] at hF
      refine r_seq (r_seq (r_reg (r_mv ?_)))
      refine r_mv ?_
      refine r_op (t_ln rfl tyS29) ⟨rfl, trivial⟩ ?_
      refine r_op (t_lt rfl) ⟨rfl, rfl, trivial⟩ ?_
      refine r_nil (r_next (r_if rfl (fun h13 => ?_) (fun h13 => ?_)))
      · have hF := cnd_t h13 hF
        refine r_skip (r_next (r_seq (r_blk ?_)))
        obtain ⟨v16, h17, hF⟩ := bnd hF
        obtain ⟨v18, h19, hF⟩ := bnd hF
        obtain ⟨v20, h21, hF⟩ := bnd hF
        obtain ⟨v22, h23, hF⟩ := bnd hF
        obtain ⟨v24, h25, hF⟩ := bnd hF
        obtain ⟨v26, h27, hF⟩ := bnd hF
        obtain ⟨v28, h29, hF⟩ := bnd hF
        obtain ⟨v30, h31, hF⟩ := bnd hF
        refine r_draw (0 :: 0 :: 0 :: 6 :: 14 :: 30 :: 0 :: 0 :: 0 :: 384 :: 896 :: 1920 :: 4032 :: 8128 :: 0 :: 0 :: 0 :: 98304 :: 229376 :: 491520 :: 1032192 :: 2080768 :: 4177920 :: 8388544 :: 16777214 :: 33554431 :: 67108863 :: []) 26 1 (.v (.va (eQ x8)) :: .v (.vc (pS api_Term.cod a2)) :: .v (.vc (pI .i64 x9)) :: .v (.vc (pM (api_Term.cod.e v16))) :: .v (.vc (pM ((api_Term.cod.e v16).drop 1))) :: .v (.va (eQ v16.k)) :: .v (.vc (pS cQ a1)) :: .v (.vc (pS api_Term.cod a2)) :: .v (.vc (pI .i64 x9)) :: .v (.vc (pM (api_Term.cod.e v18))) :: .v (.vc (pM (api_Term.cod.e v18))) :: .v (.vc (pI .i64 v18.dof)) :: .v (.vc (pM (cQ.e v20))) :: .v (.va (eQ v20)) :: .v (.vc (pS api_Dof.cod a0)) :: .v (.vc (pS api_Term.cod a2)) :: .v (.vc (pI .i64 x9)) :: .v (.vc (pM (api_Term.cod.e v22))) :: .v (.vc (pM (api_Term.cod.e v22))) :: .v (.vc (pI .i64 v22.dof)) :: .v (.vc (pM (api_Dof.cod.e v24))) :: .v (.vc (pM (api_Dof.cod.e v24))) :: .v (.va (eQ v24.inv)) :: .v (.va (eQ v26)) :: .v (.va (eQ v28)) :: .v (.va (eQ v30)) :: []) Tryz_mixed ⟨⟨rfl, .run (lo := 0) (n := 1) ⟨fun G14 A => t_l 0 4 rfl rfl rfl rfl (.agg tyA35), trivial⟩ (fun G14 => ⟨rfl, trivial⟩)⟩, ⟨rfl, .run (lo := 0) (n := 1) ⟨fun G14 A => t_mv (.inl rfl), trivial⟩ (fun G14 => ⟨rfl, trivial⟩)⟩, ⟨rfl, .run (lo := 0) (n := 1) ⟨fun G14 A => t_mv (.inl rfl), trivial⟩ (fun G14 => ⟨rfl, trivial⟩)⟩, ⟨rfl, .run (lo := 0) (n := 1) ⟨fun G14 A => t_ix rfl tyS29 h17, trivial⟩ (fun G14 => ⟨rfl, rfl, trivial⟩)⟩, ⟨rfl, .run (lo := 0) (n := 1) ⟨fun G14 A => t_faM (ps := (api_Term.cod.e v16)) (k := 1) rfl tyF38_1, trivial⟩ (fun G14 => ⟨rfl, trivial⟩)⟩, ⟨rfl, .run (lo := 0) (n := 1) ⟨fun G14 A => t_lM 4 rfl rfl (.agg tyA35), trivial⟩ (fun G14 => ⟨rfl, trivial⟩)⟩, ⟨rfl, .run (lo := 0) (n := 1) ⟨fun G14 A => t_mv (.inl rfl), trivial⟩ (fun G14 => ⟨rfl, trivial⟩)⟩, ⟨rfl, .run (lo := 0) (n := 1) ⟨fun G14 A => t_mv (.inl rfl), trivial⟩ (fun G14 => ⟨rfl, trivial⟩)⟩, ⟨rfl, .run (lo := 0) (n := 1) ⟨fun G14 A => t_mv (.inl rfl), trivial⟩ (fun G14 => ⟨rfl, trivial⟩)⟩, ⟨rfl, .run (lo := 0) (n := 1) ⟨fun G14 A => t_ix rfl tyS29 h19, trivial⟩ (fun G14 => ⟨rfl, rfl, trivial⟩)⟩, ⟨rfl, .run (lo := 0) (n := 1) ⟨fun G14 A => t_faM (ps := (api_Term.cod.e v18)) (k := 0) rfl tyF38_0, trivial⟩ (fun G14 => ⟨rfl, trivial⟩)⟩, ⟨rfl, .run (lo := 0) (n := 1) ⟨fun G14 A => t_lM 1 rfl rfl (.one tyO3), trivial⟩ (fun G14 => ⟨rfl, trivial⟩)⟩, ⟨rfl, .run (lo := 0) (n := 1) ⟨fun G14 A => t_ix rfl tyS24 h21, trivial⟩ (fun G14 => ⟨rfl, rfl, trivial⟩)⟩, ⟨rfl, .run (lo := 0) (n := 1) ⟨fun G14 A => t_lM 4 rfl rfl (.agg tyA35), trivial⟩ (fun G14 => ⟨rfl, trivial⟩)⟩, ⟨rfl, .run (lo := 0) (n := 1) ⟨fun G14 A => t_mv (.inl rfl), trivial⟩ (fun G14 => ⟨rfl, trivial⟩)⟩, ⟨rfl, .run (lo := 0) (n := 1) ⟨fun G14 A => t_mv (.inl rfl), trivial⟩ (fun G14 => ⟨rfl, trivial⟩)⟩, ⟨rfl, .run (lo := 0) (n := 1) ⟨fun G14 A => t_mv (.inl rfl), trivial⟩ (fun G14 => ⟨rfl, trivial⟩)⟩, ⟨rfl, .run (lo := 0) (n := 1) ⟨fun G14 A => t_ix rfl tyS29 h23, trivial⟩ (fun G14 => ⟨rfl, rfl, trivial⟩)⟩, ⟨rfl, .run (lo := 0) (n := 1) ⟨fun G14 A => t_faM (ps := (api_Term.cod.e v22)) (k := 0) rfl tyF38_0, trivial⟩ (fun G14 => ⟨rfl, trivial⟩)⟩, ⟨rfl, .run (lo := 0) (n := 1) ⟨fun G14 A => t_lM 1 rfl rfl (.one tyO3), trivial⟩ (fun G14 => ⟨rfl, trivial⟩)⟩, ⟨rfl, .run (lo := 0) (n := 1) ⟨fun G14 A => t_ix rfl tyS23 h25, trivial⟩ (fun G14 => ⟨rfl, rfl, trivial⟩)⟩, ⟨rfl, .run (lo := 0) (n := 1) ⟨fun G14 A => t_faM (ps := (api_Dof.cod.e v24)) (k := 0) rfl tyF66_0, trivial⟩ (fun G14 => ⟨rfl, trivial⟩)⟩, ⟨rfl, .run (lo := 0) (n := 1) ⟨fun G14 A => t_lM 4 rfl rfl (.agg tyA35), trivial⟩ (fun G14 => ⟨rfl, trivial⟩)⟩, ⟨rfl, .run (lo := 0) (n := 1) ⟨fun G14 A => t_call rfl (qc_gantryref05_Div h27) rfl, trivial⟩ (fun G14 => ⟨rfl, rfl, trivial⟩)⟩, ⟨rfl, .run (lo := 0) (n := 1) ⟨fun G14 A => t_call rfl (qc_gantryref05_Mul h29) rfl, trivial⟩ (fun G14 => ⟨rfl, rfl, trivial⟩)⟩, ⟨rfl, .run (lo := 0) (n := 1) ⟨fun G14 A => t_call rfl (qc_gantryref05_Add h31) rfl, trivial⟩ (fun G14 => ⟨rfl, rfl, trivial⟩)⟩, trivial⟩ (fun bs15 G14 => ?_)
        refine r_op0 (t_s 0 rfl rfl rfl tyA35.s) ⟨rfl, rfl, trivial⟩ ?_
        refine r_nil (r_blkN (r_next (r_reg (r_mv ?_))))
        obtain ⟨v32, h33, hF⟩ := bnd hF
        refine r_op (t_add rfl h33) ⟨rfl, k_I _ _, trivial⟩ ?_
        refine r_as ?_
        refine r_nil ?_
        exact r_round (fun a w hh => ⟨v30, v32, hF, hs_back [0, 1] rfl (by decide) (by exact ⟨rfl, rfl, rfl, rfl, rfl, rfl, trivial⟩) hh⟩)
      · have hF := cnd_f h13 hF
        refine r_brk ?_
        obtain rfl := sm1 hF
        exact r_backJ Jj12 ⟨x8, hRl11, rfl, rfl⟩ [0, 1] rfl ⟨rfl, rfl, trivial⟩

abbrev N_matrix_cols : Nat := 101
def F_matrix_cols (a0 : List (List Rat)) : Option Int :=
  bif ((a0.length : Int) == 0) then (some 0) else ((rdL a0 0).bind fun v2 => some (v2.length : Int))
set_option maxRecDepth 100000 in
theorem ct_matrix_cols {a0 : List (List Rat)} {r : Int} (hF : F_matrix_cols a0 = some r) : Ct Tryz.prog 101 [.vc (pS (cSl cQ) a0)] (.vc (pI .i64 r)) := by
  unfold F_matrix_cols at hF
  refine ctO_intro Tryz.func101 rfl (by kernel_rfl) Tryz.ntmps101 rfl (fun w0 M0 => ?_)
  refine r_seq (r_reg (r_op (t_mv (.inr rfl)) ⟨k_I _ _, trivial⟩ ?_))
  refine r_nil (r_next (r_seq (r_seq (r_reg (r_mv ?_)))))
  refine r_op (t_ln rfl tyS47) ⟨rfl, trivial⟩ ?_
  refine r_op (t_eq rfl) ⟨rfl, k_I _ _, trivial⟩ ?_
  refine r_nil (r_next (r_if rfl (fun h1 => ?_) (fun h1 => ?_)))
  · have hF := cnd_t h1 hF
    refine r_seq (r_reg (r_op (t_mv (.inr rfl)) ⟨k_I _ _, trivial⟩ ?_))
    refine r_nil (r_next (r_ret (r_toR ?_)))
    obtain rfl := sm1 hF
    exact r_done1 (.inl rfl) Tryz.results101 (.tmp rfl .nil) rfl rfl
  · have hF := cnd_f h1 hF
    refine r_skip (r_next (r_seq (r_reg (r_mv ?_))))
    obtain ⟨v2, h3, hF⟩ := bnd hF
    refine r_op (t_ix rfl tyS47 h3) ⟨rfl, k_I _ _, trivial⟩ ?_
    refine r_op (t_lM 1 rfl rfl (.one tyO24)) ⟨rfl, trivial⟩ ?_
    refine r_op (t_ln rfl tyS24) ⟨rfl, trivial⟩ ?_
    refine r_as ?_
    refine r_nil (r_next (r_ret (r_toR ?_)))
    obtain rfl := sm1 hF
    exact r_done1 (.inl rfl) Tryz.results101 (.tmp rfl .nil) rfl rfl

abbrev N_slices_IndexFunc_Rat : Nat := 147
def F_slices_IndexFunc_Rat_j4 (K : Nat) : Option Int :=
  some (-1)
def F_slices_IndexFunc_Rat_l3 (K : Nat) (a0 : List (List Rat)) (a1 : ((List Rat) → Option Bool)) : Nat → Int → Option (LR Int Unit)
  | 0, _ => none
  | k + 1, x2 => bif (decide (x2 < (a0.length : Int))) then ((rdL a0 x2).bind fun v6 => (a1 v6).bind fun v8 => bif v8 then (some (.ret x2)) else ((chk (x2 + 1)).bind fun v11 => F_slices_IndexFunc_Rat_l3 K a0 a1 k v11)) else (some (.go ()))
def F_slices_IndexFunc_Rat (K : Nat) (a0 : List (List Rat)) (a1 : ((List Rat) → Option Bool)) : Option Int :=
  (F_slices_IndexFunc_Rat_l3 K a0 a1 K 0).bind fun o => match o with | .ret r => some r | .go _ => F_slices_IndexFunc_Rat_j4 K 
set_option maxRecDepth 100000 in
theorem ct_slices_IndexFunc_Rat {K : Nat} {a0 : List (List Rat)} {a1 : ((List Rat) → Option Bool)} {r : Int} (hF : F_slices_IndexFunc_Rat K a0 a1 = some r) : Ct Tryz.prog 147 [.vc (pS (cSl cQ) a0), .vc (pFn Tryz.prog (fun x : (List Rat) => [.vc (pS cQ x)]) (fun r : Bool => .vc (pB r)) a1)] (.vc (pI .i64 r)) := by
  unfold F_slices_IndexFunc_Rat at hF
  refine ctO_intro Tryz.func147 rfl (by kernel_rfl) Tryz.ntmps147 rfl (fun w0 M0 => ?_)
  refine r_seq (r_reg (r_op (t_mv (.inr rfl)) ⟨k_I _ _, trivial⟩ ?_))
  refine r_nil (r_next (r_seq (r_seq (r_reg (r_mv ?_)))))
  refine r_op (t_ln rfl tyS47) ⟨rfl, trivial⟩ ?_
  refine r_op (t_mv (.inl rfl)) ⟨k_I _ _, trivial⟩ ?_
  refine r_nil (r_next (r_blk (r_cutN (fun H E => F_slices_IndexFunc_Rat_j4 K = some r ∧ H = [] ∧ E = []) ?_ (fun Jj4 => ?_))))
  · rintro _ _ ⟨hF, rfl, rfl⟩
    unfold F_slices_IndexFunc_Rat_j4 at hF
    refine r_next (r_seq (r_reg (r_op (t_mv (.inr rfl)) ⟨k_I _ _, trivial⟩ ?_)))
    refine r_nil (r_next (r_ret (r_toR ?_)))
    obtain rfl := sm1 hF
    exact r_done1 (.inl rfl) Tryz.results147 (.tmp rfl .nil) rfl rfl
  · skip
    obtain ⟨ol3, hL, hRl3⟩ := bnd hF
    refine r_lp (fun k a w => ∃ (x2 : Int), F_slices_IndexFunc_Rat_l3 K a0 a1 k x2 = some ol3 ∧ hs _ [] [(0, .vc (pS (cSl cQ) a0)), (1, .vc (pFn Tryz.prog (fun x : (List Rat) => [.vc (pS cQ x)]) (fun r : Bool => .vc (pB r)) a1)), (7, .vc (pI .i64 (a0.length : Int))), (8, .vc (pI .i64 x2))] a w) K (fun a w ⟨_, hF, _⟩ => by cases hF) (fun k a w ⟨x2, hF, hh⟩ => r_at ?_ hh) (fun a w hh => ⟨0, hL, hs_back [] rfl (by decide) (by exact ⟨rfl, rfl, rfl, rfl, trivial⟩) hh⟩)
    rw [F_slices_IndexFunc_Rat_l3.eq_2] at hF
    refine r_seq (r_reg (r_op (t_lt rfl) ⟨rfl, rfl, trivial⟩ ?_))
    refine r_nil (r_next (r_seq (r_if rfl (fun h5 => ?_) (fun h5 => ?_))))
    · have hF := cnd_t h5 hF
      refine r_skip (r_next (r_seq (r_blk (r_seq (r_reg (r_mv ?_))))))
      refine r_as ?_
      refine r_nil (r_next (r_seq (r_reg (r_mv ?_))))
      refine r_mv ?_
      refine r_mv ?_
      obtain ⟨v6, h7, hF⟩ := bnd hF
      refine r_op (t_ix rfl tyS47 h7) ⟨rfl, rfl, trivial⟩ ?_
      refine r_op (t_lM 1 rfl rfl (.one tyO24)) ⟨rfl, trivial⟩ ?_
      obtain ⟨v8, h9, hF⟩ := bnd hF
      refine r_op (t_callF (pre := fun x : (List Rat) => [.vc (pS cQ x)]) (post := fun r : Bool => .vc (pB r)) (x := v6) (r := v8) rfl h9 rfl) ⟨rfl, rfl, trivial⟩ ?_
      refine r_nil (r_next (r_if rfl (fun h10 => ?_) (fun h10 => ?_)))
      · have hF := cnd_t h10 hF
        refine r_seq (r_reg (r_mv ?_))
        refine r_as ?_
        refine r_nil (r_next (r_ret (r_toR ?_)))
        obtain rfl := sm1 hF
        obtain rfl := sm1 hRl3
        exact r_done1 (.inl rfl) Tryz.results147 (.tmp rfl .nil) rfl rfl
      · have hF := cnd_f h10 hF
        refine r_skip (r_blkN (r_next (r_reg ?_)))
        obtain ⟨v11, h12, hF⟩ := bnd hF
        refine r_op (t_add rfl h12) ⟨rfl, k_I _ _, trivial⟩ ?_
        refine r_mv ?_
        refine r_nil ?_
        exact r_round (fun a w hh => ⟨v11, hF, hs_back [] rfl (by decide) (by exact ⟨rfl, rfl, rfl, rfl, trivial⟩) hh⟩)
    · have hF := cnd_f h5 hF
      refine r_brk ?_
      obtain rfl := sm1 hF
      exact r_backJ Jj4 ⟨hRl3, rfl, rfl⟩ [] rfl trivial

abbrev N_slices_ContainsFunc_Rat : Nat := 123
def F_slices_ContainsFunc_Rat (K : Nat) (a0 : List (List Rat)) (a1 : ((List Rat) → Option Bool)) : Option Bool :=
  (F_slices_IndexFunc_Rat K a0 a1).bind fun v1 => some (decide (0 ≤ v1))
set_option maxRecDepth 100000 in
theorem ct_slices_ContainsFunc_Rat {K : Nat} {a0 : List (List Rat)} {a1 : ((List Rat) → Option Bool)} {r : Bool} (hF : F_slices_ContainsFunc_Rat K a0 a1 = some r) : Ct Tryz.prog 123 [.vc (pS (cSl cQ) a0), .vc (pFn Tryz.prog (fun x : (List Rat) => [.vc (pS cQ x)]) (fun r : Bool => .vc (pB r)) a1)] (.vc (pB r)) := by
  unfold F_slices_ContainsFunc_Rat at hF
  refine ctO_intro Tryz.func123 rfl (by kernel_rfl) Tryz.ntmps123 rfl (fun w0 M0 => ?_)
  refine r_seq (r_reg (r_op (t_mv (.inr rfl)) ⟨k_B _, trivial⟩ ?_))
  refine r_nil (r_next (r_seq (r_reg (r_mv ?_))))
  refine r_mv ?_
  obtain ⟨v1, h2, hF⟩ := bnd hF
  refine r_op (t_call rfl (ct_slices_IndexFunc_Rat h2) rfl) ⟨rfl, rfl, trivial⟩ ?_
  refine r_op (t_ge rfl) ⟨rfl, k_I _ _, trivial⟩ ?_
  refine r_as ?_
  refine r_nil (r_next (r_ret (r_toR ?_)))
  obtain rfl := sm1 hF
  exact r_done1 (.inl rfl) Tryz.results123 (.tmp rfl .nil) rfl rfl

abbrev N_matrix_Valid_1 : Nat := 124
def F_matrix_Valid_1 (c0 : List (List Rat)) (a0 : List Rat) : Option Bool :=
  (rdL c0 0).bind fun v1 => some ((a0.length : Int) != (v1.length : Int))
set_option maxRecDepth 100000 in
theorem ct_matrix_Valid_1 {c0 : List (List Rat)} {a0 : List Rat} {r : Bool} (hF : F_matrix_Valid_1 c0 a0 = some r) : Ct Tryz.prog 124 [.vc (pS cQ a0), .vc (pM ((cSl (cSl cQ)).e c0))] (.vc (pB r)) := by
  unfold F_matrix_Valid_1 at hF
  refine ctO_intro Tryz.func124 rfl (by kernel_rfl) Tryz.ntmps124 rfl (fun w0 M0 => ?_)
  refine r_seq (r_reg (r_op (t_mv (.inr rfl)) ⟨k_B _, trivial⟩ ?_))
  refine r_nil (r_next (r_seq (r_reg (r_mv ?_))))
  refine r_op (t_ln rfl tyS24) ⟨rfl, trivial⟩ ?_
  refine r_op (t_lM 1 rfl rfl (.one tyO47)) ⟨rfl, trivial⟩ ?_
  obtain ⟨v1, h2, hF⟩ := bnd hF
  refine r_op (t_ix rfl tyS47 h2) ⟨rfl, k_I _ _, trivial⟩ ?_
  refine r_op (t_lM 1 rfl rfl (.one tyO24)) ⟨rfl, trivial⟩ ?_
  refine r_op (t_ln rfl tyS24) ⟨rfl, trivial⟩ ?_
  refine r_op (t_ne rfl) ⟨rfl, rfl, trivial⟩ ?_
  refine r_as ?_
  refine r_nil (r_next (r_ret (r_toR ?_)))
  obtain rfl := sm1 hF
  exact r_done1 (.inl rfl) Tryz.results124 (.tmp rfl .nil) rfl rfl

abbrev N_matrix_Valid : Nat := 61
def F_matrix_Valid (K : Nat) (a0 : List (List Rat)) : Option Bool :=
  bif (decide ((a0.length : Int) ≤ 64)) then ((F_matrix_cols a0).bind fun v3 => bif (decide (v3 ≤ 64)) then ((F_slices_ContainsFunc_Rat K a0 (F_matrix_Valid_1 a0)).bind fun v6 => some (!v6)) else (some false)) else (some false)
set_option maxRecDepth 100000 in
theorem ct_matrix_Valid {K : Nat} {a0 : List (List Rat)} {r : Bool} (hF : F_matrix_Valid K a0 = some r) : Ct Tryz.prog 61 [.vc (pS (cSl cQ) a0)] (.vc (pB r)) := by
  unfold F_matrix_Valid at hF
  refine ctO_intro Tryz.func61 rfl (by kernel_rfl) Tryz.ntmps61 rfl (fun w0 M0 => ?_)
  refine r_seq (r_reg (r_box rfl rfl trivial (fun b1 => ?_)))
  refine r_op (t_mv (.inr rfl)) ⟨k_B _, trivial⟩ ?_
  refine r_nil (r_next (r_seq (r_reg (r_op (t_l 0 1 rfl rfl rfl rfl (.one tyO47)) ⟨rfl, trivial⟩ ?_))))
  refine r_op (t_ln rfl tyS47) ⟨rfl, trivial⟩ ?_
  refine r_op (t_le rfl) ⟨rfl, k_I _ _, trivial⟩ ?_
  refine r_mv ?_
  refine r_bool (fun h2 => ?_) (fun h2 => ?_)
  · have hF := cnd_t h2 hF
    refine r_opg (t_l 0 1 rfl rfl rfl rfl (.one tyO47)) ⟨rfl, trivial⟩ ?_
    obtain ⟨v3, h4, hF⟩ := bnd hF
    refine r_opg (t_call rfl (ct_matrix_cols h4) rfl) ⟨rfl, trivial⟩ ?_
    refine r_opg (t_le rfl) ⟨rfl, k_I _ _, trivial⟩ ?_
    refine r_op (t_pickT rfl) ⟨rfl, rfl, trivial⟩ ?_
    refine r_mv ?_
    refine r_bool (fun h5 => ?_) (fun h5 => ?_)
    · have hF := cnd_t h5 hF
      refine r_opg (t_l 0 1 rfl rfl rfl rfl (.one tyO47)) ⟨rfl, trivial⟩ ?_
      refine r_fvL 0 [(1, 0)] rfl ⟨rfl, trivial⟩ rfl ?_
      refine r_opg (t_fnF (φ := (F_matrix_Valid_1 a0)) (pre := fun x : (List Rat) => [.vc (pS cQ x)]) (post := fun r : Bool => .vc (pB r)) (xs := [.tmp 1]) (cs := [pM ((cSl (cSl cQ)).e a0)]) rfl rfl (fun x r h => ct_matrix_Valid_1 h)) ⟨rfl, trivial⟩ ?_
      obtain ⟨v6, h7, hF⟩ := bnd hF
      refine r_opg (t_call rfl (ct_slices_ContainsFunc_Rat h7) rfl) ⟨rfl, rfl, trivial⟩ ?_
      refine r_opg (t_not rfl) ⟨rfl, trivial⟩ ?_
      refine r_op (t_pickT rfl) ⟨rfl, rfl, trivial⟩ ?_
      refine r_as ?_
      refine r_nil (r_next (r_ret (r_toR ?_)))
      obtain rfl := sm1 hF
      exact r_done1 (.inl rfl) Tryz.results61 (.tmp rfl .nil) rfl rfl
    · have hF := cnd_f h5 hF
      refine r_opn ?_
      refine r_opn ?_
      refine r_opn ?_
      refine r_opn ?_
      refine r_op (t_pickF rfl) ⟨rfl, k_B _, trivial⟩ ?_
      refine r_as ?_
      refine r_nil (r_next (r_ret (r_toR ?_)))
      obtain rfl := sm1 hF
      exact r_done1 (.inl rfl) Tryz.results61 (.tmp rfl .nil) rfl rfl
  · have hF := cnd_f h2 hF
    refine r_opn ?_
    refine r_opn ?_
    refine r_opn ?_
    refine r_op (t_pickF rfl) ⟨rfl, k_B _, trivial⟩ ?_
    refine r_mv ?_
    refine r_opn ?_
    refine r_opn ?_
    refine r_opn ?_
    refine r_opn ?_
    refine r_op (t_pickF rfl) ⟨rfl, k_B _, trivial⟩ ?_
    refine r_as ?_
    refine r_nil (r_next (r_ret (r_toR ?_)))
    obtain rfl := sm1 hF
    exact r_done1 (.inl rfl) Tryz.results61 (.tmp rfl .nil) rfl rfl

abbrev N_slices_Clone_Rat : Nat := 108
def F_slices_Clone_Rat (a0 : List Rat) : Option (List Rat) :=
  (apL ([] : List Rat) a0).bind fun x9 => some x9
set_option maxRecDepth 100000 in
theorem ctO_slices_Clone_Rat {a0 : List Rat} {r : List Rat} (hF : F_slices_Clone_Rat a0 = some r) : CtO Tryz.prog 108 [] [.vc (pS cQ a0)] (fun Ho q => ∃ b18 c19 n17, r.length = n17 ∧ Ho = [hO cQ b18 c19 35 n17 r] ∧ q = .vc (pO b18 n17 c19)) := by
  unfold F_slices_Clone_Rat at hF
  refine ctO_intro Tryz.func108 rfl (by kernel_rfl) Tryz.ntmps108 rfl (fun w0 M0 => ?_)
  refine r_seq (r_reg (r_nilO cQ 35 rfl ?_))
  refine r_nil (r_next (r_seq (r_seq (r_reg (r_mv ?_)))))
  refine r_isnil rfl Tryz.underlying24 rfl (fun h3 => ?_) ?_
  · skip
    subst h3
    have hF : some ([] : List Rat) = some r := by simpa [apL] using hF
    refine r_nil (r_next (r_ifT rfl ?_))
    refine r_seq (r_reg (r_nilO cQ 35 rfl ?_))
    refine r_nil (r_next (r_ret (r_toR ?_)))
    obtain rfl := sm1 hF
    exact r_done (.inl rfl) Tryz.results108 (.tmp rfl .nil) rfl [0] rfl (by decide) ⟨none, 0, 0, rfl, rfl, rfl⟩
  · skip
    refine r_nil (r_next (r_ifF rfl ?_))
    refine r_skip (r_next (r_seq (r_reg (r_hv (hv_bs (C := cQ) (xs := []) (ps := []) (zs := ([] : List Rat)) rfl tyS24 rfl trivial rfl) trivial (fun b6 _ => ?_)))))
    refine r_mv ?_
    obtain ⟨x9, h10, hF⟩ := bnd hF
    refine r_app 0 rfl tyS24 rfl rfl rfl rfl rfl h10 (fun b11 c12 H13 e14 => ?_)
    cases e14
    refine r_as ?_
    refine r_nil (r_next (r_ret (r_toR ?_)))
    obtain rfl := sm1 hF
    exact r_done (.inl rfl) Tryz.results108 (.tmp rfl .nil) rfl [0] rfl (by decide) ⟨b11, c12, (0 + a0.length), (apL_len h10 rfl), rfl, rfl⟩
theorem ct_slices_Clone_Rat {a0 : List Rat} {r : List Rat} (hF : F_slices_Clone_Rat a0 = some r) : Ct Tryz.prog 108 [.vc (pS cQ a0)] (.vc (pS cQ r)) := ct_ofO (ctO_slices_Clone_Rat hF)

abbrev N_matrix_reduce_1 : Nat := 146
def F_matrix_reduce_1_j67 (K : Nat) (c0 : ((List Nat × List (List Rat)) × List Int × Rat)) (x54 : List Nat) (x60 : List (List Rat)) : Option ((List Nat × List (List Rat)) × List Int × Rat) :=
  some ((x54, x60), c0.2.1, c0.2.2)
def F_matrix_reduce_1_l66 (K : Nat) (a0 : Int) (a1 : Int) (v22 : Rat) : Nat → (List Nat) → (List (List Rat)) → Int → Option ((List Nat) × (List (List Rat)))
  | 0, _, _, _ => none
  | k + 1, x41, x47, x53 => (rdL x41 a0).bind fun v68 => bif (decide (x53 < ((x47.getD v68 []).length : Int))) then ((rdL x41 a1).bind fun v71 => (rdL (x47.getD v71 []) x53).bind fun v73 => (qsgn v73).bind fun v75 => bif (v75 != 0) then ((rdL x41 a0).bind fun v80 => (rdL x41 a0).bind fun v82 => (rdL (x47.getD v82 []) x53).bind fun v84 => (rdL x41 a1).bind fun v86 => (rdL (x47.getD v86 []) x53).bind fun v88 => (qmul v22 v88).bind fun v90 => (qsub v84 v90).bind fun v92 => (rdL (x47.getD v80 []) x53).bind fun v94 => (stL (x47.getD v80 []) x53 v92).bind fun x96 => (chk (x53 + 1)).bind fun v99 => F_matrix_reduce_1_l66 K a0 a1 v22 k x41 (x47.set v80 x96) v99) else ((chk (x53 + 1)).bind fun v101 => F_matrix_reduce_1_l66 K a0 a1 v22 k x41 x47 v101)) else (some (x41, x47))
def F_matrix_reduce_1 (K : Nat) (c0 : ((List Nat × List (List Rat)) × List Int × Rat)) (a0 : Int) (a1 : Int) (a2 : Int) : Option ((List Nat × List (List Rat)) × List Int × Rat) :=
  (rdL c0.1.1 a0).bind fun v20 => (rdL (c0.1.2.getD v20 []) a2).bind fun v22 => (qsgn v22).bind fun v25 => bif (v25 == 0) then (some ((c0.1.1, c0.1.2), c0.2.1, c0.2.2)) else ((F_matrix_reduce_1_l66 K a0 a1 v22 K c0.1.1 c0.1.2 a2).bind fun (x54, x60) => F_matrix_reduce_1_j67 K c0 x54 x60)
set_option maxRecDepth 100000 in
theorem ctO_matrix_reduce_1 {K : Nat} {c0 : ((List Nat × List (List Rat)) × List Int × Rat)} {a0 : Int} {a1 : Int} {a2 : Int} {r : ((List Nat × List (List Rat)) × List Int × Rat)} (hF : F_matrix_reduce_1 K c0 a0 a1 a2 = some r) {p0 : Nat} {b5 : Option Nat} {c6 n4 : Nat} {g3 : List Hdr} {N9 : Nat} (q7 : c0.1.1.length = n4) (q10 : c0.1.2.length = N9) (q11 : LenOk g3 c0.1.2) (q12 : (∀ k ∈ c0.1.1, k < N9)) {b16 : Option Nat} {c17 n15 : Nat} (q18 : c0.2.1.length = n15) : CtO Tryz.prog 146 ([⟨some p0, 1, 136, 6, 1, ([pO b5 n4 c6] ++ [pO b16 n15 c17] ++ (eQ c0.2.2))⟩, hO (cH g3) b5 c6 24 n4 c0.1.1, hO cI b16 c17 3 n15 c0.2.1] ++ inn cQ 35 g3 c0.1.2) [.vc (pI .i64 a0), .vc (pI .i64 a1), .vc (pI .i64 a2), .vc (pP (some p0) 0)] (fun Ho q => ∃ b107 c108 n106 g105 N111, ∃ b118 c119 n117, r.1.1.length = n106 ∧ r.1.2.length = N111 ∧ LenOk g105 r.1.2 ∧ (∀ k ∈ r.1.1, k < N111) ∧ r.2.1.length = n117 ∧ Ho = ([⟨some p0, 1, 136, 6, 1, ([pO b107 n106 c108] ++ [pO b118 n117 c119] ++ (eQ r.2.2))⟩, hO (cH g105) b107 c108 24 n106 r.1.1, hO cI b118 c119 3 n117 r.2.1] ++ inn cQ 35 g105 r.1.2) ∧ q = .any) := by
  unfold F_matrix_reduce_1 at hF
  refine ctO_intro Tryz.func146 rfl (by kernel_rfl) Tryz.ntmps146 rfl (fun w0 M0 => ?_)
  refine r_seq (r_reg (r_op (t_fa (off := 0) (k := 0) rfl tyF136_0) ⟨rfl, trivial⟩ ?_))
  refine r_op (t_l 0 1 rfl rfl rfl rfl (.one tyO47)) ⟨rfl, trivial⟩ ?_
  refine r_mv ?_
  obtain ⟨v20, h21, hF⟩ := bnd hF
  refine r_op (t_ixE (C := (cH g3)) 1 rfl tyS47 rfl q7 (rdL_some h21).1 (rdL_some h21).2.1) ⟨rfl, rfl, trivial⟩ ?_
  refine r_op (t_ldE (C := (cH g3)) (k := 1) 1 rfl rfl h21 rfl (.one tyO24) rfl) ⟨rfl, trivial⟩ ?_
  refine r_mv ?_
  obtain ⟨v22, h23, hF⟩ := bnd hF
  refine r_op (t_ixE (3 + v20) rfl tyS24 (inn_p 3 rfl q11 q10 (q12 _ (rdL_mem h21))) (row_len q11 q10 (q12 _ (rdL_mem h21))) (rdL_some h23).1 (rdL_some h23).2.1) ⟨rfl, rfl, trivial⟩ ?_
  refine r_op (t_ldE (k := 4) (3 + v20) rfl (inn_p 3 rfl q11 q10 (q12 _ (rdL_mem h21))) h23 rfl (.agg tyA35) rfl) ⟨rfl, trivial⟩ ?_
  refine r_alloc rfl tyZ35q (fun b24 => ?_)
  refine r_op0 (t_s 0 rfl rfl rfl tyA35.s) ⟨rfl, rfl, trivial⟩ ?_
  refine r_nil (r_next (r_seq (r_seq (r_reg (r_op (t_l 0 4 rfl rfl rfl rfl (.agg tyA35)) ⟨rfl, trivial⟩ ?_)))))
  obtain ⟨v25, h26, hF⟩ := bnd hF
  refine r_op (t_call rfl (qc_rat_Sign h26) rfl) ⟨rfl, trivial⟩ ?_
  refine r_op (t_eq rfl) ⟨rfl, k_I _ _, trivial⟩ ?_
  refine r_nil (r_next (r_if rfl (fun h27 => ?_) (fun h27 => ?_)))
  · have hF := cnd_t h27 hF
    refine r_ret (r_toR ?_)
    obtain rfl := sm1 hF
    exact r_doneA (.inl rfl) Tryz.results146 .nil rfl 4 [1, 2, 3] rfl rfl (by decide) ⟨b5, c6, n4, g3, N9, b16, c17, n15, q7, q10, q11, q12, q18, rfl, rfl⟩
  · have hF := cnd_f h27 hF
    refine r_skip (r_next (r_seq (r_reg (r_mv ?_))))
    refine r_as ?_
    refine r_nil (r_next (r_blk (r_cutN (fun H E => ∃ (x54 : List Nat), ∃ (x60 : List (List Rat)), ∃ (b55 : Option Nat), ∃ (c56 : Nat), ∃ (n57 : Nat), ∃ (g61 : List Hdr), ∃ (N62 : Nat), F_matrix_reduce_1_j67 K c0 x54 x60 = some r ∧ x54.length = n57 ∧ x60.length = N62 ∧ LenOk g61 x60 ∧ (∀ k ∈ x54, k < N62) ∧ H = ([⟨some p0, 1, 136, 6, 1, ([pO b55 n57 c56] ++ [pO b16 n15 c17] ++ (eQ c0.2.2))⟩, hO (cH g61) b55 c56 24 n57 x54, hO cI b16 c17 3 n15 c0.2.1] ++ inn cQ 35 g61 x60) ∧ E = [(3, .vc (pP (some p0) 0))]) ?_ (fun Jj67 => ?_))))
    · rintro _ _ ⟨x54, x60, b55, c56, n57, g61, N62, hF, q58, q63, q64, q65, rfl, rfl⟩
      unfold F_matrix_reduce_1_j67 at hF
      obtain rfl := sm1 hF
      exact r_doneA (.inr rfl) Tryz.results146 .nil rfl 3 [0, 1, 2] rfl rfl (by decide) ⟨b55, c56, n57, g61, N62, b16, c17, n15, q58, q63, q64, q65, q18, rfl, rfl⟩
    · skip
      obtain ⟨⟨x54', x60'⟩, hL, hRl66⟩ := bnd hF
      refine r_lp (fun k a w => ∃ (x41 : List Nat), ∃ (x47 : List (List Rat)), ∃ (x53 : Int), ∃ (b42 : Option Nat), ∃ (c43 : Nat), ∃ (n44 : Nat), ∃ (g48 : List Hdr), ∃ (N49 : Nat), F_matrix_reduce_1_l66 K a0 a1 v22 k x41 x47 x53 = some (x54', x60') ∧ x41.length = n44 ∧ x47.length = N49 ∧ LenOk g48 x47 ∧ (∀ k ∈ x41, k < N49) ∧ hs _ ([⟨some b24, 1, 35, 4, 1, (eQ v22)⟩, ⟨some p0, 1, 136, 6, 1, ([pO b42 n44 c43] ++ [pO b16 n15 c17] ++ (eQ c0.2.2))⟩, hO (cH g48) b42 c43 24 n44 x41, hO cI b16 c17 3 n15 c0.2.1] ++ inn cQ 35 g48 x47) [(0, .vc (pI .i64 a0)), (1, .vc (pI .i64 a1)), (3, .vc (pP (some p0) 0)), (7, .vc (pP (some b24) 0)), (8, .vc (pI .i64 x53))] a w) K (fun a w ⟨_, _, _, _, _, _, _, _, hF, _, _, _, _, _⟩ => by cases hF) (fun k a w ⟨x41, x47, x53, b42, c43, n44, g48, N49, hF, q45, q50, q51, q52, hh⟩ => r_at ?_ hh) (fun a w hh => ⟨c0.1.1, c0.1.2, a2, b5, c6, n4, g3, N9, hL, q7, q10, q11, q12, hs_backA 4 [0, 1, 2, 3] rfl rfl (by decide) (by exact ⟨rfl, rfl, rfl, rfl, rfl, trivial⟩) hh⟩)
      rw [F_matrix_reduce_1_l66.eq_2] at hF
      refine r_seq (r_seq (r_reg (r_mv ?_)))
      refine r_op (t_fa (off := 0) (k := 0) rfl tyF136_0) ⟨rfl, trivial⟩ ?_
      refine r_op (t_l 1 1 rfl rfl rfl rfl (.one tyO47)) ⟨rfl, trivial⟩ ?_
      refine r_mv ?_
      obtain ⟨v68, h69, hF⟩ := bnd hF
      refine r_op (t_ixE (C := (cH g48)) 2 rfl tyS47 rfl q45 (rdL_some h69).1 (rdL_some h69).2.1) ⟨rfl, rfl, trivial⟩ ?_
      refine r_op (t_ldE (C := (cH g48)) (k := 1) 2 rfl rfl h69 rfl (.one tyO24) rfl) ⟨rfl, trivial⟩ ?_
      refine r_op (t_lnE (C := cQ) (xs := (x47.getD v68 [])) (T := 35) rfl tyS24 (row_len q51 q50 (q52 _ (rdL_mem h69)))) ⟨rfl, trivial⟩ ?_
      refine r_op (t_lt rfl) ⟨rfl, rfl, trivial⟩ ?_
      refine r_nil (r_next (r_if rfl (fun h70 => ?_) (fun h70 => ?_)))
      · have hF := cnd_t h70 hF
        refine r_skip (r_next (r_seq (r_blk (r_seq (r_reg (r_op (t_fa (off := 0) (k := 0) rfl tyF136_0) ⟨rfl, trivial⟩ ?_))))))
        refine r_op (t_l 1 1 rfl rfl rfl rfl (.one tyO47)) ⟨rfl, trivial⟩ ?_
        refine r_mv ?_
        obtain ⟨v71, h72, hF⟩ := bnd hF
        refine r_op (t_ixE (C := (cH g48)) 2 rfl tyS47 rfl q45 (rdL_some h72).1 (rdL_some h72).2.1) ⟨rfl, rfl, trivial⟩ ?_
        refine r_op (t_ldE (C := (cH g48)) (k := 1) 2 rfl rfl h72 rfl (.one tyO24) rfl) ⟨rfl, trivial⟩ ?_
        refine r_mv ?_
        obtain ⟨v73, h74, hF⟩ := bnd hF
        refine r_op (t_ixE (4 + v71) rfl tyS24 (inn_p 4 rfl q51 q50 (q52 _ (rdL_mem h72))) (row_len q51 q50 (q52 _ (rdL_mem h72))) (rdL_some h74).1 (rdL_some h74).2.1) ⟨rfl, rfl, trivial⟩ ?_
        refine r_op (t_ldE (k := 4) (4 + v71) rfl (inn_p 4 rfl q51 q50 (q52 _ (rdL_mem h72))) h74 rfl (.agg tyA35) rfl) ⟨rfl, trivial⟩ ?_
        obtain ⟨v75, h76, hF⟩ := bnd hF
        refine r_op (t_call rfl (qc_rat_Sign h76) rfl) ⟨rfl, trivial⟩ ?_
        refine r_op (t_ne rfl) ⟨rfl, k_I _ _, trivial⟩ ?_
        refine r_nil (r_next (r_if rfl (fun h77 => ?_) (fun h77 => ?_)))
        · have hF := cnd_t h77 hF
          obtain ⟨v80, h81, hF⟩ := bnd hF
          obtain ⟨v82, h83, hF⟩ := bnd hF
          obtain ⟨v84, h85, hF⟩ := bnd hF
          obtain ⟨v86, h87, hF⟩ := bnd hF
          obtain ⟨v88, h89, hF⟩ := bnd hF
          obtain ⟨v90, h91, hF⟩ := bnd hF
          obtain ⟨v92, h93, hF⟩ := bnd hF
          obtain ⟨v94, h95, hF⟩ := bnd hF
          refine r_draw (0 :: 1 :: 0 :: 7 :: 15 :: 0 :: 0 :: 64 :: 0 :: 448 :: 960 :: 0 :: 4032 :: 8128 :: 0 :: 0 :: 32768 :: 0 :: 229376 :: 491520 :: 0 :: 2064384 :: 4161536 :: 8372224 :: 16777152 :: 33554431 :: 67108863 :: []) 26 1 (.v (.vc (pP (some p0) 0)) :: .v (.vc (pO b42 n44 c43)) :: .v (.vc (pI .i64 a0)) :: .v (.vc (pE b42 a0 (cH g48).n 0)) :: .v (.vc (pO (hdr g48 v80).1 (hdr g48 v80).2.1 (hdr g48 v80).2.2)) :: .v (.vc (pI .i64 x53)) :: .v (.vc (pP (some p0) 0)) :: .v (.vc (pO b42 n44 c43)) :: .v (.vc (pI .i64 a0)) :: .v (.vc (pE b42 a0 (cH g48).n 0)) :: .v (.vc (pO (hdr g48 v82).1 (hdr g48 v82).2.1 (hdr g48 v82).2.2)) :: .v (.vc (pI .i64 x53)) :: .v (.vc (pE (hdr g48 v82).1 x53 cQ.n 0)) :: .v (.va (eQ v84)) :: .v (.va (eQ v22)) :: .v (.vc (pP (some p0) 0)) :: .v (.vc (pO b42 n44 c43)) :: .v (.vc (pI .i64 a1)) :: .v (.vc (pE b42 a1 (cH g48).n 0)) :: .v (.vc (pO (hdr g48 v86).1 (hdr g48 v86).2.1 (hdr g48 v86).2.2)) :: .v (.vc (pI .i64 x53)) :: .v (.vc (pE (hdr g48 v86).1 x53 cQ.n 0)) :: .v (.va (eQ v88)) :: .v (.va (eQ v90)) :: .v (.va (eQ v92)) :: .v (.vc (pE (hdr g48 v80).1 x53 cQ.n 0)) :: []) Tryz_mixed ⟨⟨rfl, .run (lo := 0) (n := 1) ⟨fun G78 A => t_fa (off := 0) (k := 0) rfl tyF136_0, trivial⟩ (fun G78 => ⟨rfl, trivial⟩)⟩, ⟨rfl, .run (lo := 0) (n := 1) ⟨fun G78 A => t_l 1 1 rfl rfl rfl rfl (.one tyO47), trivial⟩ (fun G78 => ⟨rfl, trivial⟩)⟩, ⟨rfl, .run (lo := 0) (n := 1) ⟨fun G78 A => t_mv (.inl rfl), trivial⟩ (fun G78 => ⟨rfl, trivial⟩)⟩, ⟨rfl, .run (lo := 0) (n := 1) ⟨fun G78 A => t_ixE (C := (cH g48)) 2 rfl tyS47 rfl q45 (rdL_some h81).1 (rdL_some h81).2.1, trivial⟩ (fun G78 => ⟨rfl, rfl, trivial⟩)⟩, ⟨rfl, .run (lo := 0) (n := 1) ⟨fun G78 A => t_ldE (C := (cH g48)) (k := 1) 2 rfl rfl h81 rfl (.one tyO24) rfl, trivial⟩ (fun G78 => ⟨rfl, trivial⟩)⟩, ⟨rfl, .run (lo := 0) (n := 1) ⟨fun G78 A => t_mv (.inl rfl), trivial⟩ (fun G78 => ⟨rfl, trivial⟩)⟩, ⟨rfl, .run (lo := 0) (n := 1) ⟨fun G78 A => t_fa (off := 0) (k := 0) rfl tyF136_0, trivial⟩ (fun G78 => ⟨rfl, trivial⟩)⟩, ⟨rfl, .run (lo := 0) (n := 1) ⟨fun G78 A => t_l 1 1 rfl rfl rfl rfl (.one tyO47), trivial⟩ (fun G78 => ⟨rfl, trivial⟩)⟩, ⟨rfl, .run (lo := 0) (n := 1) ⟨fun G78 A => t_mv (.inl rfl), trivial⟩ (fun G78 => ⟨rfl, trivial⟩)⟩, ⟨rfl, .run (lo := 0) (n := 1) ⟨fun G78 A => t_ixE (C := (cH g48)) 2 rfl tyS47 rfl q45 (rdL_some h83).1 (rdL_some h83).2.1, trivial⟩ (fun G78 => ⟨rfl, rfl, trivial⟩)⟩, ⟨rfl, .run (lo := 0) (n := 1) ⟨fun G78 A => t_ldE (C := (cH g48)) (k := 1) 2 rfl rfl h83 rfl (.one tyO24) rfl, trivial⟩ (fun G78 => ⟨rfl, trivial⟩)⟩, ⟨rfl, .run (lo := 0) (n := 1) ⟨fun G78 A => t_mv (.inl rfl), trivial⟩ (fun G78 => ⟨rfl, trivial⟩)⟩, ⟨rfl, .run (lo := 0) (n := 1) ⟨fun G78 A => t_ixE (4 + v82) rfl tyS24 (inn_pA 4 rfl q51 q50 (q52 _ (rdL_mem h83))) (row_len q51 q50 (q52 _ (rdL_mem h83))) (rdL_some h85).1 (rdL_some h85).2.1, trivial⟩ (fun G78 => ⟨rfl, rfl, trivial⟩)⟩, ⟨rfl, .run (lo := 0) (n := 1) ⟨fun G78 A => t_ldE (k := 4) (4 + v82) rfl (inn_pA 4 rfl q51 q50 (q52 _ (rdL_mem h83))) h85 rfl (.agg tyA35) rfl, trivial⟩ (fun G78 => ⟨rfl, trivial⟩)⟩, ⟨rfl, .run (lo := 0) (n := 1) ⟨fun G78 A => t_l 0 4 rfl rfl rfl rfl (.agg tyA35), trivial⟩ (fun G78 => ⟨rfl, trivial⟩)⟩, ⟨rfl, .run (lo := 0) (n := 1) ⟨fun G78 A => t_fa (off := 0) (k := 0) rfl tyF136_0, trivial⟩ (fun G78 => ⟨rfl, trivial⟩)⟩, ⟨rfl, .run (lo := 0) (n := 1) ⟨fun G78 A => t_l 1 1 rfl rfl rfl rfl (.one tyO47), trivial⟩ (fun G78 => ⟨rfl, trivial⟩)⟩, ⟨rfl, .run (lo := 0) (n := 1) ⟨fun G78 A => t_mv (.inl rfl), trivial⟩ (fun G78 => ⟨rfl, trivial⟩)⟩, ⟨rfl, .run (lo := 0) (n := 1) ⟨fun G78 A => t_ixE (C := (cH g48)) 2 rfl tyS47 rfl q45 (rdL_some h87).1 (rdL_some h87).2.1, trivial⟩ (fun G78 => ⟨rfl, rfl, trivial⟩)⟩, ⟨rfl, .run (lo := 0) (n := 1) ⟨fun G78 A => t_ldE (C := (cH g48)) (k := 1) 2 rfl rfl h87 rfl (.one tyO24) rfl, trivial⟩ (fun G78 => ⟨rfl, trivial⟩)⟩, ⟨rfl, .run (lo := 0) (n := 1) ⟨fun G78 A => t_mv (.inl rfl), trivial⟩ (fun G78 => ⟨rfl, trivial⟩)⟩, ⟨rfl, .run (lo := 0) (n := 1) ⟨fun G78 A => t_ixE (4 + v86) rfl tyS24 (inn_pA 4 rfl q51 q50 (q52 _ (rdL_mem h87))) (row_len q51 q50 (q52 _ (rdL_mem h87))) (rdL_some h89).1 (rdL_some h89).2.1, trivial⟩ (fun G78 => ⟨rfl, rfl, trivial⟩)⟩, ⟨rfl, .run (lo := 0) (n := 1) ⟨fun G78 A => t_ldE (k := 4) (4 + v86) rfl (inn_pA 4 rfl q51 q50 (q52 _ (rdL_mem h87))) h89 rfl (.agg tyA35) rfl, trivial⟩ (fun G78 => ⟨rfl, trivial⟩)⟩, ⟨rfl, .run (lo := 0) (n := 1) ⟨fun G78 A => t_call rfl (qc_rat_Mul h91) rfl, trivial⟩ (fun G78 => ⟨rfl, rfl, trivial⟩)⟩, ⟨rfl, .run (lo := 0) (n := 1) ⟨fun G78 A => t_call rfl (qc_rat_Sub h93) rfl, trivial⟩ (fun G78 => ⟨rfl, rfl, trivial⟩)⟩, ⟨rfl, .run (lo := 0) (n := 1) ⟨fun G78 A => t_ixE (4 + v80) rfl tyS24 (inn_pA 4 rfl q51 q50 (q52 _ (rdL_mem h81))) (row_len q51 q50 (q52 _ (rdL_mem h81))) (rdL_some h95).1 (rdL_some h95).2.1, trivial⟩ (fun G78 => ⟨rfl, rfl, trivial⟩)⟩, trivial⟩ (fun bs79 G78 => ?_)
          obtain ⟨x96, h97, hF⟩ := bnd hF
          refine r_op0 (t_stE (H' := ([⟨some b24, 1, 35, 4, 1, (eQ v22)⟩, ⟨some p0, 1, 136, 6, 1, ([pO b42 n44 c43] ++ [pO b16 n15 c17] ++ (eQ c0.2.2))⟩, hO (cH g48) b42 c43 24 n44 x41, hO cI b16 c17 3 n15 c0.2.1] ++ inn cQ 35 g48 (x47.set v80 x96))) (4 + v80) rfl (inn_p 4 rfl q51 q50 (q52 _ (rdL_mem h81))) h95 h97 tyA35.s (hH := stN 4 rfl q51 q50 (q52 _ (rdL_mem h81)))) ⟨rfl, rfl, trivial⟩ ?_
          refine r_nil (r_blkN (r_next (r_reg (r_mv ?_))))
          obtain ⟨v99, h100, hF⟩ := bnd hF
          refine r_op (t_add rfl h100) ⟨rfl, k_I _ _, trivial⟩ ?_
          refine r_as ?_
          refine r_nil ?_
          exact r_round (fun a w hh => ⟨x41, (x47.set v80 x96), v99, b42, c43, n44, g48, N49, hF, q45, (set_len q50), (set_ok q51 q50 (q52 _ (rdL_mem h81)) (stL_len h97 rfl)), q52, hs_backA 4 [0, 1, 2, 3] rfl rfl (by decide) (by exact ⟨rfl, rfl, rfl, rfl, rfl, trivial⟩) hh⟩)
        · have hF := cnd_f h77 hF
          refine r_skip (r_blkN (r_next (r_reg (r_mv ?_))))
          obtain ⟨v101, h102, hF⟩ := bnd hF
          refine r_op (t_add rfl h102) ⟨rfl, k_I _ _, trivial⟩ ?_
          refine r_as ?_
          refine r_nil ?_
          exact r_round (fun a w hh => ⟨x41, x47, v101, b42, c43, n44, g48, N49, hF, q45, q50, q51, q52, hs_backA 4 [0, 1, 2, 3] rfl rfl (by decide) (by exact ⟨rfl, rfl, rfl, rfl, rfl, trivial⟩) hh⟩)
      · have hF := cnd_f h70 hF
        refine r_brk ?_
        obtain ⟨rfl, rfl⟩ := sm2 hF
        exact r_backA Jj67 ⟨x41, x47, b42, c43, n44, g48, N49, hRl66, q45, q50, q51, q52, rfl, rfl⟩ 4 [1, 2, 3] rfl rfl ⟨rfl, trivial⟩

abbrev N_matrix_reduce_2 : Nat := 148
def F_matrix_reduce_2 (c0 : Int) (a0 : List Rat) : Option Bool :=
  (rdL a0 c0).bind fun v1 => (qsgn v1).bind fun v3 => some (v3 != 0)
set_option maxRecDepth 100000 in
theorem ct_matrix_reduce_2 {c0 : Int} {a0 : List Rat} {r : Bool} (hF : F_matrix_reduce_2 c0 a0 = some r) : Ct Tryz.prog 148 [.vc (pS cQ a0), .vc (pM (cI.e c0))] (.vc (pB r)) := by
  unfold F_matrix_reduce_2 at hF
  refine ctO_intro Tryz.func148 rfl (by kernel_rfl) Tryz.ntmps148 rfl (fun w0 M0 => ?_)
  refine r_seq (r_reg (r_op (t_mv (.inr rfl)) ⟨k_B _, trivial⟩ ?_))
  refine r_nil (r_next (r_seq (r_reg (r_mv ?_))))
  refine r_op (t_lM 1 rfl rfl (.one tyO3)) ⟨rfl, trivial⟩ ?_
  obtain ⟨v1, h2, hF⟩ := bnd hF
  refine r_op (t_ix rfl tyS24 h2) ⟨rfl, rfl, trivial⟩ ?_
  refine r_op (t_lM 4 rfl rfl (.agg tyA35)) ⟨rfl, trivial⟩ ?_
  obtain ⟨v3, h4, hF⟩ := bnd hF
  refine r_op (t_call rfl (qc_rat_Sign h4) rfl) ⟨rfl, trivial⟩ ?_
  refine r_op (t_ne rfl) ⟨rfl, k_I _ _, trivial⟩ ?_
  refine r_as ?_
  refine r_nil (r_next (r_ret (r_toR ?_)))
  obtain rfl := sm1 hF
  exact r_done1 (.inl rfl) Tryz.results148 (.tmp rfl .nil) rfl rfl

abbrev N_matrix_reduce : Nat := 100
def F_matrix_reduce_j124 (K : Nat) (x104 : List Int) (x110 : List Nat) (x116 : List (List Rat)) (x122 : Rat) : Option matrix_form :=
  some (⟨(selL x116 x110), x104, x122⟩ : matrix_form)
def F_matrix_reduce_j258 (K : Nat) (x103 : Int) (recl123 : (List Int) → (List Nat) → (List (List Rat)) → Rat → Int → Option ((List Int) × (List Nat) × (List (List Rat)) × Rat)) (x238 : List Int) (x244 : List Nat) (x250 : List (List Rat)) (x256 : Rat) : Option ((List Int) × (List Nat) × (List (List Rat)) × Rat) :=
  (apL x238 [x103]).bind fun x259 => (chk (x103 + 1)).bind fun v266 => recl123 x259 x244 x250 x256 v266
def F_matrix_reduce_l257 (K : Nat) (x84 : List Int) (x103 : Int) (x184 : List Nat) : Nat → (List Int) → (List Nat) → (List (List Rat)) → Rat → Int → Option ((List Int) × (List Nat) × (List (List Rat)) × Rat)
  | 0, _, _, _, _, _ => none
  | k + 1, x218, x224, x230, x236, x237 => bif (decide (x237 < (x184.length : Int))) then (bif (x237 != (x84.length : Int)) then ((F_matrix_reduce_1 K ((x224, x230), x218, x236) x237 (x84.length : Int) x103).bind fun v270 => (chk (x237 + 1)).bind fun v291 => F_matrix_reduce_l257 K x84 x103 x184 k v270.2.1 v270.1.1 v270.1.2 v270.2.2 v291) else ((chk (x237 + 1)).bind fun v293 => F_matrix_reduce_l257 K x84 x103 x184 k x218 x224 x230 x236 v293)) else (some (x218, x224, x230, x236))
def F_matrix_reduce_j197 (K : Nat) (x84 : List Int) (x103 : Int) (v156 : Rat) (recl123 : (List Int) → (List Nat) → (List (List Rat)) → Rat → Int → Option ((List Int) × (List Nat) × (List (List Rat)) × Rat)) (x184 : List Nat) (x190 : List (List Rat)) : Option ((List Int) × (List Nat) × (List (List Rat)) × Rat) :=
  (F_matrix_reduce_l257 K x84 x103 x184 K x84 x184 x190 v156 0).bind fun (x238, x244, x250, x256) => F_matrix_reduce_j258 K x103 recl123 x238 x244 x250 x256
def F_matrix_reduce_l196 (K : Nat) (x84 : List Int) (v154 : Rat) : Nat → (List Nat) → (List (List Rat)) → Int → Option ((List Nat) × (List (List Rat)))
  | 0, _, _, _ => none
  | k + 1, x171, x177, x183 => (rdL x171 (x84.length : Int)).bind fun v295 => bif (decide (x183 < ((x177.getD v295 []).length : Int))) then ((rdL x171 (x84.length : Int)).bind fun v300 => (rdL x171 (x84.length : Int)).bind fun v302 => (rdL (x177.getD v302 []) x183).bind fun v304 => (qdiv v304 v154).bind fun v306 => (rdL (x177.getD v300 []) x183).bind fun v308 => (stL (x177.getD v300 []) x183 v306).bind fun x310 => (chk (x183 + 1)).bind fun v313 => F_matrix_reduce_l196 K x84 v154 k x171 (x177.set v300 x310) v313) else (some (x171, x177))
def F_matrix_reduce_j149 (K : Nat) (x84 : List Int) (x103 : Int) (recl123 : (List Int) → (List Nat) → (List (List Rat)) → Rat → Int → Option ((List Int) × (List Nat) × (List (List Rat)) × Rat)) (x136 : List Nat) (x142 : List (List Rat)) (x148 : Rat) : Option ((List Int) × (List Nat) × (List (List Rat)) × Rat) :=
  (rdL x136 (x84.length : Int)).bind fun v152 => (rdL (x142.getD v152 []) x103).bind fun v154 => (qmul x148 v154).bind fun v156 => (F_matrix_reduce_l196 K x84 v154 K x136 x142 x103).bind fun (x184, x190) => F_matrix_reduce_j197 K x84 x103 v156 recl123 x184 x190
def F_matrix_reduce_l123 (K : Nat) (a1 : Int) : Nat → (List Int) → (List Nat) → (List (List Rat)) → Rat → Int → Option ((List Int) × (List Nat) × (List (List Rat)) × Rat)
  | 0, _, _, _, _, _ => none
  | k + 1, x84, x90, x96, x102, x103 => bif (decide (x103 < a1)) then ((slL (selL x96 x90) (x84.length : Int) ((selL x96 x90).length : Int)).bind fun x128 => (F_slices_IndexFunc_Rat K x128 (F_matrix_reduce_2 x103)).bind fun v130 => bif (decide (v130 < 0)) then ((chk (x103 + 1)).bind fun v133 => F_matrix_reduce_l123 K a1 k x84 x90 x96 x102 v133) else (bif (decide (0 < v130)) then ((chk ((x84.length : Int) + v130)).bind fun v318 => (chk ((x84.length : Int) + v130)).bind fun v320 => (rdL x90 v320).bind fun v322 => (rdL x90 (x84.length : Int)).bind fun v324 => (rdL x90 (x84.length : Int)).bind fun v326 => (stL x90 (x84.length : Int) v322).bind fun x328 => (rdL x328 v318).bind fun v331 => (stL x328 v318 v324).bind fun x333 => (qneg x102).bind fun v336 => F_matrix_reduce_j149 K x84 x103 (F_matrix_reduce_l123 K a1 k) x333 x96 v336) else (F_matrix_reduce_j149 K x84 x103 (F_matrix_reduce_l123 K a1 k) x90 x96 x102))) else (some (x84, x90, x96, x102))
def F_matrix_reduce_j63 (K : Nat) (a1 : Int) (v2 : Rat) (x50 : List Nat) (x56 : List (List Rat)) : Option matrix_form :=
  (F_matrix_reduce_l123 K a1 K ([] : List Int) x50 x56 v2 0).bind fun (x104, x110, x116, x122) => F_matrix_reduce_j124 K x104 x110 x116 x122
def F_matrix_reduce_l62 (K : Nat) (a0 : List (List Rat)) : Nat → (List Nat) → (List (List Rat)) → Int → Option ((List Nat) × (List (List Rat)))
  | 0, _, _, _ => none
  | k + 1, x37, x43, x49 => bif (decide (x49 < (a0.length : Int))) then ((rdL a0 x49).bind fun v339 => (F_slices_Clone_Rat v339).bind fun v343 => (apL x37 [x43.length]).bind fun x349 => (chk (x49 + 1)).bind fun v356 => F_matrix_reduce_l62 K a0 k x349 (x43 ++ [v343]) v356) else (some (x37, x43))
def F_matrix_reduce (K : Nat) (a0 : List (List Rat)) (a1 : Int) : Option matrix_form :=
  (qof 1 1).bind fun v2 => (F_matrix_reduce_l62 K a0 K ([] : List Nat) ([] : List (List Rat)) 0).bind fun (x50, x56) => F_matrix_reduce_j63 K a1 v2 x50 x56
set_option maxRecDepth 100000 in
theorem ct_matrix_reduce {K : Nat} {a0 : List (List Rat)} {a1 : Int} {r : matrix_form} (hF : F_matrix_reduce K a0 a1 = some r) : Ct Tryz.prog 100 [.vc (pS (cSl cQ) a0), .vc (pI .i64 a1)] (.va (matrix_form.enc r)) := by
  unfold F_matrix_reduce at hF
  refine ctO_intro Tryz.func100 rfl (by kernel_rfl) Tryz.ntmps100 rfl (fun w0 M0 => ?_)
  refine r_seq (r_reg (r_alloc rfl tyZ136q (fun b1 => ?_)))
  refine r_nil (r_next (r_seq (r_reg ?_)))
  obtain ⟨v2, h3, hF⟩ := bnd hF
  refine r_op (t_call rfl (qc_rat_Of h3) rfl) ⟨k_I _ _, k_I _ _, trivial⟩ ?_
  refine r_nestL cQ 35 ?_
  refine r_newL (cH ([] : List Hdr)) 24 ?_
  refine r_newL cI 3 ?_
  refine r_op (t_bld (is := [2]) (xs := [.tmp 15]) (ps := [.va (eQ v2)]) rfl tyB136_o0_o1q rfl rfl ⟨trivial, trivial⟩ rfl) ⟨rfl, trivial⟩ ?_
  refine r_alloc rfl tyZ136q (fun b23 => ?_)
  refine r_op0 (t_s 0 rfl rfl rfl tyA136.s) ⟨rfl, rfl, trivial⟩ ?_
  refine r_nil (r_next (r_seq (r_seq (r_reg (r_mv ?_)))))
  refine r_op (t_ln rfl tyS47) ⟨rfl, trivial⟩ ?_
  refine r_op (t_mv (.inl rfl)) ⟨k_I _ _, trivial⟩ ?_
  refine r_nil (r_next (r_blk (r_cutN (fun H E => ∃ (x50 : List Nat), ∃ (x56 : List (List Rat)), ∃ (b51 : Option Nat), ∃ (c52 : Nat), ∃ (n53 : Nat), ∃ (g57 : List Hdr), ∃ (N58 : Nat), F_matrix_reduce_j63 K a1 v2 x50 x56 = some r ∧ x50.length = n53 ∧ x56.length = N58 ∧ LenOk g57 x56 ∧ (∀ k ∈ x50, k < N58) ∧ H = ([⟨some b23, 1, 136, 6, 1, ([pO b51 n53 c52] ++ [pO none 0 0] ++ (eQ v2))⟩, hO cI none 0 3 0 ([] : List Int), hO (cH g57) b51 c52 24 n53 x50, ⟨some b1, 1, 136, 6, 1, ([pS (cSl cQ) ([] : List (List Rat))] ++ [pS cI ([] : List Int)] ++ (eQ 0))⟩] ++ inn cQ 35 g57 x56) ∧ E = [(1, .vc (pI .i64 a1)), (4, .vc (pP (some b1) 0)), (5, .vc (pP (some b23) 0))]) ?_ (fun Jj63 => ?_))))
  · rintro _ _ ⟨x50, x56, b51, c52, n53, g57, N58, hF, q54, q59, q60, q61, rfl, rfl⟩
    unfold F_matrix_reduce_j63 at hF
    refine r_next (r_seq (r_reg (r_op (t_fn (xs := [.tmp 5]) (cs := [pP (some b23) 0]) rfl rfl) ⟨rfl, trivial⟩ ?_)))
    refine r_as ?_
    refine r_nil (r_next (r_seq (r_seq (r_reg (r_mv ?_)))))
    refine r_op (t_mv (.inl rfl)) ⟨k_I _ _, trivial⟩ ?_
    refine r_nil (r_next (r_blk (r_cutN (fun H E => ∃ (x104 : List Int), ∃ (x110 : List Nat), ∃ (x116 : List (List Rat)), ∃ (x122 : Rat), ∃ (b105 : Option Nat), ∃ (c106 : Nat), ∃ (n107 : Nat), ∃ (b111 : Option Nat), ∃ (c112 : Nat), ∃ (n113 : Nat), ∃ (g117 : List Hdr), ∃ (N118 : Nat), F_matrix_reduce_j124 K x104 x110 x116 x122 = some r ∧ x104.length = n107 ∧ x110.length = n113 ∧ x116.length = N118 ∧ LenOk g117 x116 ∧ (∀ k ∈ x110, k < N118) ∧ H = ([⟨some b23, 1, 136, 6, 1, ([pO b111 n113 c112] ++ [pO b105 n107 c106] ++ (eQ x122))⟩, hO cI b105 c106 3 n107 x104, hO (cH g117) b111 c112 24 n113 x110, ⟨some b1, 1, 136, 6, 1, ([pS (cSl cQ) ([] : List (List Rat))] ++ [pS cI ([] : List Int)] ++ (eQ 0))⟩] ++ inn cQ 35 g117 x116) ∧ E = [(4, .vc (pP (some b1) 0)), (5, .vc (pP (some b23) 0))]) ?_ (fun Jj124 => ?_))))
    · rintro _ _ ⟨x104, x110, x116, x122, b105, c106, n107, b111, c112, n113, g117, N118, hF, q108, q114, q119, q120, q121, rfl, rfl⟩
      unfold F_matrix_reduce_j124 at hF
      refine r_next (r_seq (r_reg (r_unL 2 4 rfl rfl q120 (lt_len q119 q121) ?_)))
      refine r_fbL 2 0 0 rfl ((selL_len _ _).trans q114) rfl rfl rfl rfl rfl ?_
      refine r_fbL 1 0 1 rfl q108 rfl rfl rfl rfl rfl ?_
      refine r_op (t_l 0 6 rfl rfl rfl rfl (.agg tyA136)) ⟨rfl, trivial⟩ ?_
      refine r_op0 (t_s 1 rfl rfl rfl tyA136.s) ⟨rfl, rfl, trivial⟩ ?_
      refine r_nil (r_next (r_ret (r_toR ?_)))
      obtain rfl := sm1 hF
      exact r_done1 (.inl rfl) Tryz.results100 (rv_cell 1 6 rfl rfl rfl rfl (.agg tyA136) .nil) rfl rfl
    · skip
      obtain ⟨⟨x104', x110', x116', x122'⟩, hL, hRl123⟩ := bnd hF
      refine r_lp (fun k a w => ∃ (x84 : List Int), ∃ (x90 : List Nat), ∃ (x96 : List (List Rat)), ∃ (x102 : Rat), ∃ (x103 : Int), ∃ (b85 : Option Nat), ∃ (c86 : Nat), ∃ (n87 : Nat), ∃ (b91 : Option Nat), ∃ (c92 : Nat), ∃ (n93 : Nat), ∃ (g97 : List Hdr), ∃ (N98 : Nat), F_matrix_reduce_l123 K a1 k x84 x90 x96 x102 x103 = some (x104', x110', x116', x122') ∧ x84.length = n87 ∧ x90.length = n93 ∧ x96.length = N98 ∧ LenOk g97 x96 ∧ (∀ k ∈ x90, k < N98) ∧ hs _ ([⟨some b23, 1, 136, 6, 1, ([pO b91 n93 c92] ++ [pO b85 n87 c86] ++ (eQ x102))⟩, hO cI b85 c86 3 n87 x84, hO (cH g97) b91 c92 24 n93 x90, ⟨some b1, 1, 136, 6, 1, ([pS (cSl cQ) ([] : List (List Rat))] ++ [pS cI ([] : List Int)] ++ (eQ 0))⟩] ++ inn cQ 35 g97 x96) [(4, .vc (pP (some b1) 0)), (5, .vc (pP (some b23) 0)), (8, .vc (pF 146 [pP (some b23) 0])), (32, .vc (pI .i64 a1)), (33, .vc (pI .i64 x103))] a w) K (fun a w ⟨_, _, _, _, _, _, _, _, _, _, _, _, _, hF, _, _, _, _, _, _⟩ => by cases hF) (fun k a w ⟨x84, x90, x96, x102, x103, b85, c86, n87, b91, c92, n93, g97, N98, hF, q88, q94, q99, q100, q101, hh⟩ => r_at ?_ hh) (fun a w hh => ⟨([] : List Int), x50, x56, v2, 0, none, 0, 0, b51, c52, n53, g57, N58, hL, rfl, q54, q59, q60, q61, hs_backA 4 [0, 1, 2, 3] rfl rfl (by decide) (by exact ⟨rfl, rfl, rfl, rfl, rfl, trivial⟩) hh⟩)
      rw [F_matrix_reduce_l123.eq_2] at hF
      refine r_seq (r_reg (r_op (t_lt rfl) ⟨rfl, rfl, trivial⟩ ?_))
      refine r_nil (r_next (r_seq (r_if rfl (fun h126 => ?_) (fun h126 => ?_))))
      · have hF := cnd_t h126 hF
        refine r_skip (r_next (r_seq (r_blk (r_seq (r_reg (r_mv ?_))))))
        refine r_alloc rfl tyZ3q (fun b127 => ?_)
        refine r_op0 (t_s 0 rfl rfl rfl tyO3.s) ⟨rfl, rfl, trivial⟩ ?_
        refine r_nil (r_next (r_seq (r_reg (r_op (t_fa (off := 0) (k := 1) rfl tyF136_1) ⟨rfl, trivial⟩ ?_))))
        refine r_op (t_l 1 1 rfl rfl rfl rfl (.one tyO22)) ⟨rfl, trivial⟩ ?_
        refine r_op (t_lnE (C := cI) (xs := x84) (T := 3) rfl tyS22 q88) ⟨rfl, trivial⟩ ?_
        refine r_as ?_
        refine r_nil (r_next (r_seq (r_reg (r_op (t_fa (off := 0) (k := 0) rfl tyF136_0) ⟨rfl, trivial⟩ ?_))))
        refine r_op (t_l 1 1 rfl rfl rfl rfl (.one tyO47)) ⟨rfl, trivial⟩ ?_
        refine r_mv ?_
        obtain ⟨x128, h129, hF⟩ := bnd hF
        refine r_op (t_cutC (i := 3) rfl tyS47 rfl rfl rfl rfl (cut_lo h129).1 (cut_hi h129 q94)) ⟨rfl, rfl, trivial⟩ ?_
        refine r_fvL 0 [(9, 0)] rfl ⟨rfl, trivial⟩ rfl ?_
        refine r_op (t_fnF (φ := (F_matrix_reduce_2 x103)) (pre := fun x : (List Rat) => [.vc (pS cQ x)]) (post := fun r : Bool => .vc (pB r)) (xs := [.tmp 9]) (cs := [pM (cI.e x103)]) rfl rfl (fun x r h => ct_matrix_reduce_2 h)) ⟨rfl, trivial⟩ ?_
        obtain ⟨v130, h131, hF⟩ := bnd hF
        refine r_op (t_callB (pre' := [.vc (pC (pO b91 n93 c92) (x84.length : Int).toNat 1), .vc (pFn Tryz.prog (fun x : (List Rat) => [.vc (pS cQ x)]) (fun r : Bool => .vc (pB r)) (F_matrix_reduce_2 x103))]) rfl (ct_slices_IndexFunc_Rat h131) rfl (lend1 (cut_lo h129).2.2 (lend_cut 2 4 [] (by rw [List.append_nil]; rfl) rfl q100 (lt_len q99 q101) q94)) (fun _ _ _ h => h)) ⟨rfl, rfl, trivial⟩ ?_
        refine r_as ?_
        refine r_nil (r_next (r_seq (r_seq (r_reg (r_mv ?_)))))
        refine r_op (t_lt rfl) ⟨rfl, k_I _ _, trivial⟩ ?_
        refine r_nil (r_next (r_if rfl (fun h132 => ?_) (fun h132 => ?_)))
        · have hF := cnd_t h132 hF
          refine r_brk (r_next (r_reg ?_))
          obtain ⟨v133, h134, hF⟩ := bnd hF
          refine r_op (t_add rfl h134) ⟨rfl, k_I _ _, trivial⟩ ?_
          refine r_mv ?_
          refine r_nil ?_
          exact r_round (fun a w hh => ⟨x84, x90, x96, x102, v133, b85, c86, n87, b91, c92, n93, g97, N98, hF, q88, q94, q99, q100, q101, hs_backA 4 [0, 1, 2, 3] rfl rfl (by decide) (by exact ⟨rfl, rfl, rfl, rfl, rfl, trivial⟩) hh⟩)
        · have hF := cnd_f h132 hF
          refine r_skip (r_next (r_seq (r_cutS (fun H E => ∃ (x136 : List Nat), ∃ (x142 : List (List Rat)), ∃ (x148 : Rat), ∃ (b137 : Option Nat), ∃ (c138 : Nat), ∃ (n139 : Nat), ∃ (g143 : List Hdr), ∃ (N144 : Nat), F_matrix_reduce_j149 K x84 x103 (F_matrix_reduce_l123 K a1 k) x136 x142 x148 = some (x104', x110', x116', x122') ∧ x136.length = n139 ∧ x142.length = N144 ∧ LenOk g143 x142 ∧ (∀ k ∈ x136, k < N144) ∧ H = ([⟨some b23, 1, 136, 6, 1, ([pO b137 n139 c138] ++ [pO b85 n87 c86] ++ (eQ x148))⟩, hO cI b85 c86 3 n87 x84, hO (cH g143) b137 c138 24 n139 x136, ⟨some b1, 1, 136, 6, 1, ([pS (cSl cQ) ([] : List (List Rat))] ++ [pS cI ([] : List Int)] ++ (eQ 0))⟩] ++ inn cQ 35 g143 x142) ∧ E = [(4, .vc (pP (some b1) 0)), (5, .vc (pP (some b23) 0)), (8, .vc (pF 146 [pP (some b23) 0])), (9, .vc (pM (cI.e x103))), (10, .vc (pI .i64 (x84.length : Int))), (32, .vc (pI .i64 a1)), (33, .vc (pI .i64 x103))]) ?_ (fun Jj149 => ?_))))
          · rintro _ _ ⟨x136, x142, x148, b137, c138, n139, g143, N144, hF, q140, q145, q146, q147, rfl, rfl⟩
            unfold F_matrix_reduce_j149 at hF
            refine r_seq ?_
            obtain ⟨v152, h153, hF⟩ := bnd hF
            obtain ⟨v154, h155, hF⟩ := bnd hF
            refine r_draw [0, 1, 0, 7, 15, 0, 63, 127, 0, 511] 9 1 [.v (.vc (pP (some b23) 0)), .v (.vc (pO b137 n139 c138)), .v (.vc (pI .i64 (x84.length : Int))), .v (.vc (pE b137 (x84.length : Int) (cH g143).n 0)), .v (.vc (pO (hdr g143 v152).1 (hdr g143 v152).2.1 (hdr g143 v152).2.2)), .v (.vc (pI .i64 x103)), .v (.vc (pE (hdr g143 v152).1 x103 cQ.n 0)), .v (.va (eQ v154)), .a 35 (eQ 0)] Tryz_mixed ⟨⟨rfl, .run (lo := 0) (n := 1) ⟨fun G150 A => t_fa (off := 0) (k := 0) rfl tyF136_0, trivial⟩ (fun G150 => ⟨rfl, trivial⟩)⟩, ⟨rfl, .run (lo := 0) (n := 1) ⟨fun G150 A => t_l 0 1 rfl rfl rfl rfl (.one tyO47), trivial⟩ (fun G150 => ⟨rfl, trivial⟩)⟩, ⟨rfl, .run (lo := 0) (n := 1) ⟨fun G150 A => t_mv (.inl rfl), trivial⟩ (fun G150 => ⟨rfl, trivial⟩)⟩, ⟨rfl, .run (lo := 0) (n := 1) ⟨fun G150 A => t_ixE (C := (cH g143)) 2 rfl tyS47 rfl q140 (rdL_some h153).1 (rdL_some h153).2.1, trivial⟩ (fun G150 => ⟨rfl, rfl, trivial⟩)⟩, ⟨rfl, .run (lo := 0) (n := 1) ⟨fun G150 A => t_ldE (C := (cH g143)) (k := 1) 2 rfl rfl h153 rfl (.one tyO24) rfl, trivial⟩ (fun G150 => ⟨rfl, trivial⟩)⟩, ⟨rfl, .run (lo := 0) (n := 1) ⟨fun G150 A => t_lM 1 rfl rfl (.one tyO3), trivial⟩ (fun G150 => ⟨rfl, trivial⟩)⟩, ⟨rfl, .run (lo := 0) (n := 1) ⟨fun G150 A => t_ixE (4 + v152) rfl tyS24 (inn_pA 4 rfl q146 q145 (q147 _ (rdL_mem h153))) (row_len q146 q145 (q147 _ (rdL_mem h153))) (rdL_some h155).1 (rdL_some h155).2.1, trivial⟩ (fun G150 => ⟨rfl, rfl, trivial⟩)⟩, ⟨rfl, .run (lo := 0) (n := 1) ⟨fun G150 A => t_ldE (k := 4) (4 + v152) rfl (inn_pA 4 rfl q146 q145 (q147 _ (rdL_mem h153))) h155 rfl (.agg tyA35) rfl, trivial⟩ (fun G150 => ⟨rfl, trivial⟩)⟩, ⟨rfl, .alc tyZ35q⟩, trivial⟩ (fun bs151 G150 => ?_)
            refine r_op0 (t_s 0 rfl rfl rfl tyA35.s) ⟨rfl, rfl, trivial⟩ ?_
            refine r_nil (r_next (r_seq (r_reg (r_op (t_fa (off := 0) (k := 2) rfl tyF136_2) ⟨rfl, trivial⟩ ?_))))
            refine r_op (t_l 1 4 rfl rfl rfl rfl (.agg tyA35)) ⟨rfl, trivial⟩ ?_
            refine r_op (t_l 0 4 rfl rfl rfl rfl (.agg tyA35)) ⟨rfl, trivial⟩ ?_
            obtain ⟨v156, h157, hF⟩ := bnd hF
            refine r_op (t_call rfl (qc_rat_Mul h157) rfl) ⟨rfl, rfl, trivial⟩ ?_
            refine r_op (t_fa (off := 0) (k := 2) rfl tyF136_2) ⟨rfl, trivial⟩ ?_
            refine r_op0 (t_s 1 rfl rfl rfl tyA35.s) ⟨rfl, rfl, trivial⟩ ?_
            refine r_nil (r_next (r_seq (r_seq (r_reg (r_op (t_lM 1 rfl rfl (.one tyO3)) ⟨rfl, trivial⟩ ?_)))))
            refine r_as ?_
            refine r_nil (r_next (r_blk (r_cutN (fun H E => ∃ (x184 : List Nat), ∃ (x190 : List (List Rat)), ∃ (b185 : Option Nat), ∃ (c186 : Nat), ∃ (n187 : Nat), ∃ (g191 : List Hdr), ∃ (N192 : Nat), F_matrix_reduce_j197 K x84 x103 v156 (F_matrix_reduce_l123 K a1 k) x184 x190 = some (x104', x110', x116', x122') ∧ x184.length = n187 ∧ x190.length = N192 ∧ LenOk g191 x190 ∧ (∀ k ∈ x184, k < N192) ∧ H = ([⟨some b23, 1, 136, 6, 1, ([pO b185 n187 c186] ++ [pO b85 n87 c86] ++ (eQ v156))⟩, hO cI b85 c86 3 n87 x84, hO (cH g191) b185 c186 24 n187 x184, ⟨some b1, 1, 136, 6, 1, ([pS (cSl cQ) ([] : List (List Rat))] ++ [pS cI ([] : List Int)] ++ (eQ 0))⟩] ++ inn cQ 35 g191 x190) ∧ E = [(4, .vc (pP (some b1) 0)), (5, .vc (pP (some b23) 0)), (8, .vc (pF 146 [pP (some b23) 0])), (9, .vc (pM (cI.e x103))), (10, .vc (pI .i64 (x84.length : Int))), (32, .vc (pI .i64 a1)), (33, .vc (pI .i64 x103))]) ?_ (fun Jj197 => ?_))))
            · rintro _ _ ⟨x184, x190, b185, c186, n187, g191, N192, hF, q188, q193, q194, q195, rfl, rfl⟩
              unfold F_matrix_reduce_j197 at hF
              refine r_next (r_seq (r_seq (r_reg (r_op (t_fa (off := 0) (k := 0) rfl tyF136_0) ⟨rfl, trivial⟩ ?_))))
              refine r_op (t_l 0 1 rfl rfl rfl rfl (.one tyO47)) ⟨rfl, trivial⟩ ?_
              refine r_op (t_lnE (C := (cH g191)) (xs := x184) (T := 24) rfl tyS47 q188) ⟨rfl, trivial⟩ ?_
              refine r_op (t_mv (.inl rfl)) ⟨k_I _ _, trivial⟩ ?_
              refine r_nil (r_next (r_blk (r_cutN (fun H E => ∃ (x238 : List Int), ∃ (x244 : List Nat), ∃ (x250 : List (List Rat)), ∃ (x256 : Rat), ∃ (b239 : Option Nat), ∃ (c240 : Nat), ∃ (n241 : Nat), ∃ (b245 : Option Nat), ∃ (c246 : Nat), ∃ (n247 : Nat), ∃ (g251 : List Hdr), ∃ (N252 : Nat), F_matrix_reduce_j258 K x103 (F_matrix_reduce_l123 K a1 k) x238 x244 x250 x256 = some (x104', x110', x116', x122') ∧ x238.length = n241 ∧ x244.length = n247 ∧ x250.length = N252 ∧ LenOk g251 x250 ∧ (∀ k ∈ x244, k < N252) ∧ H = ([⟨some b23, 1, 136, 6, 1, ([pO b245 n247 c246] ++ [pO b239 n241 c240] ++ (eQ x256))⟩, hO cI b239 c240 3 n241 x238, hO (cH g251) b245 c246 24 n247 x244, ⟨some b1, 1, 136, 6, 1, ([pS (cSl cQ) ([] : List (List Rat))] ++ [pS cI ([] : List Int)] ++ (eQ 0))⟩] ++ inn cQ 35 g251 x250) ∧ E = [(4, .vc (pP (some b1) 0)), (5, .vc (pP (some b23) 0)), (8, .vc (pF 146 [pP (some b23) 0])), (9, .vc (pM (cI.e x103))), (32, .vc (pI .i64 a1)), (33, .vc (pI .i64 x103))]) ?_ (fun Jj258 => ?_))))
              · rintro _ _ ⟨x238, x244, x250, x256, b239, c240, n241, b245, c246, n247, g251, N252, hF, q242, q248, q253, q254, q255, rfl, rfl⟩
                unfold F_matrix_reduce_j258 at hF
                refine r_next (r_reg (r_op (t_fa (off := 0) (k := 1) rfl tyF136_1) ⟨rfl, trivial⟩ ?_))
                refine r_op (t_l 0 1 rfl rfl rfl rfl (.one tyO22)) ⟨rfl, trivial⟩ ?_
                refine r_op (t_lM 1 rfl rfl (.one tyO3)) ⟨rfl, trivial⟩ ?_
                refine r_op (t_bs (C := cI) (xs := [.tmp 133]) (ps := [.vc (pI .i64 x103)]) (zs := [x103]) rfl tyS22 rfl ⟨⟨trivial, rfl⟩, trivial⟩ rfl) ⟨rfl, trivial⟩ ?_
                obtain ⟨x259, h260, hF⟩ := bnd hF
                refine r_app 1 rfl tyS22 rfl rfl q242 rfl rfl h260 (fun b261 c262 H263 e264 => ?_)
                cases e264
                refine r_op (t_fa (off := 0) (k := 1) rfl tyF136_1) ⟨rfl, trivial⟩ ?_
                refine r_op0 (t_s 0 rfl rfl rfl tyO22.s) ⟨rfl, rfl, trivial⟩ ?_
                refine r_nil (r_blkN (r_next (r_reg ?_)))
                obtain ⟨v266, h267, hF⟩ := bnd hF
                refine r_op (t_add rfl h267) ⟨rfl, k_I _ _, trivial⟩ ?_
                refine r_mv ?_
                refine r_nil ?_
                exact r_round (fun a w hh => ⟨x259, x244, x250, x256, v266, b261, c262, (n241 + [x103].length), b245, c246, n247, g251, N252, hF, (apL_len h260 q242), q248, q253, q254, q255, hs_backA 4 [0, 1, 2, 3] rfl rfl (by decide) (by exact ⟨rfl, rfl, rfl, rfl, rfl, trivial⟩) hh⟩)
              · skip
                obtain ⟨⟨x238', x244', x250', x256'⟩, hL, hRl257⟩ := bnd hF
                refine r_lp (fun k a w => ∃ (x218 : List Int), ∃ (x224 : List Nat), ∃ (x230 : List (List Rat)), ∃ (x236 : Rat), ∃ (x237 : Int), ∃ (b219 : Option Nat), ∃ (c220 : Nat), ∃ (n221 : Nat), ∃ (b225 : Option Nat), ∃ (c226 : Nat), ∃ (n227 : Nat), ∃ (g231 : List Hdr), ∃ (N232 : Nat), F_matrix_reduce_l257 K x84 x103 x184 k x218 x224 x230 x236 x237 = some (x238', x244', x250', x256') ∧ x218.length = n221 ∧ x224.length = n227 ∧ x230.length = N232 ∧ LenOk g231 x230 ∧ (∀ k ∈ x224, k < N232) ∧ hs _ ([⟨some b23, 1, 136, 6, 1, ([pO b225 n227 c226] ++ [pO b219 n221 c220] ++ (eQ x236))⟩, hO cI b219 c220 3 n221 x218, hO (cH g231) b225 c226 24 n227 x224, ⟨some b1, 1, 136, 6, 1, ([pS (cSl cQ) ([] : List (List Rat))] ++ [pS cI ([] : List Int)] ++ (eQ 0))⟩] ++ inn cQ 35 g231 x230) [(4, .vc (pP (some b1) 0)), (5, .vc (pP (some b23) 0)), (8, .vc (pF 146 [pP (some b23) 0])), (9, .vc (pM (cI.e x103))), (10, .vc (pI .i64 (x84.length : Int))), (32, .vc (pI .i64 a1)), (33, .vc (pI .i64 x103)), (118, .vc (pI .i64 (x184.length : Int))), (119, .vc (pI .i64 x237))] a w) K (fun a w ⟨_, _, _, _, _, _, _, _, _, _, _, _, _, hF, _, _, _, _, _, _⟩ => by cases hF) (fun k a w ⟨x218, x224, x230, x236, x237, b219, c220, n221, b225, c226, n227, g231, N232, hF, q222, q228, q233, q234, q235, hh⟩ => r_at ?_ hh) (fun a w hh => ⟨x84, x184, x190, v156, 0, b85, c86, n87, b185, c186, n187, g191, N192, hL, q88, q188, q193, q194, q195, hs_backA 4 [0, 1, 2, 3] rfl rfl (by decide) (by exact ⟨rfl, rfl, rfl, rfl, rfl, rfl, rfl, rfl, rfl, trivial⟩) hh⟩)
                rw [F_matrix_reduce_l257.eq_2] at hF
                refine r_seq (r_reg (r_op (t_lt rfl) ⟨rfl, rfl, trivial⟩ ?_))
                refine r_nil (r_next (r_seq (r_if rfl (fun h268 => ?_) (fun h268 => ?_))))
                · have hF := cnd_t h268 hF
                  refine r_skip (r_next (r_seq (r_blk (r_seq (r_reg (r_mv ?_))))))
                  refine r_as ?_
                  refine r_nil (r_next (r_seq (r_reg (r_mv ?_))))
                  refine r_mv ?_
                  refine r_op (t_ne rfl) ⟨rfl, rfl, trivial⟩ ?_
                  refine r_nil (r_next (r_if rfl (fun h269 => ?_) (fun h269 => ?_)))
                  · have hF := cnd_t h269 hF
                    refine r_reg (r_mv ?_)
                    refine r_mv ?_
                    refine r_mv ?_
                    refine r_op (t_lM 1 rfl rfl (.one tyO3)) ⟨rfl, trivial⟩ ?_
                    obtain ⟨v270, h271, hF⟩ := bnd hF
                    refine r_callvA (f := 146) (cs := [pP (some b23) 0]) (pre := [.vc (pI .i64 x237), .vc (pI .i64 (x84.length : Int)), .vc (pI .i64 x103)]) (xs := [.tmp 126, .tmp 127, .tmp 128]) 4 [0, 2, 1] [3] rfl (ctO_matrix_reduce_1 h271 q228 q233 q234 q235 q222) ⟨rfl, rfl, rfl, rfl, trivial⟩ rfl rfl rfl (by decide) ?_
                    rintro _ _ ⟨b276, c277, n275, g274, N280, b287, c288, n286, q278, q281, q282, q283, q289, rfl, rfl⟩
                    refine r_permL (mid_perm [⟨some b23, 1, 136, 6, 1, ([pO b276 n275 c277] ++ [pO b287 n286 c288] ++ (eQ v270.2.2))⟩, hO (cH g274) b276 c277 24 n275 v270.1.1, hO cI b287 c288 3 n286 v270.2.1] (inn cQ 35 g274 v270.1.2) [⟨some b1, 1, 136, 6, 1, ([pS (cSl cQ) ([] : List (List Rat))] ++ [pS cI ([] : List Int)] ++ (eQ 0))⟩]) ?_
                    refine r_nil (r_blkN (r_next (r_reg ?_)))
                    obtain ⟨v291, h292, hF⟩ := bnd hF
                    refine r_op (t_add rfl h292) ⟨rfl, k_I _ _, trivial⟩ ?_
                    refine r_mv ?_
                    refine r_nil ?_
                    exact r_round (fun a w hh => ⟨v270.2.1, v270.1.1, v270.1.2, v270.2.2, v291, b287, c288, n286, b276, c277, n275, g274, N280, hF, q289, q278, q281, q282, q283, hs_backA 4 [0, 2, 1, 3] rfl rfl (by decide) (by exact ⟨rfl, rfl, rfl, rfl, rfl, rfl, rfl, rfl, rfl, trivial⟩) hh⟩)
                  · have hF := cnd_f h269 hF
                    refine r_skip (r_blkN (r_next (r_reg ?_)))
                    obtain ⟨v293, h294, hF⟩ := bnd hF
                    refine r_op (t_add rfl h294) ⟨rfl, k_I _ _, trivial⟩ ?_
                    refine r_mv ?_
                    refine r_nil ?_
                    exact r_round (fun a w hh => ⟨x218, x224, x230, x236, v293, b219, c220, n221, b225, c226, n227, g231, N232, hF, q222, q228, q233, q234, q235, hs_backA 4 [0, 1, 2, 3] rfl rfl (by decide) (by exact ⟨rfl, rfl, rfl, rfl, rfl, rfl, rfl, rfl, rfl, trivial⟩) hh⟩)
                · have hF := cnd_f h268 hF
                  refine r_brk ?_
                  obtain ⟨rfl, rfl, rfl, rfl⟩ := sm4 hF
                  exact r_backA Jj258 ⟨x218, x224, x230, x236, b219, c220, n221, b225, c226, n227, g231, N232, hRl257, q222, q228, q233, q234, q235, rfl, rfl⟩ 4 [0, 1, 2, 3] rfl rfl ⟨rfl, rfl, rfl, rfl, rfl, rfl, trivial⟩
            · skip
              obtain ⟨⟨x184', x190'⟩, hL, hRl196⟩ := bnd hF
              refine r_lp (fun k a w => ∃ (x171 : List Nat), ∃ (x177 : List (List Rat)), ∃ (x183 : Int), ∃ (b172 : Option Nat), ∃ (c173 : Nat), ∃ (n174 : Nat), ∃ (g178 : List Hdr), ∃ (N179 : Nat), F_matrix_reduce_l196 K x84 v154 k x171 x177 x183 = some (x184', x190') ∧ x171.length = n174 ∧ x177.length = N179 ∧ LenOk g178 x177 ∧ (∀ k ∈ x171, k < N179) ∧ hs _ ([⟨some (bs151 8), 1, 35, 4, 1, (eQ v154)⟩, ⟨some b23, 1, 136, 6, 1, ([pO b172 n174 c173] ++ [pO b85 n87 c86] ++ (eQ v156))⟩, hO cI b85 c86 3 n87 x84, hO (cH g178) b172 c173 24 n174 x171, ⟨some b1, 1, 136, 6, 1, ([pS (cSl cQ) ([] : List (List Rat))] ++ [pS cI ([] : List Int)] ++ (eQ 0))⟩] ++ inn cQ 35 g178 x177) [(4, .vc (pP (some b1) 0)), (5, .vc (pP (some b23) 0)), (8, .vc (pF 146 [pP (some b23) 0])), (9, .vc (pM (cI.e x103))), (10, .vc (pI .i64 (x84.length : Int))), (12, .vc (pP (some (bs151 8)) 0)), (13, .vc (pI .i64 x183)), (32, .vc (pI .i64 a1)), (33, .vc (pI .i64 x103))] a w) K (fun a w ⟨_, _, _, _, _, _, _, _, hF, _, _, _, _, _⟩ => by cases hF) (fun k a w ⟨x171, x177, x183, b172, c173, n174, g178, N179, hF, q175, q180, q181, q182, hh⟩ => r_at ?_ hh) (fun a w hh => ⟨x136, x142, x103, b137, c138, n139, g143, N144, hL, q140, q145, q146, q147, hs_backA 5 [0, 1, 2, 3, 4] rfl rfl (by decide) (by exact ⟨rfl, rfl, rfl, rfl, rfl, rfl, rfl, rfl, rfl, trivial⟩) hh⟩)
              rw [F_matrix_reduce_l196.eq_2] at hF
              refine r_seq (r_seq (r_reg (r_mv ?_)))
              refine r_op (t_fa (off := 0) (k := 0) rfl tyF136_0) ⟨rfl, trivial⟩ ?_
              refine r_op (t_l 1 1 rfl rfl rfl rfl (.one tyO47)) ⟨rfl, trivial⟩ ?_
              refine r_mv ?_
              obtain ⟨v295, h296, hF⟩ := bnd hF
              refine r_op (t_ixE (C := (cH g178)) 3 rfl tyS47 rfl q175 (rdL_some h296).1 (rdL_some h296).2.1) ⟨rfl, rfl, trivial⟩ ?_
              refine r_op (t_ldE (C := (cH g178)) (k := 1) 3 rfl rfl h296 rfl (.one tyO24) rfl) ⟨rfl, trivial⟩ ?_
              refine r_op (t_lnE (C := cQ) (xs := (x177.getD v295 [])) (T := 35) rfl tyS24 (row_len q181 q180 (q182 _ (rdL_mem h296)))) ⟨rfl, trivial⟩ ?_
              refine r_op (t_lt rfl) ⟨rfl, rfl, trivial⟩ ?_
              refine r_nil (r_next (r_if rfl (fun h297 => ?_) (fun h297 => ?_)))
              · have hF := cnd_t h297 hF
                refine r_skip (r_next (r_seq (r_blk ?_)))
                obtain ⟨v300, h301, hF⟩ := bnd hF
                obtain ⟨v302, h303, hF⟩ := bnd hF
                obtain ⟨v304, h305, hF⟩ := bnd hF
                obtain ⟨v306, h307, hF⟩ := bnd hF
                obtain ⟨v308, h309, hF⟩ := bnd hF
                refine r_draw [0, 1, 0, 7, 15, 0, 0, 64, 0, 448, 960, 0, 4032, 8128, 0, 32704, 65535, 131071] 17 1 [.v (.vc (pP (some b23) 0)), .v (.vc (pO b172 n174 c173)), .v (.vc (pI .i64 (x84.length : Int))), .v (.vc (pE b172 (x84.length : Int) (cH g178).n 0)), .v (.vc (pO (hdr g178 v300).1 (hdr g178 v300).2.1 (hdr g178 v300).2.2)), .v (.vc (pI .i64 x183)), .v (.vc (pP (some b23) 0)), .v (.vc (pO b172 n174 c173)), .v (.vc (pI .i64 (x84.length : Int))), .v (.vc (pE b172 (x84.length : Int) (cH g178).n 0)), .v (.vc (pO (hdr g178 v302).1 (hdr g178 v302).2.1 (hdr g178 v302).2.2)), .v (.vc (pI .i64 x183)), .v (.vc (pE (hdr g178 v302).1 x183 cQ.n 0)), .v (.va (eQ v304)), .v (.va (eQ v154)), .v (.va (eQ v306)), .v (.vc (pE (hdr g178 v300).1 x183 cQ.n 0))] Tryz_mixed ⟨⟨rfl, .run (lo := 0) (n := 1) ⟨fun G298 A => t_fa (off := 0) (k := 0) rfl tyF136_0, trivial⟩ (fun G298 => ⟨rfl, trivial⟩)⟩, ⟨rfl, .run (lo := 0) (n := 1) ⟨fun G298 A => t_l 1 1 rfl rfl rfl rfl (.one tyO47), trivial⟩ (fun G298 => ⟨rfl, trivial⟩)⟩, ⟨rfl, .run (lo := 0) (n := 1) ⟨fun G298 A => t_mv (.inl rfl), trivial⟩ (fun G298 => ⟨rfl, trivial⟩)⟩, ⟨rfl, .run (lo := 0) (n := 1) ⟨fun G298 A => t_ixE (C := (cH g178)) 3 rfl tyS47 rfl q175 (rdL_some h301).1 (rdL_some h301).2.1, trivial⟩ (fun G298 => ⟨rfl, rfl, trivial⟩)⟩, ⟨rfl, .run (lo := 0) (n := 1) ⟨fun G298 A => t_ldE (C := (cH g178)) (k := 1) 3 rfl rfl h301 rfl (.one tyO24) rfl, trivial⟩ (fun G298 => ⟨rfl, trivial⟩)⟩, ⟨rfl, .run (lo := 0) (n := 1) ⟨fun G298 A => t_mv (.inl rfl), trivial⟩ (fun G298 => ⟨rfl, trivial⟩)⟩, ⟨rfl, .run (lo := 0) (n := 1) ⟨fun G298 A => t_fa (off := 0) (k := 0) rfl tyF136_0, trivial⟩ (fun G298 => ⟨rfl, trivial⟩)⟩, ⟨rfl, .run (lo := 0) (n := 1) ⟨fun G298 A => t_l 1 1 rfl rfl rfl rfl (.one tyO47), trivial⟩ (fun G298 => ⟨rfl, trivial⟩)⟩, ⟨rfl, .run (lo := 0) (n := 1) ⟨fun G298 A => t_mv (.inl rfl), trivial⟩ (fun G298 => ⟨rfl, trivial⟩)⟩, ⟨rfl, .run (lo := 0) (n := 1) ⟨fun G298 A => t_ixE (C := (cH g178)) 3 rfl tyS47 rfl q175 (rdL_some h303).1 (rdL_some h303).2.1, trivial⟩ (fun G298 => ⟨rfl, rfl, trivial⟩)⟩, ⟨rfl, .run (lo := 0) (n := 1) ⟨fun G298 A => t_ldE (C := (cH g178)) (k := 1) 3 rfl rfl h303 rfl (.one tyO24) rfl, trivial⟩ (fun G298 => ⟨rfl, trivial⟩)⟩, ⟨rfl, .run (lo := 0) (n := 1) ⟨fun G298 A => t_mv (.inl rfl), trivial⟩ (fun G298 => ⟨rfl, trivial⟩)⟩, ⟨rfl, .run (lo := 0) (n := 1) ⟨fun G298 A => t_ixE (5 + v302) rfl tyS24 (inn_pA 5 rfl q181 q180 (q182 _ (rdL_mem h303))) (row_len q181 q180 (q182 _ (rdL_mem h303))) (rdL_some h305).1 (rdL_some h305).2.1, trivial⟩ (fun G298 => ⟨rfl, rfl, trivial⟩)⟩, ⟨rfl, .run (lo := 0) (n := 1) ⟨fun G298 A => t_ldE (k := 4) (5 + v302) rfl (inn_pA 5 rfl q181 q180 (q182 _ (rdL_mem h303))) h305 rfl (.agg tyA35) rfl, trivial⟩ (fun G298 => ⟨rfl, trivial⟩)⟩, ⟨rfl, .run (lo := 0) (n := 1) ⟨fun G298 A => t_l 0 4 rfl rfl rfl rfl (.agg tyA35), trivial⟩ (fun G298 => ⟨rfl, trivial⟩)⟩, ⟨rfl, .run (lo := 0) (n := 1) ⟨fun G298 A => t_call rfl (qc_rat_Div h307) rfl, trivial⟩ (fun G298 => ⟨rfl, rfl, trivial⟩)⟩, ⟨rfl, .run (lo := 0) (n := 1) ⟨fun G298 A => t_ixE (5 + v300) rfl tyS24 (inn_pA 5 rfl q181 q180 (q182 _ (rdL_mem h301))) (row_len q181 q180 (q182 _ (rdL_mem h301))) (rdL_some h309).1 (rdL_some h309).2.1, trivial⟩ (fun G298 => ⟨rfl, rfl, trivial⟩)⟩, trivial⟩ (fun bs299 G298 => ?_)
                obtain ⟨x310, h311, hF⟩ := bnd hF
                refine r_op0 (t_stE (H' := ([⟨some (bs151 8), 1, 35, 4, 1, (eQ v154)⟩, ⟨some b23, 1, 136, 6, 1, ([pO b172 n174 c173] ++ [pO b85 n87 c86] ++ (eQ v156))⟩, hO cI b85 c86 3 n87 x84, hO (cH g178) b172 c173 24 n174 x171, ⟨some b1, 1, 136, 6, 1, ([pS (cSl cQ) ([] : List (List Rat))] ++ [pS cI ([] : List Int)] ++ (eQ 0))⟩] ++ inn cQ 35 g178 (x177.set v300 x310))) (5 + v300) rfl (inn_p 5 rfl q181 q180 (q182 _ (rdL_mem h301))) h309 h311 tyA35.s (hH := stN 5 rfl q181 q180 (q182 _ (rdL_mem h301)))) ⟨rfl, rfl, trivial⟩ ?_
                refine r_nil (r_blkN (r_next (r_reg (r_mv ?_))))
                obtain ⟨v313, h314, hF⟩ := bnd hF
                refine r_op (t_add rfl h314) ⟨rfl, k_I _ _, trivial⟩ ?_
                refine r_as ?_
                refine r_nil ?_
                exact r_round (fun a w hh => ⟨x171, (x177.set v300 x310), v313, b172, c173, n174, g178, N179, hF, q175, (set_len q180), (set_ok q181 q180 (q182 _ (rdL_mem h301)) (stL_len h311 rfl)), q182, hs_backA 5 [0, 1, 2, 3, 4] rfl rfl (by decide) (by exact ⟨rfl, rfl, rfl, rfl, rfl, rfl, rfl, rfl, rfl, trivial⟩) hh⟩)
              · have hF := cnd_f h297 hF
                refine r_brk ?_
                obtain ⟨rfl, rfl⟩ := sm2 hF
                exact r_backA Jj197 ⟨x171, x177, b172, c173, n174, g178, N179, hRl196, q175, q180, q181, q182, rfl, rfl⟩ 5 [1, 2, 3, 4] rfl rfl ⟨rfl, rfl, rfl, rfl, rfl, rfl, rfl, trivial⟩
          · skip
            refine r_seq (r_reg (r_mv ?_))
            refine r_op (t_gt rfl) ⟨rfl, k_I _ _, trivial⟩ ?_
            refine r_nil (r_next (r_if rfl (fun h315 => ?_) (fun h315 => ?_)))
            · have hF := cnd_t h315 hF
              refine r_seq ?_
              obtain ⟨v318, h319, hF⟩ := bnd hF
              obtain ⟨v320, h321, hF⟩ := bnd hF
              obtain ⟨v322, h323, hF⟩ := bnd hF
              obtain ⟨v324, h325, hF⟩ := bnd hF
              obtain ⟨v326, h327, hF⟩ := bnd hF
              obtain ⟨x328, h329, hF⟩ := bnd hF
              obtain ⟨v331, h332, hF⟩ := bnd hF
              refine r_drawH (HsL [fun G316 => ([⟨some b23, 1, 136, 6, 1, ([pO b91 n93 c92] ++ [pO b85 n87 c86] ++ (eQ x102))⟩, hO cI b85 c86 3 n87 x84, hO (cH g97) b91 c92 24 n93 x90, ⟨some b1, 1, 136, 6, 1, ([pS (cSl cQ) ([] : List (List Rat))] ++ [pS cI ([] : List Int)] ++ (eQ 0))⟩] ++ inn cQ 35 g97 x96), fun G316 => ([⟨some b23, 1, 136, 6, 1, ([pO b91 n93 c92] ++ [pO b85 n87 c86] ++ (eQ x102))⟩, hO cI b85 c86 3 n87 x84, hO (cH g97) b91 c92 24 n93 x328, ⟨some b1, 1, 136, 6, 1, ([pS (cSl cQ) ([] : List (List Rat))] ++ [pS cI ([] : List Int)] ++ (eQ 0))⟩] ++ inn cQ 35 g97 x96)]) [21] [0, 1, 0, 0, 8, 0, 0, 96, 0, 256, 0, 0, 3072, 7936, 16128, 0, 32768, 0, 229376, 491520, 1048327, 2096903, 4194303, 8388607] 23 1 [.v (.vc (pP (some b23) 0)), .v (.vc (pO b91 n93 c92)), .v (.vc (pI .i64 (x84.length : Int))), .v (.vc (pP (some b23) 0)), .v (.vc (pO b91 n93 c92)), .v (.vc (pI .i64 (x84.length : Int))), .v (.vc (pI .i64 v130)), .v (.vc (pI .i64 v318)), .v (.vc (pP (some b23) 0)), .v (.vc (pO b91 n93 c92)), .v (.vc (pI .i64 (x84.length : Int))), .v (.vc (pI .i64 v130)), .v (.vc (pI .i64 v320)), .v (.vc (pE b91 v320 (cH g97).n 0)), .v (.vc (pO (hdr g97 v322).1 (hdr g97 v322).2.1 (hdr g97 v322).2.2)), .v (.vc (pP (some b23) 0)), .v (.vc (pO b91 n93 c92)), .v (.vc (pI .i64 (x84.length : Int))), .v (.vc (pE b91 (x84.length : Int) (cH g97).n 0)), .v (.vc (pO (hdr g97 v324).1 (hdr g97 v324).2.1 (hdr g97 v324).2.2)), .v (.vc (pE b91 (x84.length : Int) (cH g97).n 0)), .g (fun _ _ => .any), .v (.vc (pE b91 v318 (cH g97).n 0))] Tryz_mixed ⟨⟨rfl, .run (lo := 0) (n := 1) ⟨fun G316 A => t_fa (off := 0) (k := 0) rfl tyF136_0, trivial⟩ (fun G316 => ⟨rfl, trivial⟩)⟩, ⟨rfl, .run (lo := 0) (n := 1) ⟨fun G316 A => t_l 0 1 rfl rfl rfl rfl (.one tyO47), trivial⟩ (fun G316 => ⟨rfl, trivial⟩)⟩, ⟨rfl, .run (lo := 0) (n := 1) ⟨fun G316 A => t_mv (.inl rfl), trivial⟩ (fun G316 => ⟨rfl, trivial⟩)⟩, ⟨rfl, .run (lo := 0) (n := 2) ⟨fun G316 A => t_fa (off := 0) (k := 0) rfl tyF136_0, fun G316 A => t_fa (off := 0) (k := 0) rfl tyF136_0, trivial⟩ (fun G316 => ⟨rfl, trivial⟩)⟩, ⟨rfl, .run (lo := 0) (n := 2) ⟨fun G316 A => t_l 0 1 rfl rfl rfl rfl (.one tyO47), fun G316 A => t_l 0 1 rfl rfl rfl rfl (.one tyO47), trivial⟩ (fun G316 => ⟨rfl, trivial⟩)⟩, ⟨rfl, .run (lo := 0) (n := 2) ⟨fun G316 A => t_mv (.inl rfl), fun G316 A => t_mv (.inl rfl), trivial⟩ (fun G316 => ⟨rfl, trivial⟩)⟩, ⟨rfl, .run (lo := 0) (n := 2) ⟨fun G316 A => t_mv (.inl rfl), fun G316 A => t_mv (.inl rfl), trivial⟩ (fun G316 => ⟨rfl, trivial⟩)⟩, ⟨rfl, .run (lo := 0) (n := 2) ⟨fun G316 A => t_add rfl h319, fun G316 A => t_add rfl h319, trivial⟩ (fun G316 => ⟨rfl, rfl, trivial⟩)⟩, ⟨rfl, .run (lo := 0) (n := 1) ⟨fun G316 A => t_fa (off := 0) (k := 0) rfl tyF136_0, trivial⟩ (fun G316 => ⟨rfl, trivial⟩)⟩, ⟨rfl, .run (lo := 0) (n := 1) ⟨fun G316 A => t_l 0 1 rfl rfl rfl rfl (.one tyO47), trivial⟩ (fun G316 => ⟨rfl, trivial⟩)⟩, ⟨rfl, .run (lo := 0) (n := 1) ⟨fun G316 A => t_mv (.inl rfl), trivial⟩ (fun G316 => ⟨rfl, trivial⟩)⟩, ⟨rfl, .run (lo := 0) (n := 1) ⟨fun G316 A => t_mv (.inl rfl), trivial⟩ (fun G316 => ⟨rfl, trivial⟩)⟩, ⟨rfl, .run (lo := 0) (n := 1) ⟨fun G316 A => t_add rfl h321, trivial⟩ (fun G316 => ⟨rfl, rfl, trivial⟩)⟩, ⟨rfl, .run (lo := 0) (n := 1) ⟨fun G316 A => t_ixE (C := (cH g97)) 2 rfl tyS47 rfl q94 (rdL_some h323).1 (rdL_some h323).2.1, trivial⟩ (fun G316 => ⟨rfl, rfl, trivial⟩)⟩, ⟨rfl, .run (lo := 0) (n := 1) ⟨fun G316 A => t_ldE (C := (cH g97)) (k := 1) 2 rfl rfl h323 rfl (.one tyO24) rfl, trivial⟩ (fun G316 => ⟨rfl, trivial⟩)⟩, ⟨rfl, .run (lo := 0) (n := 1) ⟨fun G316 A => t_fa (off := 0) (k := 0) rfl tyF136_0, trivial⟩ (fun G316 => ⟨rfl, trivial⟩)⟩, ⟨rfl, .run (lo := 0) (n := 1) ⟨fun G316 A => t_l 0 1 rfl rfl rfl rfl (.one tyO47), trivial⟩ (fun G316 => ⟨rfl, trivial⟩)⟩, ⟨rfl, .run (lo := 0) (n := 1) ⟨fun G316 A => t_mv (.inl rfl), trivial⟩ (fun G316 => ⟨rfl, trivial⟩)⟩, ⟨rfl, .run (lo := 0) (n := 1) ⟨fun G316 A => t_ixE (C := (cH g97)) 2 rfl tyS47 rfl q94 (rdL_some h325).1 (rdL_some h325).2.1, trivial⟩ (fun G316 => ⟨rfl, rfl, trivial⟩)⟩, ⟨rfl, .run (lo := 0) (n := 1) ⟨fun G316 A => t_ldE (C := (cH g97)) (k := 1) 2 rfl rfl h325 rfl (.one tyO24) rfl, trivial⟩ (fun G316 => ⟨rfl, trivial⟩)⟩, ⟨rfl, .run (lo := 0) (n := 1) ⟨fun G316 A => t_ixE (C := (cH g97)) 2 rfl tyS47 rfl q94 (rdL_some h327).1 (rdL_some h327).2.1, trivial⟩ (fun G316 => ⟨rfl, rfl, trivial⟩)⟩, ⟨rfl, .hvy 0 (fun G316 A => hv_tr (t_stE (C := (cH g97)) 2 rfl rfl h327 h329 tyO24.s)) (fun G316 => ⟨rfl, rfl, trivial⟩)⟩, ⟨rfl, .run (lo := 1) (n := 1) ⟨fun G316 A => t_ixE (C := (cH g97)) 2 rfl tyS47 rfl (stL_len h329 q94) (rdL_some h332).1 (rdL_some h332).2.1, trivial⟩ (fun G316 => ⟨rfl, rfl, trivial⟩)⟩, trivial⟩ (fun bs317 G316 => ?_)
              obtain ⟨x333, h334, hF⟩ := bnd hF
              refine r_op0 (t_stE (C := (cH g97)) 2 rfl rfl h332 h334 tyO24.s) ⟨rfl, rfl, trivial⟩ ?_
              refine r_nil (r_next (r_reg (r_op (t_fa (off := 0) (k := 2) rfl tyF136_2) ⟨rfl, trivial⟩ ?_)))
              refine r_op (t_l 0 4 rfl rfl rfl rfl (.agg tyA35)) ⟨rfl, trivial⟩ ?_
              obtain ⟨v336, h337, hF⟩ := bnd hF
              refine r_op (t_call rfl (qc_rat_Neg h337) rfl) ⟨rfl, trivial⟩ ?_
              refine r_op (t_fa (off := 0) (k := 2) rfl tyF136_2) ⟨rfl, trivial⟩ ?_
              refine r_op0 (t_s 0 rfl rfl rfl tyA35.s) ⟨rfl, rfl, trivial⟩ ?_
              refine r_nil ?_
              exact r_backA Jj149 ⟨x333, x96, v336, b91, c92, n93, g97, N98, hF, (stL_len h334 (stL_len h329 q94)), q99, q100, (stL_hx (stL_hx q101 h329 (q101 _ (rdL_mem h323))) h334 (q101 _ (rdL_mem h325))), rfl, rfl⟩ 4 [0, 1, 2, 3] rfl rfl ⟨rfl, rfl, rfl, rfl, rfl, rfl, rfl, trivial⟩
            · have hF := cnd_f h315 hF
              refine r_skip ?_
              exact r_backA Jj149 ⟨x90, x96, x102, b91, c92, n93, g97, N98, hF, q94, q99, q100, q101, rfl, rfl⟩ 4 [0, 1, 2, 3] rfl rfl ⟨rfl, rfl, rfl, rfl, rfl, rfl, rfl, trivial⟩
      · have hF := cnd_f h126 hF
        refine r_brk ?_
        obtain ⟨rfl, rfl, rfl, rfl⟩ := sm4 hF
        exact r_backA Jj124 ⟨x84, x90, x96, x102, b85, c86, n87, b91, c92, n93, g97, N98, hRl123, q88, q94, q99, q100, q101, rfl, rfl⟩ 4 [0, 1, 2, 3] rfl rfl ⟨rfl, rfl, trivial⟩
  · skip
    obtain ⟨⟨x50', x56'⟩, hL, hRl62⟩ := bnd hF
    refine r_lp (fun k a w => ∃ (x37 : List Nat), ∃ (x43 : List (List Rat)), ∃ (x49 : Int), ∃ (b38 : Option Nat), ∃ (c39 : Nat), ∃ (n40 : Nat), ∃ (g44 : List Hdr), ∃ (N45 : Nat), F_matrix_reduce_l62 K a0 k x37 x43 x49 = some (x50', x56') ∧ x37.length = n40 ∧ x43.length = N45 ∧ LenOk g44 x43 ∧ (∀ k ∈ x37, k < N45) ∧ hs _ ([⟨some b23, 1, 136, 6, 1, ([pO b38 n40 c39] ++ [pO none 0 0] ++ (eQ v2))⟩, hO cI none 0 3 0 ([] : List Int), hO (cH g44) b38 c39 24 n40 x37, ⟨some b1, 1, 136, 6, 1, ([pS (cSl cQ) ([] : List (List Rat))] ++ [pS cI ([] : List Int)] ++ (eQ 0))⟩] ++ inn cQ 35 g44 x43) [(1, .vc (pI .i64 a1)), (4, .vc (pP (some b1) 0)), (5, .vc (pP (some b23) 0)), (17, .vc (pS (cSl cQ) a0)), (18, .vc (pI .i64 (a0.length : Int))), (19, .vc (pI .i64 x49))] a w) K (fun a w ⟨_, _, _, _, _, _, _, _, hF, _, _, _, _, _⟩ => by cases hF) (fun k a w ⟨x37, x43, x49, b38, c39, n40, g44, N45, hF, q41, q46, q47, q48, hh⟩ => r_at ?_ hh) (fun a w hh => ⟨([] : List Nat), ([] : List (List Rat)), 0, none, 0, 0, ([] : List Hdr), 0, hL, rfl, (rfl), lenOk_nil, (by simp), hs_backA 4 [0, 1, 2, 3] rfl rfl (by decide) (by exact ⟨rfl, rfl, rfl, rfl, rfl, rfl, trivial⟩) hh⟩)
    rw [F_matrix_reduce_l62.eq_2] at hF
    refine r_seq (r_reg (r_op (t_lt rfl) ⟨rfl, rfl, trivial⟩ ?_))
    refine r_nil (r_next (r_seq (r_if rfl (fun h338 => ?_) (fun h338 => ?_))))
    · have hF := cnd_t h338 hF
      refine r_skip (r_next (r_seq (r_blk (r_seq (r_reg ?_)))))
      obtain ⟨v339, h340, hF⟩ := bnd hF
      refine r_op (t_ix rfl tyS47 h340) ⟨rfl, rfl, trivial⟩ ?_
      refine r_op (t_lM 1 rfl rfl (.one tyO24)) ⟨rfl, trivial⟩ ?_
      refine r_as ?_
      refine r_nil (r_next ?_)
      obtain ⟨v343, h344, hF⟩ := bnd hF
      refine r_drawH (HsL [fun G341 => ([⟨some b23, 1, 136, 6, 1, ([pO b38 n40 c39] ++ [pO none 0 0] ++ (eQ v2))⟩, hO cI none 0 3 0 ([] : List Int), hO (cH g44) b38 c39 24 n40 x37, ⟨some b1, 1, 136, 6, 1, ([pS (cSl cQ) ([] : List (List Rat))] ++ [pS cI ([] : List Int)] ++ (eQ 0))⟩] ++ inn cQ 35 g44 x43), fun G341 => ([hO cQ ((G341 3).1) ((G341 3).2) 35 v343.length v343, ⟨some b23, 1, 136, 6, 1, ([pO b38 n40 c39] ++ [pO none 0 0] ++ (eQ v2))⟩, hO cI none 0 3 0 ([] : List Int), hO (cH g44) b38 c39 24 n40 x37, ⟨some b1, 1, 136, 6, 1, ([pS (cSl cQ) ([] : List (List Rat))] ++ [pS cI ([] : List Int)] ++ (eQ 0))⟩] ++ inn cQ 35 g44 x43), fun G341 => ([hO cQ ((G341 4).1) ((G341 4).2) 35 v343.length v343, ⟨some b23, 1, 136, 6, 1, ([pO b38 n40 c39] ++ [pO none 0 0] ++ (eQ v2))⟩, hO cI none 0 3 0 ([] : List Int), hO (cH (g44 ++ [((G341 4).1, v343.length, (G341 4).2)])) b38 c39 24 n40 x37, ⟨some b1, 1, 136, 6, 1, ([pS (cSl cQ) ([] : List (List Rat))] ++ [pS cI ([] : List Int)] ++ (eQ 0))⟩] ++ inn cQ 35 g44 x43)]) [3, 4] [0, 1, 0, 4, 12, 31, 63, 127] 5 3 [.v (.vc (pP (some b23) 0)), .v (.vc (pO b38 n40 c39)), .v (.vc (pS cQ v339)), .g (fun b c => .vc (pO b v343.length c)), .g (fun b c => .vc (pS (cH (g44 ++ [(b, v343.length, c)])) [x43.length]))] Tryz_mixed ⟨⟨rfl, .run (lo := 0) (n := 3) ⟨fun G341 A => t_fa (off := 0) (k := 0) rfl tyF136_0, fun G341 A => t_fa (off := 0) (k := 0) rfl tyF136_0, fun G341 A => t_fa (off := 0) (k := 0) rfl tyF136_0, trivial⟩ (fun G341 => ⟨rfl, trivial⟩)⟩, ⟨rfl, .run (lo := 0) (n := 3) ⟨fun G341 A => t_l 0 1 rfl rfl rfl rfl (.one tyO47), fun G341 A => t_l 1 1 rfl rfl rfl rfl (.one tyO47), fun G341 A => t_l 1 1 rfl rfl rfl rfl (.one tyO47), trivial⟩ (fun G341 => ⟨rfl, trivial⟩)⟩, ⟨rfl, .run (lo := 0) (n := 1) ⟨fun G341 A => t_mv (.inl rfl), trivial⟩ (fun G341 => ⟨rfl, trivial⟩)⟩, ⟨rfl, .hvy 0 (fun G341 A => hv_call rfl (ctO_slices_Clone_Rat h344) rfl) (fun G341 => ⟨rfl, trivial⟩)⟩, ⟨rfl, .hvy 1 (fun G341 A => hv_at ((G341 3).1) ((G341 3).2) (t_bsH (rs := x43) rfl tyS47 q47.1 (show ([hO cQ ((G341 3).1) ((G341 3).2) 35 v343.length v343, ⟨some b23, 1, 136, 6, 1, ([pO b38 n40 c39] ++ [pO none 0 0] ++ (eQ v2))⟩, hO cI none 0 3 0 ([] : List Int), hO (cH (g44 ++ [((G341 3).1, v343.length, (G341 3).2)])) b38 c39 24 n40 x37, ⟨some b1, 1, 136, 6, 1, ([pS (cSl cQ) ([] : List (List Rat))] ++ [pS cI ([] : List Int)] ++ (eQ 0))⟩] ++ inn cQ 35 g44 x43) ++ A = ([hO cQ ((G341 3).1) ((G341 3).2) 35 v343.length v343, ⟨some b23, 1, 136, 6, 1, ([pO b38 n40 c39] ++ [pO none 0 0] ++ (eQ v2))⟩, hO cI none 0 3 0 ([] : List Int), hO (cH g44) b38 c39 24 n40 x37, ⟨some b1, 1, 136, 6, 1, ([pS (cSl cQ) ([] : List (List Rat))] ++ [pS cI ([] : List Int)] ++ (eQ 0))⟩] ++ inn cQ 35 g44 x43) ++ A from by rw [recode (N := x43.length) ((G341 3).1, v343.length, (G341 3).2) q47.1 (lt_len q46 q48)]))) (fun G341 => ⟨rfl, trivial⟩)⟩, trivial⟩ (fun bs342 G341 => ?_)
      refine r_mergeL (g := ((G341 4).1, v343.length, (G341 4).2)) 0 5 rfl rfl rfl q47 ?_
      obtain ⟨x349, h350, hF⟩ := bnd hF
      refine r_app 2 rfl tyS47 rfl rfl q41 rfl rfl h350 (fun b351 c352 H353 e354 => ?_)
      cases e354
      refine r_op (t_fa (off := 0) (k := 0) rfl tyF136_0) ⟨rfl, trivial⟩ ?_
      refine r_op0 (t_s 0 rfl rfl rfl tyO47.s) ⟨rfl, rfl, trivial⟩ ?_
      refine r_nil (r_blkN (r_next (r_reg ?_)))
      obtain ⟨v356, h357, hF⟩ := bnd hF
      refine r_op (t_add rfl h357) ⟨rfl, k_I _ _, trivial⟩ ?_
      refine r_mv ?_
      refine r_nil ?_
      exact r_round (fun a w hh => ⟨x349, (x43 ++ [v343]), v356, b351, c352, (n40 + [x43.length].length), (g44 ++ [((G341 4).1, v343.length, (G341 4).2)]), (N45 + 1), hF, (apL_len h350 q41), (snoc_len q46), (lenOk_snoc q47 rfl), (apL_hx q48 q46 h350), hs_backA 4 [0, 1, 2, 3] rfl rfl (by decide) (by exact ⟨rfl, rfl, rfl, rfl, rfl, rfl, trivial⟩) hh⟩)
    · have hF := cnd_f h338 hF
      refine r_brk ?_
      obtain ⟨rfl, rfl⟩ := sm2 hF
      exact r_backA Jj63 ⟨x37, x43, b38, c39, n40, g44, N45, hRl62, q41, q46, q47, q48, rfl, rfl⟩ 4 [0, 1, 2, 3] rfl rfl ⟨rfl, rfl, rfl, trivial⟩

abbrev N_slices_Index_int : Nat := 150
def F_slices_Index_int_j4 (K : Nat) : Option Int :=
  some (-1)
def F_slices_Index_int_l3 (K : Nat) (a0 : List Int) (a1 : Int) : Nat → Int → Option (LR Int Unit)
  | 0, _ => none
  | k + 1, x2 => bif (decide (x2 < (a0.length : Int))) then ((rdL a0 x2).bind fun v6 => bif (a1 == v6) then (some (.ret x2)) else ((chk (x2 + 1)).bind fun v9 => F_slices_Index_int_l3 K a0 a1 k v9)) else (some (.go ()))
def F_slices_Index_int (K : Nat) (a0 : List Int) (a1 : Int) : Option Int :=
  (F_slices_Index_int_l3 K a0 a1 K 0).bind fun o => match o with | .ret r => some r | .go _ => F_slices_Index_int_j4 K 
set_option maxRecDepth 100000 in
theorem ct_slices_Index_int {K : Nat} {a0 : List Int} {a1 : Int} {r : Int} (hF : F_slices_Index_int K a0 a1 = some r) : Ct Tryz.prog 150 [.vc (pS cI a0), .vc (pI .i64 a1)] (.vc (pI .i64 r)) := by
  unfold F_slices_Index_int at hF
  refine ctO_intro Tryz.func150 rfl (by kernel_rfl) Tryz.ntmps150 rfl (fun w0 M0 => ?_)
  refine r_seq (r_reg (r_op (t_mv (.inr rfl)) ⟨k_I _ _, trivial⟩ ?_))
  refine r_nil (r_next (r_seq (r_seq (r_reg (r_mv ?_)))))
  refine r_op (t_ln rfl tyS22) ⟨rfl, trivial⟩ ?_
  refine r_op (t_mv (.inl rfl)) ⟨k_I _ _, trivial⟩ ?_
  refine r_nil (r_next (r_blk (r_cutN (fun H E => F_slices_Index_int_j4 K = some r ∧ H = [] ∧ E = []) ?_ (fun Jj4 => ?_))))
  · rintro _ _ ⟨hF, rfl, rfl⟩
    unfold F_slices_Index_int_j4 at hF
    refine r_next (r_seq (r_reg (r_op (t_mv (.inr rfl)) ⟨k_I _ _, trivial⟩ ?_)))
    refine r_nil (r_next (r_ret (r_toR ?_)))
    obtain rfl := sm1 hF
    exact r_done1 (.inl rfl) Tryz.results150 (.tmp rfl .nil) rfl rfl
  · skip
    obtain ⟨ol3, hL, hRl3⟩ := bnd hF
    refine r_lp (fun k a w => ∃ (x2 : Int), F_slices_Index_int_l3 K a0 a1 k x2 = some ol3 ∧ hs _ [] [(0, .vc (pS cI a0)), (1, .vc (pI .i64 a1)), (7, .vc (pI .i64 (a0.length : Int))), (8, .vc (pI .i64 x2))] a w) K (fun a w ⟨_, hF, _⟩ => by cases hF) (fun k a w ⟨x2, hF, hh⟩ => r_at ?_ hh) (fun a w hh => ⟨0, hL, hs_back [] rfl (by decide) (by exact ⟨rfl, rfl, rfl, rfl, trivial⟩) hh⟩)
    rw [F_slices_Index_int_l3.eq_2] at hF
    refine r_seq (r_reg (r_op (t_lt rfl) ⟨rfl, rfl, trivial⟩ ?_))
    refine r_nil (r_next (r_seq (r_if rfl (fun h5 => ?_) (fun h5 => ?_))))
    · have hF := cnd_t h5 hF
      refine r_skip (r_next (r_seq (r_blk (r_seq (r_reg (r_mv ?_))))))
      refine r_as ?_
      refine r_nil (r_next (r_seq (r_reg (r_mv ?_))))
      refine r_mv ?_
      refine r_mv ?_
      obtain ⟨v6, h7, hF⟩ := bnd hF
      refine r_op (t_ix rfl tyS22 h7) ⟨rfl, rfl, trivial⟩ ?_
      refine r_op (t_lM 1 rfl rfl (.one tyO3)) ⟨rfl, trivial⟩ ?_
      refine r_op (t_eq rfl) ⟨rfl, rfl, trivial⟩ ?_
      refine r_nil (r_next (r_if rfl (fun h8 => ?_) (fun h8 => ?_)))
      · have hF := cnd_t h8 hF
        refine r_seq (r_reg (r_mv ?_))
        refine r_as ?_
        refine r_nil (r_next (r_ret (r_toR ?_)))
        obtain rfl := sm1 hF
        obtain rfl := sm1 hRl3
        exact r_done1 (.inl rfl) Tryz.results150 (.tmp rfl .nil) rfl rfl
      · have hF := cnd_f h8 hF
        refine r_skip (r_blkN (r_next (r_reg ?_)))
        obtain ⟨v9, h10, hF⟩ := bnd hF
        refine r_op (t_add rfl h10) ⟨rfl, k_I _ _, trivial⟩ ?_
        refine r_mv ?_
        refine r_nil ?_
        exact r_round (fun a w hh => ⟨v9, hF, hs_back [] rfl (by decide) (by exact ⟨rfl, rfl, rfl, rfl, trivial⟩) hh⟩)
    · have hF := cnd_f h5 hF
      refine r_brk ?_
      obtain rfl := sm1 hF
      exact r_backJ Jj4 ⟨hRl3, rfl, rfl⟩ [] rfl trivial

abbrev N_slices_Contains_int : Nat := 110
def F_slices_Contains_int (K : Nat) (a0 : List Int) (a1 : Int) : Option Bool :=
  (F_slices_Index_int K a0 a1).bind fun v1 => some (decide (0 ≤ v1))
set_option maxRecDepth 100000 in
theorem ct_slices_Contains_int {K : Nat} {a0 : List Int} {a1 : Int} {r : Bool} (hF : F_slices_Contains_int K a0 a1 = some r) : Ct Tryz.prog 110 [.vc (pS cI a0), .vc (pI .i64 a1)] (.vc (pB r)) := by
  unfold F_slices_Contains_int at hF
  refine ctO_intro Tryz.func110 rfl (by kernel_rfl) Tryz.ntmps110 rfl (fun w0 M0 => ?_)
  refine r_seq (r_reg (r_op (t_mv (.inr rfl)) ⟨k_B _, trivial⟩ ?_))
  refine r_nil (r_next (r_seq (r_reg (r_mv ?_))))
  refine r_mv ?_
  obtain ⟨v1, h2, hF⟩ := bnd hF
  refine r_op (t_call rfl (ct_slices_Index_int h2) rfl) ⟨rfl, rfl, trivial⟩ ?_
  refine r_op (t_ge rfl) ⟨rfl, k_I _ _, trivial⟩ ?_
  refine r_as ?_
  refine r_nil (r_next (r_ret (r_toR ?_)))
  obtain rfl := sm1 hF
  exact r_done1 (.inl rfl) Tryz.results110 (.tmp rfl .nil) rfl rfl

abbrev N_matrix_Kernel : Nat := 50
def F_matrix_Kernel_j32 (K : Nat) (x25 : List (List Rat)) : Option ((List (List Rat)) × Int) :=
  some (x25, 0)
def F_matrix_Kernel_j72 (K : Nat) (x18 : List (List Rat)) (x24 : Int) (recl31 : (List (List Rat)) → Int → Option (List (List Rat))) (x65 : List Rat) : Option (List (List Rat)) :=
  (apL x18 [x65]).bind fun x73 => (chk (x24 + 1)).bind fun v80 => recl31 x73 v80
def F_matrix_Kernel_l71 (K : Nat) (v6 : matrix_form) (x24 : Int) : Nat → (List Rat) → Int → Option (List Rat)
  | 0, _, _ => none
  | k + 1, x58, x64 => bif (decide (x64 < (v6.pivots.length : Int))) then ((rdL v6.pivots x64).bind fun v83 => (rdL v6.rows x64).bind fun v85 => (rdL v85 x24).bind fun v87 => (qneg v87).bind fun v89 => (rdL x58 v83).bind fun v91 => (stL x58 v83 v89).bind fun x93 => (chk (x64 + 1)).bind fun v96 => F_matrix_Kernel_l71 K v6 x24 k x93 v96) else (some x58)
def F_matrix_Kernel_l31 (K : Nat) (v4 : Int) (v6 : matrix_form) : Nat → (List (List Rat)) → Int → Option (List (List Rat))
  | 0, _, _ => none
  | k + 1, x18, x24 => bif (decide (x24 < v4)) then ((F_slices_Contains_int K v6.pivots x24).bind fun v34 => bif v34 then ((chk (x24 + 1)).bind fun v37 => F_matrix_Kernel_l31 K v4 v6 k x18 v37) else ((mkL v4 0).bind fun x39 => (qof 1 1).bind fun v44 => (rdL x39 x24).bind fun v46 => (stL x39 x24 v44).bind fun x48 => (F_matrix_Kernel_l71 K v6 x24 K x48 0).bind fun x65 => F_matrix_Kernel_j72 K x18 x24 (F_matrix_Kernel_l31 K v4 v6 k) x65)) else (some x18)
def F_matrix_Kernel (K : Nat) (a0 : List (List Rat)) : Option ((List (List Rat)) × Int) :=
  (F_matrix_Valid K a0).bind fun v1 => bif (!v1) then (some ([], 1)) else ((F_matrix_cols a0).bind fun v4 => (F_matrix_reduce K a0 v4).bind fun v6 => (F_matrix_Kernel_l31 K v4 v6 K ([] : List (List Rat)) 0).bind fun x25 => F_matrix_Kernel_j32 K x25)
set_option maxRecDepth 100000 in
theorem ct_matrix_Kernel {K : Nat} {a0 : List (List Rat)} {r : (List (List Rat)) × Int} (hF : F_matrix_Kernel K a0 = some r) : Ct Tryz.prog 50 [.vc (pS (cSl cQ) a0)] (.t2 (.vc (pS (cSl cQ) r.1)) (.vc (pI .i64 r.2))) := by
  unfold F_matrix_Kernel at hF
  refine ctO_intro Tryz.func50 rfl (by kernel_rfl) Tryz.ntmps50 rfl (fun w0 M0 => ?_)
  refine r_seq (r_reg (r_op (t_mv (.inr rfl)) ⟨k_nil (cSl cQ), trivial⟩ ?_))
  refine r_op (t_mv (.inr rfl)) ⟨k_I _ _, trivial⟩ ?_
  refine r_nil (r_next (r_seq (r_seq (r_reg (r_mv ?_)))))
  obtain ⟨v1, h2, hF⟩ := bnd hF
  refine r_op (t_call rfl (ct_matrix_Valid h2) rfl) ⟨rfl, trivial⟩ ?_
  refine r_op (t_not rfl) ⟨rfl, trivial⟩ ?_
  refine r_nil (r_next (r_if rfl (fun h3 => ?_) (fun h3 => ?_)))
  · have hF := cnd_t h3 hF
    refine r_seq (r_reg (r_op (t_mv (.inr rfl)) ⟨k_nil (cSl cQ), trivial⟩ ?_))
    refine r_op (t_mv (.inr rfl)) ⟨k_I _ _, trivial⟩ ?_
    refine r_nil (r_next (r_ret (r_toR ?_)))
    obtain rfl := sm1 hF
    exact r_done1 (.inl rfl) Tryz.results50 (.tmp rfl (.tmp rfl .nil)) rfl rfl
  · have hF := cnd_f h3 hF
    refine r_skip (r_next (r_seq (r_reg (r_mv ?_))))
    obtain ⟨v4, h5, hF⟩ := bnd hF
    refine r_op (t_call rfl (ct_matrix_cols h5) rfl) ⟨rfl, trivial⟩ ?_
    refine r_as ?_
    refine r_nil (r_next (r_seq (r_reg (r_mv ?_))))
    refine r_mv ?_
    obtain ⟨v6, h7, hF⟩ := bnd hF
    refine r_op (t_call rfl (ct_matrix_reduce h7) rfl) ⟨rfl, rfl, trivial⟩ ?_
    refine r_alloc rfl tyZ136q (fun b8 => ?_)
    refine r_op0 (t_s 0 rfl rfl rfl tyA136.s) ⟨rfl, rfl, trivial⟩ ?_
    refine r_nil (r_next (r_seq (r_reg (r_nilO (cSl cQ) 24 rfl ?_))))
    refine r_nil (r_next (r_seq (r_seq (r_reg (r_mv ?_)))))
    refine r_op (t_mv (.inl rfl)) ⟨k_I _ _, trivial⟩ ?_
    refine r_nil (r_next (r_blk (r_cutN (fun H E => ∃ (x25 : List (List Rat)), ∃ (b26 : Option Nat), ∃ (c27 : Nat), ∃ (n28 : Nat), F_matrix_Kernel_j32 K x25 = some r ∧ x25.length = n28 ∧ H = [hO (cSl cQ) b26 c27 24 n28 x25] ∧ E = [(6, .vc (pO b26 n28 c27))]) ?_ (fun Jj32 => ?_))))
    · rintro _ _ ⟨x25, b26, c27, n28, hF, q29, rfl, rfl⟩
      unfold F_matrix_Kernel_j32 at hF
      refine r_next (r_seq (r_reg (r_mv ?_)))
      refine r_as ?_
      refine r_op (t_mv (.inr rfl)) ⟨k_I _ _, trivial⟩ ?_
      refine r_nil (r_next (r_ret (r_toR (r_fzX 0 [2, 6, 59] rfl q29 ⟨rfl, rfl, rfl, trivial⟩ rfl ?_))))
      obtain rfl := sm1 hF
      exact r_done1 (.inl rfl) Tryz.results50 (.tmp rfl (.tmp rfl .nil)) rfl rfl
    · skip
      obtain ⟨x25', hL, hRl31⟩ := bnd hF
      refine r_lp (fun k a w => ∃ (x18 : List (List Rat)), ∃ (x24 : Int), ∃ (b19 : Option Nat), ∃ (c20 : Nat), ∃ (n21 : Nat), F_matrix_Kernel_l31 K v4 v6 k x18 x24 = some x25' ∧ x18.length = n21 ∧ hs _ [hO (cSl cQ) b19 c20 24 n21 x18, ⟨some b8, 1, 136, 6, 1, (matrix_form.enc v6)⟩] [(4, .vc (pI .i64 v4)), (5, .vc (pP (some b8) 0)), (6, .vc (pO b19 n21 c20)), (19, .vc (pI .i64 v4)), (20, .vc (pI .i64 x24))] a w) K (fun a w ⟨_, _, _, _, _, hF, _, _⟩ => by cases hF) (fun k a w ⟨x18, x24, b19, c20, n21, hF, q22, hh⟩ => r_at ?_ hh) (fun a w hh => ⟨([] : List (List Rat)), 0, none, 0, 0, hL, rfl, hs_back [0, 1] rfl (by decide) (by exact ⟨rfl, rfl, rfl, rfl, rfl, trivial⟩) hh⟩)
      rw [F_matrix_Kernel_l31.eq_2] at hF
      refine r_seq (r_reg (r_op (t_lt rfl) ⟨rfl, rfl, trivial⟩ ?_))
      refine r_nil (r_next (r_seq (r_if rfl (fun h33 => ?_) (fun h33 => ?_))))
      · have hF := cnd_t h33 hF
        refine r_skip (r_next (r_seq (r_blk (r_seq (r_reg (r_mv ?_))))))
        refine r_as ?_
        refine r_nil (r_next (r_seq (r_seq (r_reg (r_op (t_fa (off := 0) (k := 1) rfl tyF136_1) ⟨rfl, trivial⟩ ?_)))))
        refine r_op (t_l 1 1 rfl rfl rfl rfl (.one tyO22)) ⟨rfl, trivial⟩ ?_
        refine r_mv ?_
        obtain ⟨v34, h35, hF⟩ := bnd hF
        refine r_op (t_call rfl (ct_slices_Contains_int h35) rfl) ⟨rfl, rfl, trivial⟩ ?_
        refine r_nil (r_next (r_if rfl (fun h36 => ?_) (fun h36 => ?_)))
        · have hF := cnd_t h36 hF
          refine r_brk (r_next (r_reg ?_))
          obtain ⟨v37, h38, hF⟩ := bnd hF
          refine r_op (t_add rfl h38) ⟨rfl, k_I _ _, trivial⟩ ?_
          refine r_mv ?_
          refine r_nil ?_
          exact r_round (fun a w hh => ⟨x18, v37, b19, c20, n21, hF, q22, hs_back [0, 1] rfl (by decide) (by exact ⟨rfl, rfl, rfl, rfl, rfl, trivial⟩) hh⟩)
        · have hF := cnd_f h36 hF
          refine r_skip (r_next (r_seq (r_reg (r_mv ?_))))
          obtain ⟨x39, h40, hF⟩ := bnd hF
          refine r_make (C := cQ) rfl tyS24 rfl tyZ35q rfl h40 (fun b41 => ?_)
          refine r_as ?_
          refine r_nil (r_next (r_seq (r_reg (r_mv ?_))))
          refine r_mv ?_
          obtain ⟨v44, h45, hF⟩ := bnd hF
          refine r_op (t_call rfl (qc_rat_Of h45) rfl) ⟨k_I _ _, k_I _ _, trivial⟩ ?_
          obtain ⟨v46, h47, hF⟩ := bnd hF
          refine r_op (t_ixE (C := cQ) 0 rfl tyS24 rfl rfl (rdL_some h47).1 (rdL_some h47).2.1) ⟨rfl, rfl, trivial⟩ ?_
          obtain ⟨x48, h49, hF⟩ := bnd hF
          refine r_op0 (t_stE 0 rfl rfl h47 h49 tyA35.s) ⟨rfl, rfl, trivial⟩ ?_
          refine r_nil (r_next (r_seq (r_seq (r_reg (r_op (t_fa (off := 0) (k := 1) rfl tyF136_1) ⟨rfl, trivial⟩ ?_)))))
          refine r_op (t_l 2 1 rfl rfl rfl rfl (.one tyO22)) ⟨rfl, trivial⟩ ?_
          refine r_op (t_ln rfl tyS22) ⟨rfl, trivial⟩ ?_
          refine r_op (t_mv (.inl rfl)) ⟨k_I _ _, trivial⟩ ?_
          refine r_nil (r_next (r_blk (r_cutN (fun H E => ∃ (x65 : List Rat), ∃ (b66 : Option Nat), ∃ (c67 : Nat), ∃ (n68 : Nat), F_matrix_Kernel_j72 K x18 x24 (F_matrix_Kernel_l31 K v4 v6 k) x65 = some x25' ∧ x65.length = n68 ∧ H = [hO cQ b66 c67 35 n68 x65, hO (cSl cQ) b19 c20 24 n21 x18, ⟨some b8, 1, 136, 6, 1, (matrix_form.enc v6)⟩] ∧ E = [(4, .vc (pI .i64 v4)), (5, .vc (pP (some b8) 0)), (6, .vc (pO b19 n21 c20)), (8, .vc (pO b66 n68 c67)), (19, .vc (pI .i64 v4)), (20, .vc (pI .i64 x24))]) ?_ (fun Jj72 => ?_))))
          · rintro _ _ ⟨x65, b66, c67, n68, hF, q69, rfl, rfl⟩
            unfold F_matrix_Kernel_j72 at hF
            refine r_next (r_reg (r_mv ?_))
            refine r_mv ?_
            refine r_fzL 0 [8, 55] rfl q69 ⟨rfl, rfl, trivial⟩ rfl ?_
            refine r_op (t_bs (C := (cSl cQ)) (xs := [.tmp 55]) (ps := [.vc (pS cQ x65)]) (zs := [x65]) rfl tyS47 rfl ⟨⟨trivial, rfl⟩, trivial⟩ rfl) ⟨rfl, trivial⟩ ?_
            obtain ⟨x73, h74, hF⟩ := bnd hF
            refine r_app 0 rfl tyS47 rfl rfl q22 rfl rfl h74 (fun b75 c76 H77 e78 => ?_)
            cases e78
            refine r_as ?_
            refine r_nil (r_blkN (r_next (r_reg ?_)))
            obtain ⟨v80, h81, hF⟩ := bnd hF
            refine r_op (t_add rfl h81) ⟨rfl, k_I _ _, trivial⟩ ?_
            refine r_mv ?_
            refine r_nil ?_
            exact r_round (fun a w hh => ⟨x73, v80, b75, c76, (n21 + [x65].length), hF, (apL_len h74 q22), hs_back [0, 1] rfl (by decide) (by exact ⟨rfl, rfl, rfl, rfl, rfl, trivial⟩) hh⟩)
          · skip
            obtain ⟨x65', hL, hRl71⟩ := bnd hF
            refine r_lp (fun k a w => ∃ (x58 : List Rat), ∃ (x64 : Int), ∃ (b59 : Option Nat), ∃ (c60 : Nat), ∃ (n61 : Nat), F_matrix_Kernel_l71 K v6 x24 k x58 x64 = some x65' ∧ x58.length = n61 ∧ hs _ [hO cQ b59 c60 35 n61 x58, hO (cSl cQ) b19 c20 24 n21 x18, ⟨some b8, 1, 136, 6, 1, (matrix_form.enc v6)⟩] [(4, .vc (pI .i64 v4)), (5, .vc (pP (some b8) 0)), (6, .vc (pO b19 n21 c20)), (7, .vc (pI .i64 x24)), (8, .vc (pO b59 n61 c60)), (19, .vc (pI .i64 v4)), (20, .vc (pI .i64 x24)), (34, .vc (pS cI v6.pivots)), (35, .vc (pI .i64 (v6.pivots.length : Int))), (36, .vc (pI .i64 x64))] a w) K (fun a w ⟨_, _, _, _, _, hF, _, _⟩ => by cases hF) (fun k a w ⟨x58, x64, b59, c60, n61, hF, q62, hh⟩ => r_at ?_ hh) (fun a w hh => ⟨x48, 0, b41, x39.length, x39.length, hL, (stL_len h49 rfl), hs_back [0, 1, 2] rfl (by decide) (by exact ⟨rfl, rfl, rfl, rfl, rfl, rfl, rfl, rfl, rfl, rfl, trivial⟩) hh⟩)
            rw [F_matrix_Kernel_l71.eq_2] at hF
            refine r_seq (r_reg (r_op (t_lt rfl) ⟨rfl, rfl, trivial⟩ ?_))
            refine r_nil (r_next (r_seq (r_if rfl (fun h82 => ?_) (fun h82 => ?_))))
            · have hF := cnd_t h82 hF
              refine r_skip (r_next (r_seq (r_blk (r_seq (r_reg (r_mv ?_))))))
              obtain ⟨v83, h84, hF⟩ := bnd hF
              refine r_op (t_ix rfl tyS22 h84) ⟨rfl, rfl, trivial⟩ ?_
              refine r_op (t_lM 1 rfl rfl (.one tyO3)) ⟨rfl, trivial⟩ ?_
              refine r_as ?_
              refine r_as ?_
              refine r_nil (r_next (r_reg (r_mv ?_)))
              refine r_mv ?_
              refine r_op (t_fa (off := 0) (k := 0) rfl tyF136_0) ⟨rfl, trivial⟩ ?_
              refine r_op (t_l 2 1 rfl rfl rfl rfl (.one tyO47)) ⟨rfl, trivial⟩ ?_
              refine r_mv ?_
              obtain ⟨v85, h86, hF⟩ := bnd hF
              refine r_op (t_ix rfl tyS47 h86) ⟨rfl, rfl, trivial⟩ ?_
              refine r_op (t_lM 1 rfl rfl (.one tyO24)) ⟨rfl, trivial⟩ ?_
              refine r_mv ?_
              obtain ⟨v87, h88, hF⟩ := bnd hF
              refine r_op (t_ix rfl tyS24 h88) ⟨rfl, rfl, trivial⟩ ?_
              refine r_op (t_lM 4 rfl rfl (.agg tyA35)) ⟨rfl, trivial⟩ ?_
              obtain ⟨v89, h90, hF⟩ := bnd hF
              refine r_op (t_call rfl (qc_rat_Neg h90) rfl) ⟨rfl, trivial⟩ ?_
              obtain ⟨v91, h92, hF⟩ := bnd hF
              refine r_op (t_ixE (C := cQ) 0 rfl tyS24 rfl q62 (rdL_some h92).1 (rdL_some h92).2.1) ⟨rfl, rfl, trivial⟩ ?_
              obtain ⟨x93, h94, hF⟩ := bnd hF
              refine r_op0 (t_stE 0 rfl rfl h92 h94 tyA35.s) ⟨rfl, rfl, trivial⟩ ?_
              refine r_nil (r_blkN (r_next (r_reg ?_)))
              obtain ⟨v96, h97, hF⟩ := bnd hF
              refine r_op (t_add rfl h97) ⟨rfl, k_I _ _, trivial⟩ ?_
              refine r_mv ?_
              refine r_nil ?_
              exact r_round (fun a w hh => ⟨x93, v96, b59, c60, n61, hF, (stL_len h94 q62), hs_back [0, 1, 2] rfl (by decide) (by exact ⟨rfl, rfl, rfl, rfl, rfl, rfl, rfl, rfl, rfl, rfl, trivial⟩) hh⟩)
            · have hF := cnd_f h82 hF
              refine r_brk ?_
              obtain rfl := sm1 hF
              exact r_backJ Jj72 ⟨x58, b59, c60, n61, hRl71, q62, rfl, rfl⟩ [0, 1, 2] rfl ⟨rfl, rfl, rfl, rfl, rfl, rfl, trivial⟩
      · have hF := cnd_f h33 hF
        refine r_brk ?_
        obtain rfl := sm1 hF
        exact r_backJ Jj32 ⟨x18, b19, c20, n21, hRl31, q22, rfl, rfl⟩ [0] rfl ⟨rfl, trivial⟩

abbrev N_energy_Kept_1 : Nat := 77
def F_energy_Kept_1_j33 (K : Nat) (c1 : List (List Rat)) (x26 : List Rat) : Option (List (List Rat)) :=
  (apL c1 [x26]).bind fun x34 => some x34
def F_energy_Kept_1_l32 (K : Nat) (a0 : List api_Term) : Nat → (List Rat) → Int → Option (List Rat)
  | 0, _, _ => none
  | k + 1, x19, x25 => bif (decide (x25 < (a0.length : Int))) then ((rdL a0 x25).bind fun v42 => (rdL x19 v42.dof).bind fun v47 => (qadd v47 v42.k).bind fun v49 => (rdL x19 v42.dof).bind fun v51 => (stL x19 v42.dof v49).bind fun x53 => (chk (x25 + 1)).bind fun v56 => F_energy_Kept_1_l32 K a0 k x53 v56) else (some x19)
def F_energy_Kept_1 (K : Nat) (c0 : Int) (c1 : List (List Rat)) (a0 : List api_Term) : Option (List (List Rat)) :=
  (mkL c0 0).bind fun x7 => (F_energy_Kept_1_l32 K a0 K x7 0).bind fun x26 => F_energy_Kept_1_j33 K c1 x26
set_option maxRecDepth 100000 in
theorem ctO_energy_Kept_1 {K : Nat} {c0 : Int} {c1 : List (List Rat)} {a0 : List api_Term} {r : List (List Rat)} (hF : F_energy_Kept_1 K c0 c1 a0 = some r) {p1 : Nat} {b3 : Option Nat} {c4 n2 : Nat} (q5 : c1.length = n2) : CtO Tryz.prog 77 [⟨some p1, 1, 47, 1, 1, [pO b3 n2 c4]⟩, hO (cSl cQ) b3 c4 24 n2 c1] [.vc (pS api_Term.cod a0), .vc (pM (cI.e c0)), .vc (pP (some p1) 0)] (fun Ho q => ∃ b60 c61 n59, r.length = n59 ∧ Ho = [⟨some p1, 1, 47, 1, 1, [pO b60 n59 c61]⟩, hO (cSl cQ) b60 c61 24 n59 r] ∧ q = .any) := by
  unfold F_energy_Kept_1 at hF
  refine ctO_intro Tryz.func77 rfl (by kernel_rfl) Tryz.ntmps77 rfl (fun w0 M0 => ?_)
  refine r_seq (r_reg (r_op (t_lM 1 rfl rfl (.one tyO3)) ⟨rfl, trivial⟩ ?_))
  obtain ⟨x7, h8, hF⟩ := bnd hF
  refine r_make (C := cQ) rfl tyS24 rfl tyZ35q rfl h8 (fun b9 => ?_)
  refine r_as ?_
  refine r_nil (r_next (r_seq (r_seq (r_reg (r_mv ?_)))))
  refine r_op (t_ln rfl tyS29) ⟨rfl, trivial⟩ ?_
  refine r_op (t_mv (.inl rfl)) ⟨k_I _ _, trivial⟩ ?_
  refine r_nil (r_next (r_blk (r_cutN (fun H E => ∃ (x26 : List Rat), ∃ (b27 : Option Nat), ∃ (c28 : Nat), ∃ (n29 : Nat), F_energy_Kept_1_j33 K c1 x26 = some r ∧ x26.length = n29 ∧ H = [hO cQ b27 c28 35 n29 x26, ⟨some p1, 1, 47, 1, 1, [pO b3 n2 c4]⟩, hO (cSl cQ) b3 c4 24 n2 c1] ∧ E = [(2, .vc (pP (some p1) 0)), (4, .vc (pO b27 n29 c28))]) ?_ (fun Jj33 => ?_))))
  · rintro _ _ ⟨x26, b27, c28, n29, hF, q30, rfl, rfl⟩
    unfold F_energy_Kept_1_j33 at hF
    refine r_next (r_reg (r_op (t_l 1 1 rfl rfl rfl rfl (.one tyO47)) ⟨rfl, trivial⟩ ?_))
    refine r_mv ?_
    refine r_fzL 0 [4, 29] rfl q30 ⟨rfl, rfl, trivial⟩ rfl ?_
    refine r_op (t_bs (C := (cSl cQ)) (xs := [.tmp 29]) (ps := [.vc (pS cQ x26)]) (zs := [x26]) rfl tyS47 rfl ⟨⟨trivial, rfl⟩, trivial⟩ rfl) ⟨rfl, trivial⟩ ?_
    obtain ⟨x34, h35, hF⟩ := bnd hF
    refine r_app 1 rfl tyS47 rfl rfl q5 rfl rfl h35 (fun b36 c37 H38 e39 => ?_)
    cases e39
    refine r_op0 (t_s 0 rfl rfl rfl tyO47.s) ⟨rfl, rfl, trivial⟩ ?_
    refine r_nil ?_
    obtain rfl := sm1 hF
    exact r_done (.inr rfl) Tryz.results77 .nil rfl [0, 1] rfl (by decide) ⟨b36, c37, (n2 + [x26].length), (apL_len h35 q5), rfl, rfl⟩
  · skip
    obtain ⟨x26', hL, hRl32⟩ := bnd hF
    refine r_lp (fun k a w => ∃ (x19 : List Rat), ∃ (x25 : Int), ∃ (b20 : Option Nat), ∃ (c21 : Nat), ∃ (n22 : Nat), F_energy_Kept_1_l32 K a0 k x19 x25 = some x26' ∧ x19.length = n22 ∧ hs _ [hO cQ b20 c21 35 n22 x19, ⟨some p1, 1, 47, 1, 1, [pO b3 n2 c4]⟩, hO (cSl cQ) b3 c4 24 n2 c1] [(2, .vc (pP (some p1) 0)), (4, .vc (pO b20 n22 c21)), (9, .vc (pS api_Term.cod a0)), (10, .vc (pI .i64 (a0.length : Int))), (11, .vc (pI .i64 x25))] a w) K (fun a w ⟨_, _, _, _, _, hF, _, _⟩ => by cases hF) (fun k a w ⟨x19, x25, b20, c21, n22, hF, q23, hh⟩ => r_at ?_ hh) (fun a w hh => ⟨x7, 0, b9, x7.length, x7.length, hL, rfl, hs_back [0, 1, 2] rfl (by decide) (by exact ⟨rfl, rfl, rfl, rfl, rfl, trivial⟩) hh⟩)
    rw [F_energy_Kept_1_l32.eq_2] at hF
    refine r_seq (r_reg (r_op (t_lt rfl) ⟨rfl, rfl, trivial⟩ ?_))
    refine r_nil (r_next (r_seq (r_if rfl (fun h41 => ?_) (fun h41 => ?_))))
    · have hF := cnd_t h41 hF
      refine r_skip (r_next (r_seq (r_blk (r_seq (r_reg ?_)))))
      obtain ⟨v42, h43, hF⟩ := bnd hF
      refine r_op (t_ix rfl tyS29 h43) ⟨rfl, rfl, trivial⟩ ?_
      refine r_op (t_lM 5 rfl rfl (.agg tyA38)) ⟨rfl, trivial⟩ ?_
      refine r_alloc rfl tyZ38q (fun b44 => ?_)
      refine r_op0 (t_s 0 rfl rfl rfl tyA38.s) ⟨rfl, rfl, trivial⟩ ?_
      refine r_nil (r_next ?_)
      obtain ⟨v47, h48, hF⟩ := bnd hF
      obtain ⟨v49, h50, hF⟩ := bnd hF
      obtain ⟨v51, h52, hF⟩ := bnd hF
      refine r_draw [0, 0, 2, 0, 0, 16, 56, 120, 0, 256, 1016, 2047, 4095] 12 1 [.v (.vc (pO b20 n22 c21)), .v (.vc (pP (some b44) 0)), .v (.vc (pI .i64 v42.dof)), .v (.vc (pO b20 n22 c21)), .v (.vc (pP (some b44) 0)), .v (.vc (pI .i64 v42.dof)), .v (.vc (pE b20 v42.dof cQ.n 0)), .v (.va (eQ v47)), .v (.vc (pP (some b44) 1)), .v (.va (eQ v42.k)), .v (.va (eQ v49)), .v (.vc (pE b20 v42.dof cQ.n 0))] Tryz_mixed ⟨⟨rfl, .run (lo := 0) (n := 1) ⟨fun G45 A => t_mv (.inl rfl), trivial⟩ (fun G45 => ⟨rfl, trivial⟩)⟩, ⟨rfl, .run (lo := 0) (n := 1) ⟨fun G45 A => t_fa (off := 0) (k := 0) rfl tyF38_0, trivial⟩ (fun G45 => ⟨rfl, trivial⟩)⟩, ⟨rfl, .run (lo := 0) (n := 1) ⟨fun G45 A => t_l 0 1 rfl rfl rfl rfl (.one tyO3), trivial⟩ (fun G45 => ⟨rfl, trivial⟩)⟩, ⟨rfl, .run (lo := 0) (n := 1) ⟨fun G45 A => t_mv (.inl rfl), trivial⟩ (fun G45 => ⟨rfl, trivial⟩)⟩, ⟨rfl, .run (lo := 0) (n := 1) ⟨fun G45 A => t_fa (off := 0) (k := 0) rfl tyF38_0, trivial⟩ (fun G45 => ⟨rfl, trivial⟩)⟩, ⟨rfl, .run (lo := 0) (n := 1) ⟨fun G45 A => t_l 0 1 rfl rfl rfl rfl (.one tyO3), trivial⟩ (fun G45 => ⟨rfl, trivial⟩)⟩, ⟨rfl, .run (lo := 0) (n := 1) ⟨fun G45 A => t_ixE (C := cQ) 1 rfl tyS24 rfl q23 (rdL_some h48).1 (rdL_some h48).2.1, trivial⟩ (fun G45 => ⟨rfl, rfl, trivial⟩)⟩, ⟨rfl, .run (lo := 0) (n := 1) ⟨fun G45 A => t_ldE (k := 4) 1 rfl rfl h48 rfl (.agg tyA35) rfl, trivial⟩ (fun G45 => ⟨rfl, trivial⟩)⟩, ⟨rfl, .run (lo := 0) (n := 1) ⟨fun G45 A => t_fa (off := 0) (k := 1) rfl tyF38_1, trivial⟩ (fun G45 => ⟨rfl, trivial⟩)⟩, ⟨rfl, .run (lo := 0) (n := 1) ⟨fun G45 A => t_l 0 4 rfl rfl rfl rfl (.agg tyA35), trivial⟩ (fun G45 => ⟨rfl, trivial⟩)⟩, ⟨rfl, .run (lo := 0) (n := 1) ⟨fun G45 A => t_call rfl (qc_rat_Add h50) rfl, trivial⟩ (fun G45 => ⟨rfl, rfl, trivial⟩)⟩, ⟨rfl, .run (lo := 0) (n := 1) ⟨fun G45 A => t_ixE (C := cQ) 1 rfl tyS24 rfl q23 (rdL_some h52).1 (rdL_some h52).2.1, trivial⟩ (fun G45 => ⟨rfl, rfl, trivial⟩)⟩, trivial⟩ (fun bs46 G45 => ?_)
      obtain ⟨x53, h54, hF⟩ := bnd hF
      refine r_op0 (t_stE 1 rfl rfl h52 h54 tyA35.s) ⟨rfl, rfl, trivial⟩ ?_
      refine r_nil (r_blkN (r_next (r_reg ?_)))
      obtain ⟨v56, h57, hF⟩ := bnd hF
      refine r_op (t_add rfl h57) ⟨rfl, k_I _ _, trivial⟩ ?_
      refine r_mv ?_
      refine r_nil ?_
      exact r_round (fun a w hh => ⟨x53, v56, b20, c21, n22, hF, (stL_len h54 q23), hs_back [1, 2, 3] rfl (by decide) (by exact ⟨rfl, rfl, rfl, rfl, rfl, trivial⟩) hh⟩)
    · have hF := cnd_f h41 hF
      refine r_brk ?_
      obtain rfl := sm1 hF
      exact r_backJ Jj33 ⟨x19, b20, c21, n22, hRl32, q23, rfl, rfl⟩ [0, 1, 2] rfl ⟨rfl, rfl, trivial⟩

abbrev N_energy_Kept : Nat := 18
def F_energy_Kept_j32 (K : Nat) (x25 : List (List Rat)) : Option ((List (List Rat)) × Int) :=
  bif (decide (64 < (x25.length : Int))) then (some ([], 4)) else ((F_matrix_Kernel K x25).bind fun v34 => some (v34.1, v34.2))
def F_energy_Kept_l31 (K : Nat) (a0 : List api_Dof) (a1 : List api_Row) : Nat → (List (List Rat)) → Int → Option (LR ((List (List Rat)) × Int) (List (List Rat)))
  | 0, _, _ => none
  | k + 1, x18, x24 => bif (decide (x24 < (a1.length : Int))) then ((rdL a1 x24).bind fun v37 => (F_energy_within K v37.j (a0.length : Int)).bind fun v40 => bif (!v40) then (some (.ret ([], 1))) else ((F_energy_within K v37.t (a0.length : Int)).bind fun v43 => bif (!v43) then (some (.ret ([], 1))) else ((F_energy_Kept_1 K (a0.length : Int) x18 v37.j).bind fun v46 => bif (decide (0 < (v37.t.length : Int))) then ((F_energy_Kept_1 K (a0.length : Int) v46 v37.t).bind fun v55 => (chk (x24 + 1)).bind fun v63 => F_energy_Kept_l31 K a0 a1 k v55 v63) else ((chk (x24 + 1)).bind fun v65 => F_energy_Kept_l31 K a0 a1 k v46 v65)))) else (some (.go x18))
def F_energy_Kept (K : Nat) (a0 : List api_Dof) (a1 : List api_Row) : Option ((List (List Rat)) × Int) :=
  (mkL (a0.length : Int) 0).bind fun x2 => (F_energy_Kept_l31 K a0 a1 K [x2] 0).bind fun o => match o with | .ret r => some r | .go x25 => F_energy_Kept_j32 K x25
set_option maxRecDepth 100000 in
theorem ct_energy_Kept {K : Nat} {a0 : List api_Dof} {a1 : List api_Row} {r : (List (List Rat)) × Int} (hF : F_energy_Kept K a0 a1 = some r) : Ct Tryz.prog 18 [.vc (pS api_Dof.cod a0), .vc (pS api_Row.cod a1)] (.t2 (.vc (pS (cSl cQ) r.1)) (.vc (pI .i64 r.2))) := by
  unfold F_energy_Kept at hF
  refine ctO_intro Tryz.func18 rfl (by kernel_rfl) Tryz.ntmps18 rfl (fun w0 M0 => ?_)
  refine r_seq (r_reg (r_op (t_mv (.inr rfl)) ⟨k_nil (cSl cQ), trivial⟩ ?_))
  refine r_op (t_mv (.inr rfl)) ⟨k_I _ _, trivial⟩ ?_
  refine r_nil (r_next (r_seq (r_reg (r_mv ?_))))
  refine r_op (t_ln rfl tyS23) ⟨rfl, trivial⟩ ?_
  refine r_alloc rfl tyZ3q (fun b1 => ?_)
  refine r_op0 (t_s 0 rfl rfl rfl tyO3.s) ⟨rfl, rfl, trivial⟩ ?_
  refine r_nil (r_next (r_seq (r_reg (r_op (t_l 0 1 rfl rfl rfl rfl (.one tyO3)) ⟨rfl, trivial⟩ ?_))))
  obtain ⟨x2, h3, hF⟩ := bnd hF
  refine r_make (C := cQ) rfl tyS24 rfl tyZ35q rfl h3 (fun b4 => ?_)
  refine r_fzL 0 [14] rfl rfl ⟨rfl, trivial⟩ rfl ?_
  refine r_hv (hv_bs (C := (cSl cQ)) (xs := [.tmp 14]) (ps := [.vc (pS cQ x2)]) (zs := [x2]) rfl tyS47 rfl ⟨⟨trivial, rfl⟩, trivial⟩ rfl) ⟨rfl, trivial⟩ (fun b7 _ => ?_)
  refine r_alloc rfl tyZ47q (fun b10 => ?_)
  refine r_op0 (t_s 0 rfl rfl rfl tyO47.s) ⟨rfl, rfl, trivial⟩ ?_
  refine r_nil (r_next (r_seq (r_reg (r_fvL 2 [(6, 0)] rfl ⟨rfl, trivial⟩ rfl ?_))))
  refine r_op (t_fn (xs := [.tmp 6, .tmp 7]) (cs := [pM (cI.e (a0.length : Int)), pP (some b10) 0]) rfl rfl) ⟨rfl, rfl, trivial⟩ ?_
  refine r_as ?_
  refine r_nil (r_next (r_seq (r_seq (r_reg (r_mv ?_)))))
  refine r_op (t_ln rfl tyS25) ⟨rfl, trivial⟩ ?_
  refine r_op (t_mv (.inl rfl)) ⟨k_I _ _, trivial⟩ ?_
  refine r_nil (r_next (r_blk (r_cutN (fun H E => ∃ (x25 : List (List Rat)), ∃ (b26 : Option Nat), ∃ (c27 : Nat), ∃ (n28 : Nat), F_energy_Kept_j32 K x25 = some r ∧ x25.length = n28 ∧ H = [⟨some b10, 1, 47, 1, 1, [pO b26 n28 c27]⟩, hO (cSl cQ) b26 c27 24 n28 x25] ∧ E = [(7, .vc (pP (some b10) 0))]) ?_ (fun Jj32 => ?_))))
  · rintro _ _ ⟨x25, b26, c27, n28, hF, q29, rfl, rfl⟩
    unfold F_energy_Kept_j32 at hF
    refine r_next (r_seq (r_seq (r_reg (r_op (t_l 0 1 rfl rfl rfl rfl (.one tyO47)) ⟨rfl, trivial⟩ ?_))))
    refine r_op (t_lnE (C := (cSl cQ)) (xs := x25) (T := 24) rfl tyS47 q29) ⟨rfl, trivial⟩ ?_
    refine r_op (t_gt rfl) ⟨rfl, k_I _ _, trivial⟩ ?_
    refine r_nil (r_next (r_if rfl (fun h33 => ?_) (fun h33 => ?_)))
    · have hF := cnd_t h33 hF
      refine r_seq (r_reg (r_op (t_mv (.inr rfl)) ⟨k_nil (cSl cQ), trivial⟩ ?_))
      refine r_op (t_mv (.inr rfl)) ⟨k_I _ _, trivial⟩ ?_
      refine r_nil (r_next (r_ret (r_toR ?_)))
      obtain rfl := sm1 hF
      exact r_done1 (.inl rfl) Tryz.results18 (.tmp rfl (.tmp rfl .nil)) rfl rfl
    · have hF := cnd_f h33 hF
      refine r_skip (r_next (r_seq (r_reg (r_op (t_l 0 1 rfl rfl rfl rfl (.one tyO47)) ⟨rfl, trivial⟩ ?_))))
      refine r_fzL 1 [48, 51] rfl q29 ⟨rfl, rfl, trivial⟩ rfl ?_
      obtain ⟨v34, h35, hF⟩ := bnd hF
      refine r_op (t_call rfl (ct_matrix_Kernel h35) rfl) ⟨rfl, trivial⟩ ?_
      refine r_op (t_ext2a rfl) ⟨rfl, trivial⟩ ?_
      refine r_op (t_ext2b rfl) ⟨rfl, trivial⟩ ?_
      refine r_as ?_
      refine r_as ?_
      refine r_nil (r_next (r_ret (r_toR ?_)))
      obtain rfl := sm1 hF
      exact r_done1 (.inl rfl) Tryz.results18 (.tmp rfl (.tmp rfl .nil)) rfl rfl
  · skip
    obtain ⟨ol31, hL, hRl31⟩ := bnd hF
    refine r_lp (fun k a w => ∃ (x18 : List (List Rat)), ∃ (x24 : Int), ∃ (b19 : Option Nat), ∃ (c20 : Nat), ∃ (n21 : Nat), F_energy_Kept_l31 K a0 a1 k x18 x24 = some ol31 ∧ x18.length = n21 ∧ hs _ [⟨some b10, 1, 47, 1, 1, [pO b19 n21 c20]⟩, hO (cSl cQ) b19 c20 24 n21 x18] [(6, .vc (pM (cI.e (a0.length : Int)))), (7, .vc (pP (some b10) 0)), (8, .vc (pF 77 [pM (cI.e (a0.length : Int)), pP (some b10) 0])), (17, .vc (pS api_Row.cod a1)), (18, .vc (pI .i64 (a1.length : Int))), (19, .vc (pI .i64 x24))] a w) K (fun a w ⟨_, _, _, _, _, hF, _, _⟩ => by cases hF) (fun k a w ⟨x18, x24, b19, c20, n21, hF, q22, hh⟩ => r_at ?_ hh) (fun a w hh => ⟨[x2], 0, b7, 1, 1, hL, rfl, hs_back [0, 1] rfl (by decide) (by exact ⟨rfl, rfl, rfl, rfl, rfl, rfl, trivial⟩) hh⟩)
    rw [F_energy_Kept_l31.eq_2] at hF
    refine r_seq (r_reg (r_op (t_lt rfl) ⟨rfl, rfl, trivial⟩ ?_))
    refine r_nil (r_next (r_seq (r_if rfl (fun h36 => ?_) (fun h36 => ?_))))
    · have hF := cnd_t h36 hF
      refine r_skip (r_next (r_seq (r_blk (r_seq (r_reg ?_)))))
      obtain ⟨v37, h38, hF⟩ := bnd hF
      refine r_op (t_ix rfl tyS25 h38) ⟨rfl, rfl, trivial⟩ ?_
      refine r_op (t_lM 18 rfl rfl (.agg tyA40)) ⟨rfl, trivial⟩ ?_
      refine r_alloc rfl tyZ40q (fun b39 => ?_)
      refine r_op0 (t_s 0 rfl rfl rfl tyA40.s) ⟨rfl, rfl, trivial⟩ ?_
      refine r_nil (r_next (r_seq (r_seq (r_reg (r_op (t_fa (off := 0) (k := 8) rfl tyF40_5) ⟨rfl, trivial⟩ ?_)))))
      refine r_op (t_l 0 1 rfl rfl rfl rfl (.one tyO29)) ⟨rfl, trivial⟩ ?_
      refine r_op (t_lM 1 rfl rfl (.one tyO3)) ⟨rfl, trivial⟩ ?_
      obtain ⟨v40, h41, hF⟩ := bnd hF
      refine r_op (t_call rfl (ct_energy_within h41) rfl) ⟨rfl, rfl, trivial⟩ ?_
      refine r_op (t_not rfl) ⟨rfl, trivial⟩ ?_
      refine r_mv ?_
      refine r_bool (fun h42 => ?_) (fun h42 => ?_)
      · have hF := cnd_t h42 hF
        refine r_opn ?_
        refine r_opn ?_
        refine r_opn ?_
        refine r_opn ?_
        refine r_opn ?_
        refine r_op (t_pickT rfl) ⟨rfl, k_B _, trivial⟩ ?_
        refine r_nil (r_next (r_ifT rfl ?_))
        refine r_seq (r_reg (r_op (t_mv (.inr rfl)) ⟨k_nil (cSl cQ), trivial⟩ ?_))
        refine r_op (t_mv (.inr rfl)) ⟨k_I _ _, trivial⟩ ?_
        refine r_nil (r_next (r_ret (r_toR ?_)))
        obtain rfl := sm1 hF
        obtain rfl := sm1 hRl31
        exact r_done1 (.inl rfl) Tryz.results18 (.tmp rfl (.tmp rfl .nil)) rfl rfl
      · have hF := cnd_f h42 hF
        refine r_opg (t_fa (off := 0) (k := 9) rfl tyF40_6) ⟨rfl, trivial⟩ ?_
        refine r_opg (t_l 0 1 rfl rfl rfl rfl (.one tyO29)) ⟨rfl, trivial⟩ ?_
        refine r_opg (t_lM 1 rfl rfl (.one tyO3)) ⟨rfl, trivial⟩ ?_
        obtain ⟨v43, h44, hF⟩ := bnd hF
        refine r_opg (t_call rfl (ct_energy_within h44) rfl) ⟨rfl, rfl, trivial⟩ ?_
        refine r_opg (t_not rfl) ⟨rfl, trivial⟩ ?_
        refine r_op (t_pickF rfl) ⟨rfl, rfl, trivial⟩ ?_
        refine r_nil (r_next (r_if rfl (fun h45 => ?_) (fun h45 => ?_)))
        · have hF := cnd_t h45 hF
          refine r_seq (r_reg (r_op (t_mv (.inr rfl)) ⟨k_nil (cSl cQ), trivial⟩ ?_))
          refine r_op (t_mv (.inr rfl)) ⟨k_I _ _, trivial⟩ ?_
          refine r_nil (r_next (r_ret (r_toR ?_)))
          obtain rfl := sm1 hF
          obtain rfl := sm1 hRl31
          exact r_done1 (.inl rfl) Tryz.results18 (.tmp rfl (.tmp rfl .nil)) rfl rfl
        · have hF := cnd_f h45 hF
          refine r_skip (r_next (r_seq (r_reg (r_mv ?_))))
          refine r_op (t_fa (off := 0) (k := 8) rfl tyF40_5) ⟨rfl, trivial⟩ ?_
          refine r_op (t_l 0 1 rfl rfl rfl rfl (.one tyO29)) ⟨rfl, trivial⟩ ?_
          obtain ⟨v46, h47, hF⟩ := bnd hF
          refine r_callvO (f := 77) (cs := [pM (cI.e (a0.length : Int)), pP (some b10) 0]) (pre := [.vc (pS api_Term.cod v37.j)]) (xs := [.tmp 37]) [1, 2] [0] rfl (ctO_energy_Kept_1 h47 q22) ⟨rfl, rfl, trivial⟩ rfl rfl (by decide) ?_
          rintro _ _ ⟨b50, c51, n49, q52, rfl, rfl⟩
          refine r_nil (r_next (r_seq (r_reg (r_op (t_fa (off := 0) (k := 9) rfl tyF40_6) ⟨rfl, trivial⟩ ?_))))
          refine r_op (t_l 2 1 rfl rfl rfl rfl (.one tyO29)) ⟨rfl, trivial⟩ ?_
          refine r_op (t_ln rfl tyS29) ⟨rfl, trivial⟩ ?_
          refine r_op (t_gt rfl) ⟨rfl, k_I _ _, trivial⟩ ?_
          refine r_nil (r_next (r_if rfl (fun h54 => ?_) (fun h54 => ?_)))
          · have hF := cnd_t h54 hF
            refine r_reg (r_mv ?_)
            refine r_op (t_fa (off := 0) (k := 9) rfl tyF40_6) ⟨rfl, trivial⟩ ?_
            refine r_op (t_l 2 1 rfl rfl rfl rfl (.one tyO29)) ⟨rfl, trivial⟩ ?_
            obtain ⟨v55, h56, hF⟩ := bnd hF
            refine r_callvO (f := 77) (cs := [pM (cI.e (a0.length : Int)), pP (some b10) 0]) (pre := [.vc (pS api_Term.cod v37.t)]) (xs := [.tmp 45]) [0, 1] [2] rfl (ctO_energy_Kept_1 h56 q52) ⟨rfl, rfl, trivial⟩ rfl rfl (by decide) ?_
            rintro _ _ ⟨b59, c60, n58, q61, rfl, rfl⟩
            refine r_nil (r_blkN (r_next (r_reg ?_)))
            obtain ⟨v63, h64, hF⟩ := bnd hF
            refine r_op (t_add rfl h64) ⟨rfl, k_I _ _, trivial⟩ ?_
            refine r_mv ?_
            refine r_nil ?_
            exact r_round (fun a w hh => ⟨v55, v63, b59, c60, n58, hF, q61, hs_back [0, 1] rfl (by decide) (by exact ⟨rfl, rfl, rfl, rfl, rfl, rfl, trivial⟩) hh⟩)
          · have hF := cnd_f h54 hF
            refine r_skip (r_blkN (r_next (r_reg ?_)))
            obtain ⟨v65, h66, hF⟩ := bnd hF
            refine r_op (t_add rfl h66) ⟨rfl, k_I _ _, trivial⟩ ?_
            refine r_mv ?_
            refine r_nil ?_
            exact r_round (fun a w hh => ⟨v46, v65, b50, c51, n49, hF, q52, hs_back [0, 1] rfl (by decide) (by exact ⟨rfl, rfl, rfl, rfl, rfl, rfl, trivial⟩) hh⟩)
    · have hF := cnd_f h36 hF
      refine r_brk ?_
      obtain rfl := sm1 hF
      exact r_backJ Jj32 ⟨x18, b19, c20, n21, hRl31, q22, rfl, rfl⟩ [0, 1] rfl ⟨rfl, trivial⟩

abbrev N_gantryref09_Cols : Nat := 102
def F_gantryref09_Cols (a0 : List (List Rat)) : Option Int :=
  bif ((a0.length : Int) == 0) then (some 0) else ((rdL a0 0).bind fun v2 => some (v2.length : Int))
set_option maxRecDepth 100000 in
theorem ct_gantryref09_Cols {a0 : List (List Rat)} {r : Int} (hF : F_gantryref09_Cols a0 = some r) : Ct Tryz.prog 102 [.vc (pS (cSl cQ) a0)] (.vc (pI .i64 r)) := by
  unfold F_gantryref09_Cols at hF
  refine ctO_intro Tryz.func102 rfl (by kernel_rfl) Tryz.ntmps102 rfl (fun w0 M0 => ?_)
  refine r_seq (r_reg (r_op (t_mv (.inr rfl)) ⟨k_I _ _, trivial⟩ ?_))
  refine r_nil (r_next (r_seq (r_seq (r_reg (r_mv ?_)))))
  refine r_op (t_ln rfl tyS47) ⟨rfl, trivial⟩ ?_
  refine r_op (t_eq rfl) ⟨rfl, k_I _ _, trivial⟩ ?_
  refine r_nil (r_next (r_if rfl (fun h1 => ?_) (fun h1 => ?_)))
  · have hF := cnd_t h1 hF
    refine r_seq (r_reg (r_op (t_mv (.inr rfl)) ⟨k_I _ _, trivial⟩ ?_))
    refine r_nil (r_next (r_ret (r_toR ?_)))
    obtain rfl := sm1 hF
    exact r_done1 (.inl rfl) Tryz.results102 (.tmp rfl .nil) rfl rfl
  · have hF := cnd_f h1 hF
    refine r_skip (r_next (r_seq (r_reg (r_mv ?_))))
    obtain ⟨v2, h3, hF⟩ := bnd hF
    refine r_op (t_ix rfl tyS47 h3) ⟨rfl, k_I _ _, trivial⟩ ?_
    refine r_op (t_lM 1 rfl rfl (.one tyO24)) ⟨rfl, trivial⟩ ?_
    refine r_op (t_ln rfl tyS24) ⟨rfl, trivial⟩ ?_
    refine r_as ?_
    refine r_nil (r_next (r_ret (r_toR ?_)))
    obtain rfl := sm1 hF
    exact r_done1 (.inl rfl) Tryz.results102 (.tmp rfl .nil) rfl rfl

abbrev N_gantryref09_less : Nat := 97
def F_gantryref09_less_j25 (K : Nat) (x18 : List Rat) : Option (List Rat) :=
  some x18
def F_gantryref09_less_l24 (K : Nat) (a0 : List Rat) (a1 : List Rat) (a2 : Rat) : Nat → (List Rat) → Int → Option (List Rat)
  | 0, _, _ => none
  | k + 1, x11, x17 => bif (decide (x17 < (a0.length : Int))) then ((rdL a0 x17).bind fun v29 => (rdL a1 x17).bind fun v31 => (qmul a2 v31).bind fun v33 => (qsub v29 v33).bind fun v35 => (apL x11 [v35]).bind fun x37 => (chk (x17 + 1)).bind fun v44 => F_gantryref09_less_l24 K a0 a1 a2 k x37 v44) else (some x11)
def F_gantryref09_less (K : Nat) (a0 : List Rat) (a1 : List Rat) (a2 : Rat) : Option (List Rat) :=
  (F_gantryref09_less_l24 K a0 a1 a2 K ([] : List Rat) 0).bind fun x18 => F_gantryref09_less_j25 K x18
set_option maxRecDepth 100000 in
theorem ct_gantryref09_less {K : Nat} {a0 : List Rat} {a1 : List Rat} {a2 : Rat} {r : List Rat} (hF : F_gantryref09_less K a0 a1 a2 = some r) : Ct Tryz.prog 97 [.vc (pS cQ a0), .vc (pS cQ a1), .va (eQ a2)] (.vc (pS cQ r)) := by
  unfold F_gantryref09_less at hF
  refine ctO_intro Tryz.func97 rfl (by kernel_rfl) Tryz.ntmps97 rfl (fun w0 M0 => ?_)
  refine r_seq (r_reg (r_box rfl rfl trivial (fun b1 => ?_)))
  refine r_op (t_mv (.inr rfl)) ⟨k_nil cQ, trivial⟩ ?_
  refine r_nil (r_next (r_seq (r_reg (r_nilO cQ 35 rfl ?_))))
  refine r_nil (r_next (r_seq (r_seq (r_reg (r_op (t_mv (.inr rfl)) ⟨k_I _ _, trivial⟩ ?_)))))
  refine r_nil (r_next (r_blk (r_cutN (fun H E => ∃ (x18 : List Rat), ∃ (b19 : Option Nat), ∃ (c20 : Nat), ∃ (n21 : Nat), F_gantryref09_less_j25 K x18 = some r ∧ x18.length = n21 ∧ H = [hO cQ b19 c20 35 n21 x18] ∧ E = [(7, .vc (pO b19 n21 c20))]) ?_ (fun Jj25 => ?_))))
  · rintro _ _ ⟨x18, b19, c20, n21, hF, q22, rfl, rfl⟩
    unfold F_gantryref09_less_j25 at hF
    refine r_next (r_seq (r_reg (r_mv ?_)))
    refine r_as ?_
    refine r_nil (r_next (r_ret (r_toR (r_fzX 0 [6, 7, 29] rfl q22 ⟨rfl, rfl, rfl, trivial⟩ rfl ?_))))
    obtain rfl := sm1 hF
    exact r_done1 (.inl rfl) Tryz.results97 (.tmp rfl .nil) rfl rfl
  · skip
    obtain ⟨x18', hL, hRl24⟩ := bnd hF
    refine r_lp (fun k a w => ∃ (x11 : List Rat), ∃ (x17 : Int), ∃ (b12 : Option Nat), ∃ (c13 : Nat), ∃ (n14 : Nat), F_gantryref09_less_l24 K a0 a1 a2 k x11 x17 = some x18' ∧ x11.length = n14 ∧ hs _ [hO cQ b12 c13 35 n14 x11, ⟨some b1, 1, 35, 4, 1, (eQ a2)⟩] [(0, .vc (pS cQ a0)), (1, .vc (pS cQ a1)), (5, .vc (pP (some b1) 0)), (7, .vc (pO b12 n14 c13)), (8, .vc (pI .i64 x17))] a w) K (fun a w ⟨_, _, _, _, _, hF, _, _⟩ => by cases hF) (fun k a w ⟨x11, x17, b12, c13, n14, hF, q15, hh⟩ => r_at ?_ hh) (fun a w hh => ⟨([] : List Rat), 0, none, 0, 0, hL, rfl, hs_back [0, 1] rfl (by decide) (by exact ⟨rfl, rfl, rfl, rfl, rfl, trivial⟩) hh⟩)
    rw [F_gantryref09_less_l24.eq_2] at hF
    refine r_seq (r_seq (r_reg (r_mv ?_)))
    refine r_mv ?_
    refine r_op (t_ln rfl tyS24) ⟨rfl, trivial⟩ ?_
    refine r_op (t_lt rfl) ⟨rfl, rfl, trivial⟩ ?_
    refine r_nil (r_next (r_if rfl (fun h26 => ?_) (fun h26 => ?_)))
    · have hF := cnd_t h26 hF
      refine r_skip (r_next (r_seq (r_blk ?_)))
      obtain ⟨v29, h30, hF⟩ := bnd hF
      obtain ⟨v31, h32, hF⟩ := bnd hF
      obtain ⟨v33, h34, hF⟩ := bnd hF
      obtain ⟨v35, h36, hF⟩ := bnd hF
      refine r_draw [0, 0, 0, 6, 14, 0, 0, 0, 192, 448, 992, 2046, 4094, 8191, 16383] 13 2 [.v (.vc (pO b12 n14 c13)), .v (.vc (pS cQ a0)), .v (.vc (pI .i64 x17)), .v (.vc (pM (cQ.e v29))), .v (.va (eQ v29)), .v (.va (eQ a2)), .v (.vc (pS cQ a1)), .v (.vc (pI .i64 x17)), .v (.vc (pM (cQ.e v31))), .v (.va (eQ v31)), .v (.va (eQ v33)), .v (.va (eQ v35)), .v (.vc (pS cQ [v35]))] Tryz_mixed ⟨⟨rfl, .run (lo := 0) (n := 1) ⟨fun G27 A => t_mv (.inl rfl), trivial⟩ (fun G27 => ⟨rfl, trivial⟩)⟩, ⟨rfl, .run (lo := 0) (n := 1) ⟨fun G27 A => t_mv (.inl rfl), trivial⟩ (fun G27 => ⟨rfl, trivial⟩)⟩, ⟨rfl, .run (lo := 0) (n := 1) ⟨fun G27 A => t_mv (.inl rfl), trivial⟩ (fun G27 => ⟨rfl, trivial⟩)⟩, ⟨rfl, .run (lo := 0) (n := 1) ⟨fun G27 A => t_ix rfl tyS24 h30, trivial⟩ (fun G27 => ⟨rfl, rfl, trivial⟩)⟩, ⟨rfl, .run (lo := 0) (n := 1) ⟨fun G27 A => t_lM 4 rfl rfl (.agg tyA35), trivial⟩ (fun G27 => ⟨rfl, trivial⟩)⟩, ⟨rfl, .run (lo := 0) (n := 1) ⟨fun G27 A => t_l 1 4 rfl rfl rfl rfl (.agg tyA35), trivial⟩ (fun G27 => ⟨rfl, trivial⟩)⟩, ⟨rfl, .run (lo := 0) (n := 1) ⟨fun G27 A => t_mv (.inl rfl), trivial⟩ (fun G27 => ⟨rfl, trivial⟩)⟩, ⟨rfl, .run (lo := 0) (n := 1) ⟨fun G27 A => t_mv (.inl rfl), trivial⟩ (fun G27 => ⟨rfl, trivial⟩)⟩, ⟨rfl, .run (lo := 0) (n := 1) ⟨fun G27 A => t_ix rfl tyS24 h32, trivial⟩ (fun G27 => ⟨rfl, rfl, trivial⟩)⟩, ⟨rfl, .run (lo := 0) (n := 1) ⟨fun G27 A => t_lM 4 rfl rfl (.agg tyA35), trivial⟩ (fun G27 => ⟨rfl, trivial⟩)⟩, ⟨rfl, .run (lo := 0) (n := 1) ⟨fun G27 A => t_call rfl (qc_gantryref05_Mul h34) rfl, trivial⟩ (fun G27 => ⟨rfl, rfl, trivial⟩)⟩, ⟨rfl, .run (lo := 0) (n := 1) ⟨fun G27 A => t_call rfl (qc_gantryref05_Sub h36) rfl, trivial⟩ (fun G27 => ⟨rfl, rfl, trivial⟩)⟩, ⟨rfl, .run (lo := 0) (n := 1) ⟨fun G27 A => t_bs (C := cQ) (xs := [.tmp 26]) (ps := [.va (eQ v35)]) (zs := [v35]) rfl tyS24 rfl ⟨⟨trivial, rfl⟩, trivial⟩ rfl, trivial⟩ (fun G27 => ⟨rfl, trivial⟩)⟩, trivial⟩ (fun bs28 G27 => ?_)
      obtain ⟨x37, h38, hF⟩ := bnd hF
      refine r_app 0 rfl tyS24 rfl rfl q15 rfl rfl h38 (fun b39 c40 H41 e42 => ?_)
      cases e42
      refine r_as ?_
      refine r_nil (r_blkN (r_next (r_reg (r_mv ?_))))
      obtain ⟨v44, h45, hF⟩ := bnd hF
      refine r_op (t_add rfl h45) ⟨rfl, k_I _ _, trivial⟩ ?_
      refine r_as ?_
      refine r_nil ?_
      exact r_round (fun a w hh => ⟨x37, v44, b39, c40, (n14 + [v35].length), hF, (apL_len h38 q15), hs_back [0, 1] rfl (by decide) (by exact ⟨rfl, rfl, rfl, rfl, rfl, trivial⟩) hh⟩)
    · have hF := cnd_f h26 hF
      refine r_brk ?_
      obtain rfl := sm1 hF
      exact r_backJ Jj25 ⟨x11, b12, c13, n14, hRl24, q15, rfl, rfl⟩ [0] rfl ⟨rfl, trivial⟩

abbrev N_gantryref09_over : Nat := 149
def F_gantryref09_over_j25 (K : Nat) (x18 : List Rat) : Option (List Rat) :=
  some x18
def F_gantryref09_over_l24 (K : Nat) (a0 : List Rat) (a1 : Rat) : Nat → (List Rat) → Int → Option (List Rat)
  | 0, _, _ => none
  | k + 1, x11, x17 => bif (decide (x17 < (a0.length : Int))) then ((rdL a0 x17).bind fun v29 => (qdiv v29 a1).bind fun v31 => (apL x11 [v31]).bind fun x33 => (chk (x17 + 1)).bind fun v40 => F_gantryref09_over_l24 K a0 a1 k x33 v40) else (some x11)
def F_gantryref09_over (K : Nat) (a0 : List Rat) (a1 : Rat) : Option (List Rat) :=
  (F_gantryref09_over_l24 K a0 a1 K ([] : List Rat) 0).bind fun x18 => F_gantryref09_over_j25 K x18
set_option maxRecDepth 100000 in
theorem ct_gantryref09_over {K : Nat} {a0 : List Rat} {a1 : Rat} {r : List Rat} (hF : F_gantryref09_over K a0 a1 = some r) : Ct Tryz.prog 149 [.vc (pS cQ a0), .va (eQ a1)] (.vc (pS cQ r)) := by
  unfold F_gantryref09_over at hF
  refine ctO_intro Tryz.func149 rfl (by kernel_rfl) Tryz.ntmps149 rfl (fun w0 M0 => ?_)
  refine r_seq (r_reg (r_box rfl rfl trivial (fun b1 => ?_)))
  refine r_op (t_mv (.inr rfl)) ⟨k_nil cQ, trivial⟩ ?_
  refine r_nil (r_next (r_seq (r_reg (r_nilO cQ 35 rfl ?_))))
  refine r_nil (r_next (r_seq (r_seq (r_reg (r_op (t_mv (.inr rfl)) ⟨k_I _ _, trivial⟩ ?_)))))
  refine r_nil (r_next (r_blk (r_cutN (fun H E => ∃ (x18 : List Rat), ∃ (b19 : Option Nat), ∃ (c20 : Nat), ∃ (n21 : Nat), F_gantryref09_over_j25 K x18 = some r ∧ x18.length = n21 ∧ H = [hO cQ b19 c20 35 n21 x18] ∧ E = [(5, .vc (pO b19 n21 c20))]) ?_ (fun Jj25 => ?_))))
  · rintro _ _ ⟨x18, b19, c20, n21, hF, q22, rfl, rfl⟩
    unfold F_gantryref09_over_j25 at hF
    refine r_next (r_seq (r_reg (r_mv ?_)))
    refine r_as ?_
    refine r_nil (r_next (r_ret (r_toR (r_fzX 0 [4, 5, 22] rfl q22 ⟨rfl, rfl, rfl, trivial⟩ rfl ?_))))
    obtain rfl := sm1 hF
    exact r_done1 (.inl rfl) Tryz.results149 (.tmp rfl .nil) rfl rfl
  · skip
    obtain ⟨x18', hL, hRl24⟩ := bnd hF
    refine r_lp (fun k a w => ∃ (x11 : List Rat), ∃ (x17 : Int), ∃ (b12 : Option Nat), ∃ (c13 : Nat), ∃ (n14 : Nat), F_gantryref09_over_l24 K a0 a1 k x11 x17 = some x18' ∧ x11.length = n14 ∧ hs _ [hO cQ b12 c13 35 n14 x11, ⟨some b1, 1, 35, 4, 1, (eQ a1)⟩] [(0, .vc (pS cQ a0)), (3, .vc (pP (some b1) 0)), (5, .vc (pO b12 n14 c13)), (6, .vc (pI .i64 x17))] a w) K (fun a w ⟨_, _, _, _, _, hF, _, _⟩ => by cases hF) (fun k a w ⟨x11, x17, b12, c13, n14, hF, q15, hh⟩ => r_at ?_ hh) (fun a w hh => ⟨([] : List Rat), 0, none, 0, 0, hL, rfl, hs_back [0, 1] rfl (by decide) (by exact ⟨rfl, rfl, rfl, rfl, trivial⟩) hh⟩)
    rw [F_gantryref09_over_l24.eq_2] at hF
    refine r_seq (r_seq (r_reg (r_mv ?_)))
    refine r_mv ?_
    refine r_op (t_ln rfl tyS24) ⟨rfl, trivial⟩ ?_
    refine r_op (t_lt rfl) ⟨rfl, rfl, trivial⟩ ?_
    refine r_nil (r_next (r_if rfl (fun h26 => ?_) (fun h26 => ?_)))
    · have hF := cnd_t h26 hF
      refine r_skip (r_next (r_seq (r_blk ?_)))
      obtain ⟨v29, h30, hF⟩ := bnd hF
      obtain ⟨v31, h32, hF⟩ := bnd hF
      refine r_draw [0, 0, 0, 6, 14, 0, 62, 126, 255, 511] 8 2 [.v (.vc (pO b12 n14 c13)), .v (.vc (pS cQ a0)), .v (.vc (pI .i64 x17)), .v (.vc (pM (cQ.e v29))), .v (.va (eQ v29)), .v (.va (eQ a1)), .v (.va (eQ v31)), .v (.vc (pS cQ [v31]))] Tryz_mixed ⟨⟨rfl, .run (lo := 0) (n := 1) ⟨fun G27 A => t_mv (.inl rfl), trivial⟩ (fun G27 => ⟨rfl, trivial⟩)⟩, ⟨rfl, .run (lo := 0) (n := 1) ⟨fun G27 A => t_mv (.inl rfl), trivial⟩ (fun G27 => ⟨rfl, trivial⟩)⟩, ⟨rfl, .run (lo := 0) (n := 1) ⟨fun G27 A => t_mv (.inl rfl), trivial⟩ (fun G27 => ⟨rfl, trivial⟩)⟩, ⟨rfl, .run (lo := 0) (n := 1) ⟨fun G27 A => t_ix rfl tyS24 h30, trivial⟩ (fun G27 => ⟨rfl, rfl, trivial⟩)⟩, ⟨rfl, .run (lo := 0) (n := 1) ⟨fun G27 A => t_lM 4 rfl rfl (.agg tyA35), trivial⟩ (fun G27 => ⟨rfl, trivial⟩)⟩, ⟨rfl, .run (lo := 0) (n := 1) ⟨fun G27 A => t_l 1 4 rfl rfl rfl rfl (.agg tyA35), trivial⟩ (fun G27 => ⟨rfl, trivial⟩)⟩, ⟨rfl, .run (lo := 0) (n := 1) ⟨fun G27 A => t_call rfl (qc_gantryref05_Div h32) rfl, trivial⟩ (fun G27 => ⟨rfl, rfl, trivial⟩)⟩, ⟨rfl, .run (lo := 0) (n := 1) ⟨fun G27 A => t_bs (C := cQ) (xs := [.tmp 19]) (ps := [.va (eQ v31)]) (zs := [v31]) rfl tyS24 rfl ⟨⟨trivial, rfl⟩, trivial⟩ rfl, trivial⟩ (fun G27 => ⟨rfl, trivial⟩)⟩, trivial⟩ (fun bs28 G27 => ?_)
      obtain ⟨x33, h34, hF⟩ := bnd hF
      refine r_app 0 rfl tyS24 rfl rfl q15 rfl rfl h34 (fun b35 c36 H37 e38 => ?_)
      cases e38
      refine r_as ?_
      refine r_nil (r_blkN (r_next (r_reg (r_mv ?_))))
      obtain ⟨v40, h41, hF⟩ := bnd hF
      refine r_op (t_add rfl h41) ⟨rfl, k_I _ _, trivial⟩ ?_
      refine r_as ?_
      refine r_nil ?_
      exact r_round (fun a w hh => ⟨x33, v40, b35, c36, (n14 + [v31].length), hF, (apL_len h34 q15), hs_back [0, 1] rfl (by decide) (by exact ⟨rfl, rfl, rfl, rfl, trivial⟩) hh⟩)
    · have hF := cnd_f h26 hF
      refine r_brk ?_
      obtain rfl := sm1 hF
      exact r_backJ Jj25 ⟨x11, b12, c13, n14, hRl24, q15, rfl, rfl⟩ [0] rfl ⟨rfl, trivial⟩

end Go.Proofs.YtkjnngaceacmdaaGreat
