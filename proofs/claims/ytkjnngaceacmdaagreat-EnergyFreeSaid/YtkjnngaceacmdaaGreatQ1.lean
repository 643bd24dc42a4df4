import Derived.Test.YtkjnngaceacmdaaGreatPR
set_option linter.unusedVariables false
namespace Go.Proofs.YtkjnngaceacmdaaGreat
structure St103 where
  n : Int
  of : (Int → Option Rat)
noncomputable def St103.enc (x : St103) : List CP := [pI .i64 x.n] ++ [pFn Tryz.prog (fun x : Int => [.vc (pI .i64 x)]) (fun r : Rat => .va (eQ r)) x.of]
noncomputable def St103.cod : Cd St103 := ⟨2, St103.enc, fun _ => rfl⟩
structure St109 where
  x : Int
  y : Int
noncomputable def St109.enc (x : St109) : List CP := [pI .i64 x.x] ++ [pI .i64 x.y]
noncomputable def St109.cod : Cd St109 := ⟨2, St109.enc, fun _ => rfl⟩
structure St112 where
  x : Rat
  y : Rat
noncomputable def St112.enc (x : St112) : List CP := (eQ x.x) ++ (eQ x.y)
noncomputable def St112.cod : Cd St112 := ⟨8, St112.enc, fun _ => rfl⟩
structure api_Point where
  x : Int
  y : Int
noncomputable def api_Point.enc (x : api_Point) : List CP := [pI .i64 x.x] ++ [pI .i64 x.y]
noncomputable def api_Point.cod : Cd api_Point := ⟨2, api_Point.enc, fun _ => rfl⟩
structure api_Vec where
  x : Rat
  y : Rat
noncomputable def api_Vec.enc (x : api_Vec) : List CP := (eQ x.x) ++ (eQ x.y)
noncomputable def api_Vec.cod : Cd api_Vec := ⟨8, api_Vec.enc, fun _ => rfl⟩
structure api_Column where
  dof : Int
  x : Rat
  y : Rat
  s : Rat
noncomputable def api_Column.enc (x : api_Column) : List CP := [pI .i64 x.dof] ++ (eQ x.x) ++ (eQ x.y) ++ (eQ x.s)
noncomputable def api_Column.cod : Cd api_Column := ⟨13, api_Column.enc, fun _ => rfl⟩
structure St115 where
  shape : List api_Point
  home : api_Vec
  cols : List api_Column
  rough : Rat
  bounce : Rat
noncomputable def St115.enc (x : St115) : List CP := [pS api_Point.cod x.shape] ++ (api_Vec.enc x.home) ++ [pS api_Column.cod x.cols] ++ (eQ x.rough) ++ (eQ x.bounce)
noncomputable def St115.cod : Cd St115 := ⟨18, St115.enc, fun _ => rfl⟩
structure St121 where
  x : Int
  y : Int
  h : Int
noncomputable def St121.enc (x : St121) : List CP := [pI .i64 x.x] ++ [pI .i64 x.y] ++ [pI .i64 x.h]
noncomputable def St121.cod : Cd St121 := ⟨3, St121.enc, fun _ => rfl⟩
structure api_Dir where
  x : Int
  y : Int
  h : Int
noncomputable def api_Dir.enc (x : api_Dir) : List CP := [pI .i64 x.x] ++ [pI .i64 x.y] ++ [pI .i64 x.h]
noncomputable def api_Dir.cod : Cd api_Dir := ⟨3, api_Dir.enc, fun _ => rfl⟩
structure St124 where
  a : Int
  b : Int
  from' : api_Vec
  to : api_Vec
  dirs : List api_Dir
  length : Rat
noncomputable def St124.enc (x : St124) : List CP := [pI .i64 x.a] ++ [pI .i64 x.b] ++ (api_Vec.enc x.from') ++ (api_Vec.enc x.to) ++ [pS api_Dir.cod x.dirs] ++ (eQ x.length)
noncomputable def St124.cod : Cd St124 := ⟨23, St124.enc, fun _ => rfl⟩
structure St135 where
  rows : List (List Rat)
  pivots : List Int
  det : Rat
noncomputable def St135.enc (x : St135) : List CP := [pS (cSl cQ) x.rows] ++ [pS cI x.pivots] ++ (eQ x.det)
noncomputable def St135.cod : Cd St135 := ⟨6, St135.enc, fun _ => rfl⟩
structure St157 where
  dof : Int
  x : Rat
  y : Rat
  s : Rat
noncomputable def St157.enc (x : St157) : List CP := [pI .i64 x.dof] ++ (eQ x.x) ++ (eQ x.y) ++ (eQ x.s)
noncomputable def St157.cod : Cd St157 := ⟨13, St157.enc, fun _ => rfl⟩
structure St37 where
  dof : Int
  k : Rat
noncomputable def St37.enc (x : St37) : List CP := [pI .i64 x.dof] ++ (eQ x.k)
noncomputable def St37.cod : Cd St37 := ⟨5, St37.enc, fun _ => rfl⟩
structure api_Term where
  dof : Int
  k : Rat
noncomputable def api_Term.enc (x : api_Term) : List CP := [pI .i64 x.dof] ++ (eQ x.k)
noncomputable def api_Term.cod : Cd api_Term := ⟨5, api_Term.enc, fun _ => rfl⟩
structure St39 where
  kind : Int
  a : Int
  b : Int
  edge : Int
  gap : Rat
  j : List api_Term
  t : List api_Term
  mu : Rat
  e : Rat
noncomputable def St39.enc (x : St39) : List CP := [pI .i64 x.kind] ++ [pI .i64 x.a] ++ [pI .i64 x.b] ++ [pI .i64 x.edge] ++ (eQ x.gap) ++ [pS api_Term.cod x.j] ++ [pS api_Term.cod x.t] ++ (eQ x.mu) ++ (eQ x.e)
noncomputable def St39.cod : Cd St39 := ⟨18, St39.enc, fun _ => rfl⟩
structure api_Dof where
  inv : Rat
  load : Rat
  bound : Bool
  lo : Rat
  hi : Rat
noncomputable def api_Dof.enc (x : api_Dof) : List CP := (eQ x.inv) ++ (eQ x.load) ++ [pB x.bound] ++ (eQ x.lo) ++ (eQ x.hi)
noncomputable def api_Dof.cod : Cd api_Dof := ⟨17, api_Dof.enc, fun _ => rfl⟩
structure api_Part where
  shape : List api_Point
  home : api_Vec
  cols : List api_Column
  rough : Rat
  bounce : Rat
noncomputable def api_Part.enc (x : api_Part) : List CP := [pS api_Point.cod x.shape] ++ (api_Vec.enc x.home) ++ [pS api_Column.cod x.cols] ++ (eQ x.rough) ++ (eQ x.bounce)
noncomputable def api_Part.cod : Cd api_Part := ⟨18, api_Part.enc, fun _ => rfl⟩
structure api_Rope where
  a : Int
  b : Int
  from' : api_Vec
  to : api_Vec
  dirs : List api_Dir
  length : Rat
noncomputable def api_Rope.enc (x : api_Rope) : List CP := [pI .i64 x.a] ++ [pI .i64 x.b] ++ (api_Vec.enc x.from') ++ (api_Vec.enc x.to) ++ [pS api_Dir.cod x.dirs] ++ (eQ x.length)
noncomputable def api_Rope.cod : Cd api_Rope := ⟨23, api_Rope.enc, fun _ => rfl⟩
structure St56 where
  dofs : List api_Dof
  parts : List api_Part
  ropes : List api_Rope
  skip : List (Int × Int)
noncomputable def St56.enc (x : St56) : List CP := [pS api_Dof.cod x.dofs] ++ [pS api_Part.cod x.parts] ++ [pS api_Rope.cod x.ropes] ++ [pS cA2 x.skip]
noncomputable def St56.cod : Cd St56 := ⟨4, St56.enc, fun _ => rfl⟩
structure St61 where
  tick : Int
  q : List Rat
  v : List Rat
  here : List Bool
noncomputable def St61.enc (x : St61) : List CP := [pI .i64 x.tick] ++ [pS cQ x.q] ++ [pS cQ x.v] ++ [pS cB x.here]
noncomputable def St61.cod : Cd St61 := ⟨4, St61.enc, fun _ => rfl⟩
structure St65 where
  inv : Rat
  load : Rat
  bound : Bool
  lo : Rat
  hi : Rat
noncomputable def St65.enc (x : St65) : List CP := (eQ x.inv) ++ (eQ x.load) ++ [pB x.bound] ++ (eQ x.lo) ++ (eQ x.hi)
noncomputable def St65.cod : Cd St65 := ⟨17, St65.enc, fun _ => rfl⟩
structure api_Model where
  dofs : List api_Dof
  parts : List api_Part
  ropes : List api_Rope
  skip : List (Int × Int)
noncomputable def api_Model.enc (x : api_Model) : List CP := [pS api_Dof.cod x.dofs] ++ [pS api_Part.cod x.parts] ++ [pS api_Rope.cod x.ropes] ++ [pS cA2 x.skip]
noncomputable def api_Model.cod : Cd api_Model := ⟨4, api_Model.enc, fun _ => rfl⟩
structure api_Row where
  kind : Int
  a : Int
  b : Int
  edge : Int
  gap : Rat
  j : List api_Term
  t : List api_Term
  mu : Rat
  e : Rat
noncomputable def api_Row.enc (x : api_Row) : List CP := [pI .i64 x.kind] ++ [pI .i64 x.a] ++ [pI .i64 x.b] ++ [pI .i64 x.edge] ++ (eQ x.gap) ++ [pS api_Term.cod x.j] ++ [pS api_Term.cod x.t] ++ (eQ x.mu) ++ (eQ x.e)
noncomputable def api_Row.cod : Cd api_Row := ⟨18, api_Row.enc, fun _ => rfl⟩
structure api_State where
  tick : Int
  q : List Rat
  v : List Rat
  here : List Bool
noncomputable def api_State.enc (x : api_State) : List CP := [pI .i64 x.tick] ++ [pS cQ x.q] ++ [pS cQ x.v] ++ [pS cB x.here]
noncomputable def api_State.cod : Cd api_State := ⟨4, api_State.enc, fun _ => rfl⟩
structure energy_account where
  n : Int
  of : (Int → Option Rat)
noncomputable def energy_account.enc (x : energy_account) : List CP := [pI .i64 x.n] ++ [pFn Tryz.prog (fun x : Int => [.vc (pI .i64 x)]) (fun r : Rat => .va (eQ r)) x.of]
noncomputable def energy_account.cod : Cd energy_account := ⟨2, energy_account.enc, fun _ => rfl⟩
structure matrix_form where
  rows : List (List Rat)
  pivots : List Int
  det : Rat
noncomputable def matrix_form.enc (x : matrix_form) : List CP := [pS (cSl cQ) x.rows] ++ [pS cI x.pivots] ++ (eQ x.det)
noncomputable def matrix_form.cod : Cd matrix_form := ⟨6, matrix_form.enc, fun _ => rfl⟩
theorem tyA104 : TyA Tryz.prog 104 2 := mkA Tryz.underlying104 rfl (by kernel_rfl)
theorem tyA116 : TyA Tryz.prog 116 18 := mkA Tryz.underlying116 rfl (by kernel_rfl)
theorem tyA136 : TyA Tryz.prog 136 6 := mkA Tryz.underlying136 rfl (by kernel_rfl)
theorem tyA38 : TyA Tryz.prog 38 5 := mkA Tryz.underlying38 rfl (by kernel_rfl)
theorem tyA40 : TyA Tryz.prog 40 18 := mkA Tryz.underlying40 rfl (by kernel_rfl)
theorem tyA57 : TyA Tryz.prog 57 4 := mkA Tryz.underlying57 rfl (by kernel_rfl)
theorem tyA62 : TyA Tryz.prog 62 4 := mkA Tryz.underlying62 rfl (by kernel_rfl)
theorem tyB104q : TyB Tryz.prog 104 [(0, 1), (1, 1)] ([pI .i64 0] ++ [pFn Tryz.prog (fun x : Int => [.vc (pI .i64 x)]) (fun r : Rat => .va (eQ r)) (fun _ => none)]) := mkB (z := .agg #[.int .i64 0, .nilFunc]) (by kernel_rfl) Tryz.underlying104 (by kernel_rfl) (fun M => All2.app (show All2 M [pI .i64 0] [.int .i64 0] from ⟨rfl, trivial⟩) (show All2 M [pFn Tryz.prog (fun x : Int => [.vc (pI .i64 x)]) (fun r : Rat => .va (eQ r)) (fun _ => none)] [.nilFunc] from ⟨pFn_nil _ _ M, trivial⟩))
theorem tyB110q : TyB Tryz.prog 110 [(0, 1), (1, 1)] ([pI .i64 0] ++ [pI .i64 0]) := mkB (z := .agg #[.int .i64 0, .int .i64 0]) (by kernel_rfl) Tryz.underlying110 (by kernel_rfl) (fun M => All2.app (show All2 M [pI .i64 0] [.int .i64 0] from ⟨rfl, trivial⟩) (show All2 M [pI .i64 0] [.int .i64 0] from ⟨rfl, trivial⟩))
theorem tyB113q : TyB Tryz.prog 113 [(0, 4), (4, 4)] ((eQ 0) ++ (eQ 0)) := mkB (z := .agg #[.bool false, .slice none 0 0, .bool false, .slice none 0 0, .bool false, .slice none 0 0, .bool false, .slice none 0 0]) (by kernel_rfl) Tryz.underlying113 (by kernel_rfl) (fun M => All2.app (eQ0 M) (eQ0 M))
theorem tyB116q : TyB Tryz.prog 116 [(0, 1), (1, 8), (9, 1), (10, 4), (14, 4)] ([pS api_Point.cod ([] : List api_Point)] ++ ((eQ 0) ++ (eQ 0)) ++ [pS api_Column.cod ([] : List api_Column)] ++ (eQ 0) ++ (eQ 0)) := mkB (z := .agg #[.slice none 0 0, .bool false, .slice none 0 0, .bool false, .slice none 0 0, .bool false, .slice none 0 0, .bool false, .slice none 0 0, .slice none 0 0, .bool false, .slice none 0 0, .bool false, .slice none 0 0, .bool false, .slice none 0 0, .bool false, .slice none 0 0]) (by kernel_rfl) Tryz.underlying116 (by kernel_rfl) (fun M => All2.app (All2.app (All2.app (All2.app (show All2 M [pS api_Point.cod ([] : List api_Point)] [.slice none 0 0] from ⟨k_nil api_Point.cod M, trivial⟩) (All2.app (eQ0 M) (eQ0 M))) (show All2 M [pS api_Column.cod ([] : List api_Column)] [.slice none 0 0] from ⟨k_nil api_Column.cod M, trivial⟩)) (eQ0 M)) (eQ0 M))
theorem tyB116_o2q : TyB Tryz.prog 116 [(0, 1), (1, 8), (9, 1), (10, 4), (14, 4)] ([pS api_Point.cod ([] : List api_Point)] ++ ((eQ 0) ++ (eQ 0)) ++ [pO none 0 0] ++ (eQ 0) ++ (eQ 0)) := mkB (z := .agg #[.slice none 0 0, .bool false, .slice none 0 0, .bool false, .slice none 0 0, .bool false, .slice none 0 0, .bool false, .slice none 0 0, .slice none 0 0, .bool false, .slice none 0 0, .bool false, .slice none 0 0, .bool false, .slice none 0 0, .bool false, .slice none 0 0]) (by kernel_rfl) Tryz.underlying116 (by kernel_rfl) (fun M => All2.app (All2.app (All2.app (All2.app (show All2 M [pS api_Point.cod ([] : List api_Point)] [.slice none 0 0] from ⟨k_nil api_Point.cod M, trivial⟩) (All2.app (eQ0 M) (eQ0 M))) (show All2 M [pO none 0 0] [.slice none 0 0] from ⟨.inl rfl, trivial⟩)) (eQ0 M)) (eQ0 M))
theorem tyB122q : TyB Tryz.prog 122 [(0, 1), (1, 1), (2, 1)] ([pI .i64 0] ++ [pI .i64 0] ++ [pI .i64 0]) := mkB (z := .agg #[.int .i64 0, .int .i64 0, .int .i64 0]) (by kernel_rfl) Tryz.underlying122 (by kernel_rfl) (fun M => All2.app (All2.app (show All2 M [pI .i64 0] [.int .i64 0] from ⟨rfl, trivial⟩) (show All2 M [pI .i64 0] [.int .i64 0] from ⟨rfl, trivial⟩)) (show All2 M [pI .i64 0] [.int .i64 0] from ⟨rfl, trivial⟩))
theorem tyB125q : TyB Tryz.prog 125 [(0, 1), (1, 1), (2, 8), (10, 8), (18, 1), (19, 4)] ([pI .i64 0] ++ [pI .i64 0] ++ ((eQ 0) ++ (eQ 0)) ++ ((eQ 0) ++ (eQ 0)) ++ [pS api_Dir.cod ([] : List api_Dir)] ++ (eQ 0)) := mkB (z := .agg #[.int .i64 0, .int .i64 0, .bool false, .slice none 0 0, .bool false, .slice none 0 0, .bool false, .slice none 0 0, .bool false, .slice none 0 0, .bool false, .slice none 0 0, .bool false, .slice none 0 0, .bool false, .slice none 0 0, .bool false, .slice none 0 0, .slice none 0 0, .bool false, .slice none 0 0, .bool false, .slice none 0 0]) (by kernel_rfl) Tryz.underlying125 (by kernel_rfl) (fun M => All2.app (All2.app (All2.app (All2.app (All2.app (show All2 M [pI .i64 0] [.int .i64 0] from ⟨rfl, trivial⟩) (show All2 M [pI .i64 0] [.int .i64 0] from ⟨rfl, trivial⟩)) (All2.app (eQ0 M) (eQ0 M))) (All2.app (eQ0 M) (eQ0 M))) (show All2 M [pS api_Dir.cod ([] : List api_Dir)] [.slice none 0 0] from ⟨k_nil api_Dir.cod M, trivial⟩)) (eQ0 M))
theorem tyB126q : TyB Tryz.prog 126 [(0, 1), (1, 1)] (a2I ((0, 0) : Int × Int)) := mkBA (z := .agg #[.int .i64 0, .int .i64 0]) (k := 1) (by kernel_rfl) Tryz.underlying126 (by kernel_rfl) rfl (fun M => a2I0 M)
theorem tyB136_o0_o1q : TyB Tryz.prog 136 [(0, 1), (1, 1), (2, 4)] ([pO none 0 0] ++ [pO none 0 0] ++ (eQ 0)) := mkB (z := .agg #[.slice none 0 0, .slice none 0 0, .bool false, .slice none 0 0, .bool false, .slice none 0 0]) (by kernel_rfl) Tryz.underlying136 (by kernel_rfl) (fun M => All2.app (All2.app (show All2 M [pO none 0 0] [.slice none 0 0] from ⟨.inl rfl, trivial⟩) (show All2 M [pO none 0 0] [.slice none 0 0] from ⟨.inl rfl, trivial⟩)) (eQ0 M))
theorem tyB158q : TyB Tryz.prog 158 [(0, 1), (1, 4), (5, 4), (9, 4)] ([pI .i64 0] ++ (eQ 0) ++ (eQ 0) ++ (eQ 0)) := mkB (z := .agg #[.int .i64 0, .bool false, .slice none 0 0, .bool false, .slice none 0 0, .bool false, .slice none 0 0, .bool false, .slice none 0 0, .bool false, .slice none 0 0, .bool false, .slice none 0 0]) (by kernel_rfl) Tryz.underlying158 (by kernel_rfl) (fun M => All2.app (All2.app (All2.app (show All2 M [pI .i64 0] [.int .i64 0] from ⟨rfl, trivial⟩) (eQ0 M)) (eQ0 M)) (eQ0 M))
theorem tyB35q : TyB Tryz.prog 35 [(0, 2), (2, 2)] (eQ 0) := mkB (z := .agg #[.bool false, .slice none 0 0, .bool false, .slice none 0 0]) (by kernel_rfl) Tryz.underlying35 (by kernel_rfl) (fun M => eQ0 M)
theorem tyB38q : TyB Tryz.prog 38 [(0, 1), (1, 4)] ([pI .i64 0] ++ (eQ 0)) := mkB (z := .agg #[.int .i64 0, .bool false, .slice none 0 0, .bool false, .slice none 0 0]) (by kernel_rfl) Tryz.underlying38 (by kernel_rfl) (fun M => All2.app (show All2 M [pI .i64 0] [.int .i64 0] from ⟨rfl, trivial⟩) (eQ0 M))
theorem tyB40q : TyB Tryz.prog 40 [(0, 1), (1, 1), (2, 1), (3, 1), (4, 4), (8, 1), (9, 1), (10, 4), (14, 4)] ([pI .i64 0] ++ [pI .i64 0] ++ [pI .i64 0] ++ [pI .i64 0] ++ (eQ 0) ++ [pS api_Term.cod ([] : List api_Term)] ++ [pS api_Term.cod ([] : List api_Term)] ++ (eQ 0) ++ (eQ 0)) := mkB (z := .agg #[.int .i64 0, .int .i64 0, .int .i64 0, .int .i64 0, .bool false, .slice none 0 0, .bool false, .slice none 0 0, .slice none 0 0, .slice none 0 0, .bool false, .slice none 0 0, .bool false, .slice none 0 0, .bool false, .slice none 0 0, .bool false, .slice none 0 0]) (by kernel_rfl) Tryz.underlying40 (by kernel_rfl) (fun M => All2.app (All2.app (All2.app (All2.app (All2.app (All2.app (All2.app (All2.app (show All2 M [pI .i64 0] [.int .i64 0] from ⟨rfl, trivial⟩) (show All2 M [pI .i64 0] [.int .i64 0] from ⟨rfl, trivial⟩)) (show All2 M [pI .i64 0] [.int .i64 0] from ⟨rfl, trivial⟩)) (show All2 M [pI .i64 0] [.int .i64 0] from ⟨rfl, trivial⟩)) (eQ0 M)) (show All2 M [pS api_Term.cod ([] : List api_Term)] [.slice none 0 0] from ⟨k_nil api_Term.cod M, trivial⟩)) (show All2 M [pS api_Term.cod ([] : List api_Term)] [.slice none 0 0] from ⟨k_nil api_Term.cod M, trivial⟩)) (eQ0 M)) (eQ0 M))
theorem tyB62q : TyB Tryz.prog 62 [(0, 1), (1, 1), (2, 1), (3, 1)] ([pI .i64 0] ++ [pS cQ ([] : List Rat)] ++ [pS cQ ([] : List Rat)] ++ [pS cB ([] : List Bool)]) := mkB (z := .agg #[.int .i64 0, .slice none 0 0, .slice none 0 0, .slice none 0 0]) (by kernel_rfl) Tryz.underlying62 (by kernel_rfl) (fun M => All2.app (All2.app (All2.app (show All2 M [pI .i64 0] [.int .i64 0] from ⟨rfl, trivial⟩) (show All2 M [pS cQ ([] : List Rat)] [.slice none 0 0] from ⟨k_nil cQ M, trivial⟩)) (show All2 M [pS cQ ([] : List Rat)] [.slice none 0 0] from ⟨k_nil cQ M, trivial⟩)) (show All2 M [pS cB ([] : List Bool)] [.slice none 0 0] from ⟨k_nil cB M, trivial⟩))
theorem tyB62_o1q : TyB Tryz.prog 62 [(0, 1), (1, 1), (2, 1), (3, 1)] ([pI .i64 0] ++ [pO none 0 0] ++ [pS cQ ([] : List Rat)] ++ [pS cB ([] : List Bool)]) := mkB (z := .agg #[.int .i64 0, .slice none 0 0, .slice none 0 0, .slice none 0 0]) (by kernel_rfl) Tryz.underlying62 (by kernel_rfl) (fun M => All2.app (All2.app (All2.app (show All2 M [pI .i64 0] [.int .i64 0] from ⟨rfl, trivial⟩) (show All2 M [pO none 0 0] [.slice none 0 0] from ⟨.inl rfl, trivial⟩)) (show All2 M [pS cQ ([] : List Rat)] [.slice none 0 0] from ⟨k_nil cQ M, trivial⟩)) (show All2 M [pS cB ([] : List Bool)] [.slice none 0 0] from ⟨k_nil cB M, trivial⟩))
theorem tyB66q : TyB Tryz.prog 66 [(0, 4), (4, 4), (8, 1), (9, 4), (13, 4)] ((eQ 0) ++ (eQ 0) ++ [pB false] ++ (eQ 0) ++ (eQ 0)) := mkB (z := .agg #[.bool false, .slice none 0 0, .bool false, .slice none 0 0, .bool false, .slice none 0 0, .bool false, .slice none 0 0, .bool false, .bool false, .slice none 0 0, .bool false, .slice none 0 0, .bool false, .slice none 0 0, .bool false, .slice none 0 0]) (by kernel_rfl) Tryz.underlying66 (by kernel_rfl) (fun M => All2.app (All2.app (All2.app (All2.app (eQ0 M) (eQ0 M)) (show All2 M [pB false] [.bool false] from ⟨rfl, trivial⟩)) (eQ0 M)) (eQ0 M))
theorem tyF104_0 : TyF Tryz.prog 104 0 0 := mkF (ft := 3) (k := 0) Tryz.underlying104 rfl rfl rfl (by kernel_rfl)
theorem tyF104_1 : TyF Tryz.prog 104 1 1 := mkF (ft := 36) (k := 0) Tryz.underlying104 rfl rfl rfl (by kernel_rfl)
theorem tyF113_0 : TyF Tryz.prog 113 0 0 := mkF (ft := 35) (k := 3) Tryz.underlying113 rfl rfl rfl (by kernel_rfl)
theorem tyF113_1 : TyF Tryz.prog 113 1 4 := mkF (ft := 35) (k := 3) Tryz.underlying113 rfl rfl rfl (by kernel_rfl)
theorem tyF116_1 : TyF Tryz.prog 116 1 1 := mkF (ft := 113) (k := 7) Tryz.underlying116 rfl rfl rfl (by kernel_rfl)
theorem tyF116_2 : TyF Tryz.prog 116 2 9 := mkF (ft := 114) (k := 0) Tryz.underlying116 rfl rfl rfl (by kernel_rfl)
theorem tyF136_0 : TyF Tryz.prog 136 0 0 := mkF (ft := 47) (k := 0) Tryz.underlying136 rfl rfl rfl (by kernel_rfl)
theorem tyF136_1 : TyF Tryz.prog 136 1 1 := mkF (ft := 22) (k := 0) Tryz.underlying136 rfl rfl rfl (by kernel_rfl)
theorem tyF136_2 : TyF Tryz.prog 136 2 2 := mkF (ft := 35) (k := 3) Tryz.underlying136 rfl rfl rfl (by kernel_rfl)
theorem tyF38_0 : TyF Tryz.prog 38 0 0 := mkF (ft := 3) (k := 0) Tryz.underlying38 rfl rfl rfl (by kernel_rfl)
theorem tyF38_1 : TyF Tryz.prog 38 1 1 := mkF (ft := 35) (k := 3) Tryz.underlying38 rfl rfl rfl (by kernel_rfl)
theorem tyF40_5 : TyF Tryz.prog 40 5 8 := mkF (ft := 29) (k := 0) Tryz.underlying40 rfl rfl rfl (by kernel_rfl)
theorem tyF40_6 : TyF Tryz.prog 40 6 9 := mkF (ft := 29) (k := 0) Tryz.underlying40 rfl rfl rfl (by kernel_rfl)
theorem tyF57_0 : TyF Tryz.prog 57 0 0 := mkF (ft := 23) (k := 0) Tryz.underlying57 rfl rfl rfl (by kernel_rfl)
theorem tyF57_1 : TyF Tryz.prog 57 1 1 := mkF (ft := 53) (k := 0) Tryz.underlying57 rfl rfl rfl (by kernel_rfl)
theorem tyF57_2 : TyF Tryz.prog 57 2 2 := mkF (ft := 54) (k := 0) Tryz.underlying57 rfl rfl rfl (by kernel_rfl)
theorem tyF57_3 : TyF Tryz.prog 57 3 3 := mkF (ft := 55) (k := 0) Tryz.underlying57 rfl rfl rfl (by kernel_rfl)
theorem tyF62_0 : TyF Tryz.prog 62 0 0 := mkF (ft := 3) (k := 0) Tryz.underlying62 rfl rfl rfl (by kernel_rfl)
theorem tyF62_1 : TyF Tryz.prog 62 1 1 := mkF (ft := 24) (k := 0) Tryz.underlying62 rfl rfl rfl (by kernel_rfl)
theorem tyF62_2 : TyF Tryz.prog 62 2 2 := mkF (ft := 24) (k := 0) Tryz.underlying62 rfl rfl rfl (by kernel_rfl)
theorem tyF62_3 : TyF Tryz.prog 62 3 3 := mkF (ft := 60) (k := 0) Tryz.underlying62 rfl rfl rfl (by kernel_rfl)
theorem tyF66_0 : TyF Tryz.prog 66 0 0 := mkF (ft := 35) (k := 3) Tryz.underlying66 rfl rfl rfl (by kernel_rfl)
theorem tyF66_1 : TyF Tryz.prog 66 1 4 := mkF (ft := 35) (k := 3) Tryz.underlying66 rfl rfl rfl (by kernel_rfl)
theorem tyO114 : Ty1 Tryz.prog 114 := mk1 Tryz.underlying114 rfl (by kernel_rfl)
theorem tyO23 : Ty1 Tryz.prog 23 := mk1 Tryz.underlying23 rfl (by kernel_rfl)
theorem tyO24 : Ty1 Tryz.prog 24 := mk1 Tryz.underlying24 rfl (by kernel_rfl)
theorem tyO29 : Ty1 Tryz.prog 29 := mk1 Tryz.underlying29 rfl (by kernel_rfl)
theorem tyO36 : Ty1 Tryz.prog 36 := mk1 Tryz.underlying36 rfl (by kernel_rfl)
theorem tyO47 : Ty1 Tryz.prog 47 := mk1 Tryz.underlying47 rfl (by kernel_rfl)
theorem tyO53 : Ty1 Tryz.prog 53 := mk1 Tryz.underlying53 rfl (by kernel_rfl)
theorem tyO54 : Ty1 Tryz.prog 54 := mk1 Tryz.underlying54 rfl (by kernel_rfl)
theorem tyO55 : Ty1 Tryz.prog 55 := mk1 Tryz.underlying55 rfl (by kernel_rfl)
theorem tyO60 : Ty1 Tryz.prog 60 := mk1 Tryz.underlying60 rfl (by kernel_rfl)
theorem tyS111 : TyS Tryz.prog 111 110 2 16 := mkS (z := .agg #[.int .i64 0, .int .i64 0]) (k := 1) Tryz.underlying111 (by kernel_rfl) rfl
theorem tyS114 : TyS Tryz.prog 114 158 13 200 := mkS (z := .agg #[.int .i64 0, .bool false, .slice none 0 0, .bool false, .slice none 0 0, .bool false, .slice none 0 0, .bool false, .slice none 0 0, .bool false, .slice none 0 0, .bool false, .slice none 0 0]) (k := 12) Tryz.underlying114 (by kernel_rfl) rfl
theorem tyS123 : TyS Tryz.prog 123 122 3 24 := mkS (z := .agg #[.int .i64 0, .int .i64 0, .int .i64 0]) (k := 2) Tryz.underlying123 (by kernel_rfl) rfl
theorem tyS155 : TyS Tryz.prog 155 104 2 16 := mkS (z := .agg #[.int .i64 0, .nilFunc]) (k := 1) Tryz.underlying155 (by kernel_rfl) rfl
theorem tyS23 : TyS Tryz.prog 23 66 17 264 := mkS (z := .agg #[.bool false, .slice none 0 0, .bool false, .slice none 0 0, .bool false, .slice none 0 0, .bool false, .slice none 0 0, .bool false, .bool false, .slice none 0 0, .bool false, .slice none 0 0, .bool false, .slice none 0 0, .bool false, .slice none 0 0]) (k := 16) Tryz.underlying23 (by kernel_rfl) rfl
theorem tyS24 : TyS Tryz.prog 24 35 4 64 := mkS (z := .agg #[.bool false, .slice none 0 0, .bool false, .slice none 0 0]) (k := 3) Tryz.underlying24 (by kernel_rfl) rfl
theorem tyS25 : TyS Tryz.prog 25 40 18 272 := mkS (z := .agg #[.int .i64 0, .int .i64 0, .int .i64 0, .int .i64 0, .bool false, .slice none 0 0, .bool false, .slice none 0 0, .slice none 0 0, .slice none 0 0, .bool false, .slice none 0 0, .bool false, .slice none 0 0, .bool false, .slice none 0 0, .bool false, .slice none 0 0]) (k := 17) Tryz.underlying25 (by kernel_rfl) rfl
theorem tyS29 : TyS Tryz.prog 29 38 5 72 := mkS (z := .agg #[.int .i64 0, .bool false, .slice none 0 0, .bool false, .slice none 0 0]) (k := 4) Tryz.underlying29 (by kernel_rfl) rfl
theorem tyS47 : TyS Tryz.prog 47 24 1 24 := mkS (z := .slice none 0 0) (k := 0) Tryz.underlying47 (by kernel_rfl) rfl
theorem tyS53 : TyS Tryz.prog 53 116 18 304 := mkS (z := .agg #[.slice none 0 0, .bool false, .slice none 0 0, .bool false, .slice none 0 0, .bool false, .slice none 0 0, .bool false, .slice none 0 0, .slice none 0 0, .bool false, .slice none 0 0, .bool false, .slice none 0 0, .bool false, .slice none 0 0, .bool false, .slice none 0 0]) (k := 17) Tryz.underlying53 (by kernel_rfl) rfl
theorem tyS54 : TyS Tryz.prog 54 125 23 360 := mkS (z := .agg #[.int .i64 0, .int .i64 0, .bool false, .slice none 0 0, .bool false, .slice none 0 0, .bool false, .slice none 0 0, .bool false, .slice none 0 0, .bool false, .slice none 0 0, .bool false, .slice none 0 0, .bool false, .slice none 0 0, .bool false, .slice none 0 0, .slice none 0 0, .bool false, .slice none 0 0, .bool false, .slice none 0 0]) (k := 22) Tryz.underlying54 (by kernel_rfl) rfl
theorem tyS55 : TyS Tryz.prog 55 126 2 16 := mkS (z := .agg #[.int .i64 0, .int .i64 0]) (k := 1) Tryz.underlying55 (by kernel_rfl) rfl
theorem tyS60 : TyS Tryz.prog 60 4 1 1 := mkS (z := .bool false) (k := 0) Tryz.underlying60 (by kernel_rfl) rfl
theorem tyZ104q : TyZ Tryz.prog 104 ([pI .i64 0] ++ [pFn Tryz.prog (fun x : Int => [.vc (pI .i64 x)]) (fun r : Rat => .va (eQ r)) (fun _ => none)]) := mkZ (z := .agg #[.int .i64 0, .nilFunc]) (k := 2) (by kernel_rfl) rfl (fun M => All2.app (show All2 M [pI .i64 0] [.int .i64 0] from ⟨rfl, trivial⟩) (show All2 M [pFn Tryz.prog (fun x : Int => [.vc (pI .i64 x)]) (fun r : Rat => .va (eQ r)) (fun _ => none)] [.nilFunc] from ⟨pFn_nil _ _ M, trivial⟩))
theorem tyZ116q : TyZ Tryz.prog 116 ([pS api_Point.cod ([] : List api_Point)] ++ ((eQ 0) ++ (eQ 0)) ++ [pS api_Column.cod ([] : List api_Column)] ++ (eQ 0) ++ (eQ 0)) := mkZ (z := .agg #[.slice none 0 0, .bool false, .slice none 0 0, .bool false, .slice none 0 0, .bool false, .slice none 0 0, .bool false, .slice none 0 0, .slice none 0 0, .bool false, .slice none 0 0, .bool false, .slice none 0 0, .bool false, .slice none 0 0, .bool false, .slice none 0 0]) (k := 18) (by kernel_rfl) rfl (fun M => All2.app (All2.app (All2.app (All2.app (show All2 M [pS api_Point.cod ([] : List api_Point)] [.slice none 0 0] from ⟨k_nil api_Point.cod M, trivial⟩) (All2.app (eQ0 M) (eQ0 M))) (show All2 M [pS api_Column.cod ([] : List api_Column)] [.slice none 0 0] from ⟨k_nil api_Column.cod M, trivial⟩)) (eQ0 M)) (eQ0 M))
theorem tyZ136q : TyZ Tryz.prog 136 ([pS (cSl cQ) ([] : List (List Rat))] ++ [pS cI ([] : List Int)] ++ (eQ 0)) := mkZ (z := .agg #[.slice none 0 0, .slice none 0 0, .bool false, .slice none 0 0, .bool false, .slice none 0 0]) (k := 6) (by kernel_rfl) rfl (fun M => All2.app (All2.app (show All2 M [pS (cSl cQ) ([] : List (List Rat))] [.slice none 0 0] from ⟨k_nil (cSl cQ) M, trivial⟩) (show All2 M [pS cI ([] : List Int)] [.slice none 0 0] from ⟨k_nil cI M, trivial⟩)) (eQ0 M))
theorem tyZ3q : TyZ Tryz.prog 3 [pI .i64 0] := mkZ (z := .int .i64 0) (k := 1) (by kernel_rfl) rfl (fun M => show All2 M [pI .i64 0] [.int .i64 0] from ⟨rfl, trivial⟩)
theorem tyZ35q : TyZ Tryz.prog 35 (eQ 0) := mkZ (z := .agg #[.bool false, .slice none 0 0, .bool false, .slice none 0 0]) (k := 4) (by kernel_rfl) rfl (fun M => eQ0 M)
theorem tyZ38q : TyZ Tryz.prog 38 ([pI .i64 0] ++ (eQ 0)) := mkZ (z := .agg #[.int .i64 0, .bool false, .slice none 0 0, .bool false, .slice none 0 0]) (k := 5) (by kernel_rfl) rfl (fun M => All2.app (show All2 M [pI .i64 0] [.int .i64 0] from ⟨rfl, trivial⟩) (eQ0 M))
theorem tyZ4q : TyZ Tryz.prog 4 [pB false] := mkZ (z := .bool false) (k := 1) (by kernel_rfl) rfl (fun M => show All2 M [pB false] [.bool false] from ⟨rfl, trivial⟩)
theorem tyZ40q : TyZ Tryz.prog 40 ([pI .i64 0] ++ [pI .i64 0] ++ [pI .i64 0] ++ [pI .i64 0] ++ (eQ 0) ++ [pS api_Term.cod ([] : List api_Term)] ++ [pS api_Term.cod ([] : List api_Term)] ++ (eQ 0) ++ (eQ 0)) := mkZ (z := .agg #[.int .i64 0, .int .i64 0, .int .i64 0, .int .i64 0, .bool false, .slice none 0 0, .bool false, .slice none 0 0, .slice none 0 0, .slice none 0 0, .bool false, .slice none 0 0, .bool false, .slice none 0 0, .bool false, .slice none 0 0, .bool false, .slice none 0 0]) (k := 18) (by kernel_rfl) rfl (fun M => All2.app (All2.app (All2.app (All2.app (All2.app (All2.app (All2.app (All2.app (show All2 M [pI .i64 0] [.int .i64 0] from ⟨rfl, trivial⟩) (show All2 M [pI .i64 0] [.int .i64 0] from ⟨rfl, trivial⟩)) (show All2 M [pI .i64 0] [.int .i64 0] from ⟨rfl, trivial⟩)) (show All2 M [pI .i64 0] [.int .i64 0] from ⟨rfl, trivial⟩)) (eQ0 M)) (show All2 M [pS api_Term.cod ([] : List api_Term)] [.slice none 0 0] from ⟨k_nil api_Term.cod M, trivial⟩)) (show All2 M [pS api_Term.cod ([] : List api_Term)] [.slice none 0 0] from ⟨k_nil api_Term.cod M, trivial⟩)) (eQ0 M)) (eQ0 M))
theorem tyZ47q : TyZ Tryz.prog 47 [pS (cSl cQ) ([] : List (List Rat))] := mkZ (z := .slice none 0 0) (k := 1) (by kernel_rfl) rfl (fun M => show All2 M [pS (cSl cQ) ([] : List (List Rat))] [.slice none 0 0] from ⟨k_nil (cSl cQ) M, trivial⟩)
theorem tyZ57q : TyZ Tryz.prog 57 ([pS api_Dof.cod ([] : List api_Dof)] ++ [pS api_Part.cod ([] : List api_Part)] ++ [pS api_Rope.cod ([] : List api_Rope)] ++ [pS cA2 ([] : List (Int × Int))]) := mkZ (z := .agg #[.slice none 0 0, .slice none 0 0, .slice none 0 0, .slice none 0 0]) (k := 4) (by kernel_rfl) rfl (fun M => All2.app (All2.app (All2.app (show All2 M [pS api_Dof.cod ([] : List api_Dof)] [.slice none 0 0] from ⟨k_nil api_Dof.cod M, trivial⟩) (show All2 M [pS api_Part.cod ([] : List api_Part)] [.slice none 0 0] from ⟨k_nil api_Part.cod M, trivial⟩)) (show All2 M [pS api_Rope.cod ([] : List api_Rope)] [.slice none 0 0] from ⟨k_nil api_Rope.cod M, trivial⟩)) (show All2 M [pS cA2 ([] : List (Int × Int))] [.slice none 0 0] from ⟨k_nil cA2 M, trivial⟩))
theorem tyZ57_o0_o1_o2q : TyZ Tryz.prog 57 ([pO none 0 0] ++ [pO none 0 0] ++ [pO none 0 0] ++ [pS cA2 ([] : List (Int × Int))]) := mkZ (z := .agg #[.slice none 0 0, .slice none 0 0, .slice none 0 0, .slice none 0 0]) (k := 4) (by kernel_rfl) rfl (fun M => All2.app (All2.app (All2.app (show All2 M [pO none 0 0] [.slice none 0 0] from ⟨.inl rfl, trivial⟩) (show All2 M [pO none 0 0] [.slice none 0 0] from ⟨.inl rfl, trivial⟩)) (show All2 M [pO none 0 0] [.slice none 0 0] from ⟨.inl rfl, trivial⟩)) (show All2 M [pS cA2 ([] : List (Int × Int))] [.slice none 0 0] from ⟨k_nil cA2 M, trivial⟩))
theorem tyZ62q : TyZ Tryz.prog 62 ([pI .i64 0] ++ [pS cQ ([] : List Rat)] ++ [pS cQ ([] : List Rat)] ++ [pS cB ([] : List Bool)]) := mkZ (z := .agg #[.int .i64 0, .slice none 0 0, .slice none 0 0, .slice none 0 0]) (k := 4) (by kernel_rfl) rfl (fun M => All2.app (All2.app (All2.app (show All2 M [pI .i64 0] [.int .i64 0] from ⟨rfl, trivial⟩) (show All2 M [pS cQ ([] : List Rat)] [.slice none 0 0] from ⟨k_nil cQ M, trivial⟩)) (show All2 M [pS cQ ([] : List Rat)] [.slice none 0 0] from ⟨k_nil cQ M, trivial⟩)) (show All2 M [pS cB ([] : List Bool)] [.slice none 0 0] from ⟨k_nil cB M, trivial⟩))
abbrev N_slices_IndexFunc_Term : Nat := 161
def F_slices_IndexFunc_Term_j4 (K : Nat) : Option Int :=
  some (-1)
def F_slices_IndexFunc_Term_l3 (K : Nat) (a0 : List api_Term) (a1 : (api_Term → Option Bool)) : Nat → Int → Option (LR Int Unit)
  | 0, _ => none
  | k + 1, x2 => bif (decide (x2 < (a0.length : Int))) then ((rdL a0 x2).bind fun v6 => (a1 v6).bind fun v8 => bif v8 then (some (.ret x2)) else ((chk (x2 + 1)).bind fun v11 => F_slices_IndexFunc_Term_l3 K a0 a1 k v11)) else (some (.go ()))
def F_slices_IndexFunc_Term (K : Nat) (a0 : List api_Term) (a1 : (api_Term → Option Bool)) : Option Int :=
  (F_slices_IndexFunc_Term_l3 K a0 a1 K 0).bind fun o => match o with | .ret r => some r | .go _ => F_slices_IndexFunc_Term_j4 K 
set_option maxRecDepth 100000 in
theorem ct_slices_IndexFunc_Term {K : Nat} {a0 : List api_Term} {a1 : (api_Term → Option Bool)} {r : Int} (hF : F_slices_IndexFunc_Term K a0 a1 = some r) : Ct Tryz.prog 161 [.vc (pS api_Term.cod a0), .vc (pFn Tryz.prog (fun x : api_Term => [.va (api_Term.enc x)]) (fun r : Bool => .vc (pB r)) a1)] (.vc (pI .i64 r)) := by
  unfold F_slices_IndexFunc_Term at hF
  refine ctO_intro Tryz.func161 rfl (by kernel_rfl) Tryz.ntmps161 rfl (fun w0 M0 => ?_)
  refine r_seq (r_reg (r_op (t_mv (.inr rfl)) ⟨k_I _ _, trivial⟩ ?_))
  refine r_nil (r_next (r_seq (r_seq (r_reg (r_mv ?_)))))
  refine r_op (t_ln rfl tyS29) ⟨rfl, trivial⟩ ?_
  refine r_op (t_mv (.inl rfl)) ⟨k_I _ _, trivial⟩ ?_
  refine r_nil (r_next (r_blk (r_cutN (fun H E => F_slices_IndexFunc_Term_j4 K = some r ∧ H = [] ∧ E = []) ?_ (fun Jj4 => ?_))))
  · rintro _ _ ⟨hF, rfl, rfl⟩
    unfold F_slices_IndexFunc_Term_j4 at hF
    refine r_next (r_seq (r_reg (r_op (t_mv (.inr rfl)) ⟨k_I _ _, trivial⟩ ?_)))
    refine r_nil (r_next (r_ret (r_toR ?_)))
    obtain rfl := sm1 hF
    exact r_done1 (.inl rfl) Tryz.results161 (.tmp rfl .nil) rfl rfl
  · skip
    obtain ⟨ol3, hL, hRl3⟩ := bnd hF
    refine r_lp (fun k a w => ∃ (x2 : Int), F_slices_IndexFunc_Term_l3 K a0 a1 k x2 = some ol3 ∧ hs _ [] [(0, .vc (pS api_Term.cod a0)), (1, .vc (pFn Tryz.prog (fun x : api_Term => [.va (api_Term.enc x)]) (fun r : Bool => .vc (pB r)) a1)), (7, .vc (pI .i64 (a0.length : Int))), (8, .vc (pI .i64 x2))] a w) K (fun a w ⟨_, hF, _⟩ => by cases hF) (fun k a w ⟨x2, hF, hh⟩ => r_at ?_ hh) (fun a w hh => ⟨0, hL, hs_back [] rfl (by decide) (by exact ⟨rfl, rfl, rfl, rfl, trivial⟩) hh⟩)
    rw [F_slices_IndexFunc_Term_l3.eq_2] at hF
    refine r_seq (r_reg (r_op (t_lt rfl) ⟨rfl, rfl, trivial⟩ ?_))
    refine r_nil (r_next (r_seq (r_if rfl (fun h5 => ?_) (fun h5 => ?_))))
    · have hF := cnd_t h5 hF
      refine r_skip (r_next (r_seq (r_blk (r_seq (r_reg (r_mv ?_))))))
      refine r_as ?_
      refine r_nil (r_next (r_seq (r_reg (r_mv ?_))))
      refine r_mv ?_
      refine r_mv ?_
      obtain ⟨v6, h7, hF⟩ := bnd hF
      refine r_op (t_ix rfl tyS29 h7) ⟨rfl, rfl, trivial⟩ ?_
      refine r_op (t_lM 5 rfl rfl (.agg tyA38)) ⟨rfl, trivial⟩ ?_
      obtain ⟨v8, h9, hF⟩ := bnd hF
      refine r_op (t_callF (pre := fun x : api_Term => [.va (api_Term.enc x)]) (post := fun r : Bool => .vc (pB r)) (x := v6) (r := v8) rfl h9 rfl) ⟨rfl, rfl, trivial⟩ ?_
      refine r_nil (r_next (r_if rfl (fun h10 => ?_) (fun h10 => ?_)))
      · have hF := cnd_t h10 hF
        refine r_seq (r_reg (r_mv ?_))
        refine r_as ?_
        refine r_nil (r_next (r_ret (r_toR ?_)))
        obtain rfl := sm1 hF
        obtain rfl := sm1 hRl3
        exact r_done1 (.inl rfl) Tryz.results161 (.tmp rfl .nil) rfl rfl
      · have hF := cnd_f h10 hF
        refine r_skip (r_blkN (r_next (r_reg ?_)))
        obtain ⟨v11, h12, hF⟩ := bnd hF
        refine r_op (t_add rfl h12) ⟨rfl, k_I _ _, trivial⟩ ?_
        refine r_mv ?_
        refine r_nil ?_
        exact r_round (fun a w hh => ⟨v11, hF, hs_back [] rfl (by decide) (by exact ⟨rfl, rfl, rfl, rfl, trivial⟩) hh⟩)
    · have hF := cnd_f h5 hF
      refine r_brk ?_
      obtain rfl := sm1 hF
      exact r_backJ Jj4 ⟨hRl3, rfl, rfl⟩ [] rfl trivial

abbrev N_slices_ContainsFunc_Term : Nat := 131
def F_slices_ContainsFunc_Term (K : Nat) (a0 : List api_Term) (a1 : (api_Term → Option Bool)) : Option Bool :=
  (F_slices_IndexFunc_Term K a0 a1).bind fun v1 => some (decide (0 ≤ v1))
set_option maxRecDepth 100000 in
theorem ct_slices_ContainsFunc_Term {K : Nat} {a0 : List api_Term} {a1 : (api_Term → Option Bool)} {r : Bool} (hF : F_slices_ContainsFunc_Term K a0 a1 = some r) : Ct Tryz.prog 131 [.vc (pS api_Term.cod a0), .vc (pFn Tryz.prog (fun x : api_Term => [.va (api_Term.enc x)]) (fun r : Bool => .vc (pB r)) a1)] (.vc (pB r)) := by
  unfold F_slices_ContainsFunc_Term at hF
  refine ctO_intro Tryz.func131 rfl (by kernel_rfl) Tryz.ntmps131 rfl (fun w0 M0 => ?_)
  refine r_seq (r_reg (r_op (t_mv (.inr rfl)) ⟨k_B _, trivial⟩ ?_))
  refine r_nil (r_next (r_seq (r_reg (r_mv ?_))))
  refine r_mv ?_
  obtain ⟨v1, h2, hF⟩ := bnd hF
  refine r_op (t_call rfl (ct_slices_IndexFunc_Term h2) rfl) ⟨rfl, rfl, trivial⟩ ?_
  refine r_op (t_ge rfl) ⟨rfl, k_I _ _, trivial⟩ ?_
  refine r_as ?_
  refine r_nil (r_next (r_ret (r_toR ?_)))
  obtain rfl := sm1 hF
  exact r_done1 (.inl rfl) Tryz.results131 (.tmp rfl .nil) rfl rfl

abbrev N_energy_within_1 : Nat := 132
def F_energy_within_1 (c0 : Int) (a0 : api_Term) : Option Bool :=
  bif (decide (a0.dof < 0)) then (some true) else (some (decide (c0 ≤ a0.dof)))
set_option maxRecDepth 100000 in
theorem ct_energy_within_1 {c0 : Int} {a0 : api_Term} {r : Bool} (hF : F_energy_within_1 c0 a0 = some r) : Ct Tryz.prog 132 [.va (api_Term.enc a0), .vc (pM (cI.e c0))] (.vc (pB r)) := by
  unfold F_energy_within_1 at hF
  refine ctO_intro Tryz.func132 rfl (by kernel_rfl) Tryz.ntmps132 rfl (fun w0 M0 => ?_)
  refine r_seq (r_reg (r_box rfl rfl trivial (fun b1 => ?_)))
  refine r_op (t_mv (.inr rfl)) ⟨k_B _, trivial⟩ ?_
  refine r_nil (r_next (r_seq (r_reg (r_op (t_fa (off := 0) (k := 0) rfl tyF38_0) ⟨rfl, trivial⟩ ?_))))
  refine r_op (t_l 0 1 rfl rfl rfl rfl (.one tyO3)) ⟨rfl, trivial⟩ ?_
  refine r_op (t_lt rfl) ⟨rfl, k_I _ _, trivial⟩ ?_
  refine r_mv ?_
  refine r_bool (fun h2 => ?_) (fun h2 => ?_)
  · have hF := cnd_t h2 hF
    refine r_opn ?_
    refine r_opn ?_
    refine r_opn ?_
    refine r_opn ?_
    refine r_op (t_pickT rfl) ⟨rfl, k_B _, trivial⟩ ?_
    refine r_as ?_
    refine r_nil (r_next (r_ret (r_toR ?_)))
    obtain rfl := sm1 hF
    exact r_done1 (.inl rfl) Tryz.results132 (.tmp rfl .nil) rfl rfl
  · have hF := cnd_f h2 hF
    refine r_opg (t_fa (off := 0) (k := 0) rfl tyF38_0) ⟨rfl, trivial⟩ ?_
    refine r_opg (t_l 0 1 rfl rfl rfl rfl (.one tyO3)) ⟨rfl, trivial⟩ ?_
    refine r_opg (t_lM 1 rfl rfl (.one tyO3)) ⟨rfl, trivial⟩ ?_
    refine r_opg (t_ge rfl) ⟨rfl, rfl, trivial⟩ ?_
    refine r_op (t_pickF rfl) ⟨rfl, rfl, trivial⟩ ?_
    refine r_as ?_
    refine r_nil (r_next (r_ret (r_toR ?_)))
    obtain rfl := sm1 hF
    exact r_done1 (.inl rfl) Tryz.results132 (.tmp rfl .nil) rfl rfl

abbrev N_energy_within : Nat := 68
def F_energy_within (K : Nat) (a0 : List api_Term) (a1 : Int) : Option Bool :=
  (F_slices_ContainsFunc_Term K a0 (F_energy_within_1 a1)).bind fun v2 => some (!v2)
set_option maxRecDepth 100000 in
theorem ct_energy_within {K : Nat} {a0 : List api_Term} {a1 : Int} {r : Bool} (hF : F_energy_within K a0 a1 = some r) : Ct Tryz.prog 68 [.vc (pS api_Term.cod a0), .vc (pI .i64 a1)] (.vc (pB r)) := by
  unfold F_energy_within at hF
  refine ctO_intro Tryz.func68 rfl (by kernel_rfl) Tryz.ntmps68 rfl (fun w0 M0 => ?_)
  refine r_seq (r_reg (r_box rfl rfl trivial (fun b1 => ?_)))
  refine r_op (t_mv (.inr rfl)) ⟨k_B _, trivial⟩ ?_
  refine r_nil (r_next (r_seq (r_reg (r_mv ?_))))
  refine r_fvL 0 [(3, 0)] rfl ⟨rfl, trivial⟩ rfl ?_
  refine r_op (t_fnF (φ := (F_energy_within_1 a1)) (pre := fun x : api_Term => [.va (api_Term.enc x)]) (post := fun r : Bool => .vc (pB r)) (xs := [.tmp 3]) (cs := [pM (cI.e a1)]) rfl rfl (fun x r h => ct_energy_within_1 h)) ⟨rfl, trivial⟩ ?_
  obtain ⟨v2, h3, hF⟩ := bnd hF
  refine r_op (t_call rfl (ct_slices_ContainsFunc_Term h3) rfl) ⟨rfl, rfl, trivial⟩ ?_
  refine r_op (t_not rfl) ⟨rfl, trivial⟩ ?_
  refine r_as ?_
  refine r_nil (r_next (r_ret (r_toR ?_)))
  obtain rfl := sm1 hF
  exact r_done1 (.inl rfl) Tryz.results68 (.tmp rfl .nil) rfl rfl

abbrev N_energy_sum : Nat := 69
def F_energy_sum_j9 (K : Nat) (x7 : Rat) : Option Rat :=
  some x7
def F_energy_sum_j20 (K : Nat) (x6 : Int) (recl8 : Rat → Int → Option Rat) (x18 : Rat) : Option Rat :=
  (chk (x6 + 1)).bind fun v21 => recl8 x18 v21
def F_energy_sum_l19 (K : Nat) (v11 : energy_account) : Nat → Rat → Int → Option Rat
  | 0, _, _ => none
  | k + 1, x16, x17 => bif (decide (x17 < v11.n)) then ((v11.of x17).bind fun v26 => (qadd x16 v26).bind fun v28 => (chk (x17 + 1)).bind fun v30 => F_energy_sum_l19 K v11 k v28 v30) else (some x16)
def F_energy_sum_l8 (K : Nat) (a0 : List energy_account) : Nat → Rat → Int → Option Rat
  | 0, _, _ => none
  | k + 1, x5, x6 => bif (decide (x6 < (a0.length : Int))) then ((rdL a0 x6).bind fun v11 => (F_energy_sum_l19 K v11 K x5 0).bind fun x18 => F_energy_sum_j20 K x6 (F_energy_sum_l8 K a0 k) x18) else (some x5)
def F_energy_sum (K : Nat) (a0 : List energy_account) : Option Rat :=
  (F_energy_sum_l8 K a0 K 0 0).bind fun x7 => F_energy_sum_j9 K x7
set_option maxRecDepth 100000 in
theorem ct_energy_sum {K : Nat} {a0 : List energy_account} {r : Rat} (hF : F_energy_sum K a0 = some r) : Ct Tryz.prog 69 [.vc (pS energy_account.cod a0)] (.va (eQ r)) := by
  unfold F_energy_sum at hF
  refine ctO_intro Tryz.func69 rfl (by kernel_rfl) Tryz.ntmps69 rfl (fun w0 M0 => ?_)
  refine r_seq (r_reg (r_alloc rfl tyZ35q (fun b1 => ?_)))
  refine r_nil (r_next (r_seq (r_reg (r_alloc rfl tyZ35q (fun b2 => ?_)))))
  refine r_nil (r_next (r_seq (r_seq (r_reg (r_mv ?_)))))
  refine r_op (t_ln rfl tyS155) ⟨rfl, trivial⟩ ?_
  refine r_op (t_mv (.inl rfl)) ⟨k_I _ _, trivial⟩ ?_
  refine r_nil (r_next (r_blk (r_cutN (fun H E => ∃ (x7 : Rat), F_energy_sum_j9 K x7 = some r ∧ H = [⟨some b2, 1, 35, 4, 1, (eQ x7)⟩, ⟨some b1, 1, 35, 4, 1, (eQ 0)⟩] ∧ E = [(2, .vc (pP (some b1) 0)), (3, .vc (pP (some b2) 0))]) ?_ (fun Jj9 => ?_))))
  · rintro _ _ ⟨x7, hF, rfl, rfl⟩
    unfold F_energy_sum_j9 at hF
    refine r_next (r_seq (r_reg (r_op (t_l 0 4 rfl rfl rfl rfl (.agg tyA35)) ⟨rfl, trivial⟩ ?_)))
    refine r_op0 (t_s 1 rfl rfl rfl tyA35.s) ⟨rfl, rfl, trivial⟩ ?_
    refine r_nil (r_next (r_ret (r_toR ?_)))
    obtain rfl := sm1 hF
    exact r_done1 (.inl rfl) Tryz.results69 (rv_cell 1 4 rfl rfl rfl rfl (.agg tyA35) .nil) rfl rfl
  · skip
    obtain ⟨x7', hL, hRl8⟩ := bnd hF
    refine r_lp (fun k a w => ∃ (x5 : Rat), ∃ (x6 : Int), F_energy_sum_l8 K a0 k x5 x6 = some x7' ∧ hs _ [⟨some b2, 1, 35, 4, 1, (eQ x5)⟩, ⟨some b1, 1, 35, 4, 1, (eQ 0)⟩] [(2, .vc (pP (some b1) 0)), (3, .vc (pP (some b2) 0)), (7, .vc (pS energy_account.cod a0)), (8, .vc (pI .i64 (a0.length : Int))), (9, .vc (pI .i64 x6))] a w) K (fun a w ⟨_, _, hF, _⟩ => by cases hF) (fun k a w ⟨x5, x6, hF, hh⟩ => r_at ?_ hh) (fun a w hh => ⟨0, 0, hL, hs_back [0, 1] rfl (by decide) (by exact ⟨rfl, rfl, rfl, rfl, rfl, trivial⟩) hh⟩)
    rw [F_energy_sum_l8.eq_2] at hF
    refine r_seq (r_reg (r_op (t_lt rfl) ⟨rfl, rfl, trivial⟩ ?_))
    refine r_nil (r_next (r_seq (r_if rfl (fun h10 => ?_) (fun h10 => ?_))))
    · have hF := cnd_t h10 hF
      refine r_skip (r_next (r_seq (r_blk (r_seq (r_reg ?_)))))
      obtain ⟨v11, h12, hF⟩ := bnd hF
      refine r_op (t_ix rfl tyS155 h12) ⟨rfl, rfl, trivial⟩ ?_
      refine r_op (t_lM 2 rfl rfl (.agg tyA104)) ⟨rfl, trivial⟩ ?_
      refine r_alloc rfl tyZ104q (fun b13 => ?_)
      refine r_op0 (t_s 0 rfl rfl rfl tyA104.s) ⟨rfl, rfl, trivial⟩ ?_
      refine r_nil (r_next (r_seq (r_reg (r_op (t_fa (off := 0) (k := 0) rfl tyF104_0) ⟨rfl, trivial⟩ ?_))))
      refine r_op (t_l 0 1 rfl rfl rfl rfl (.one tyO3)) ⟨rfl, trivial⟩ ?_
      refine r_op (t_mv (.inl rfl)) ⟨k_I _ _, trivial⟩ ?_
      refine r_nil (r_next (r_blk (r_cutN (fun H E => ∃ (x18 : Rat), F_energy_sum_j20 K x6 (F_energy_sum_l8 K a0 k) x18 = some x7' ∧ H = [⟨some b2, 1, 35, 4, 1, (eQ x18)⟩, ⟨some b1, 1, 35, 4, 1, (eQ 0)⟩] ∧ E = [(2, .vc (pP (some b1) 0)), (3, .vc (pP (some b2) 0)), (7, .vc (pS energy_account.cod a0)), (8, .vc (pI .i64 (a0.length : Int))), (9, .vc (pI .i64 x6))]) ?_ (fun Jj20 => ?_))))
      · rintro _ _ ⟨x18, hF, rfl, rfl⟩
        unfold F_energy_sum_j20 at hF
        refine r_blkN (r_next (r_reg ?_))
        obtain ⟨v21, h22, hF⟩ := bnd hF
        refine r_op (t_add rfl h22) ⟨rfl, k_I _ _, trivial⟩ ?_
        refine r_mv ?_
        refine r_nil ?_
        exact r_round (fun a w hh => ⟨x18, v21, hF, hs_back [0, 1] rfl (by decide) (by exact ⟨rfl, rfl, rfl, rfl, rfl, trivial⟩) hh⟩)
      · skip
        obtain ⟨x18', hL, hRl19⟩ := bnd hF
        refine r_lp (fun k a w => ∃ (x16 : Rat), ∃ (x17 : Int), F_energy_sum_l19 K v11 k x16 x17 = some x18' ∧ hs _ [⟨some b13, 1, 104, 2, 1, (energy_account.enc v11)⟩, ⟨some b2, 1, 35, 4, 1, (eQ x16)⟩, ⟨some b1, 1, 35, 4, 1, (eQ 0)⟩] [(2, .vc (pP (some b1) 0)), (3, .vc (pP (some b2) 0)), (5, .vc (pP (some b13) 0)), (7, .vc (pS energy_account.cod a0)), (8, .vc (pI .i64 (a0.length : Int))), (9, .vc (pI .i64 x6)), (14, .vc (pI .i64 v11.n)), (15, .vc (pI .i64 x17))] a w) K (fun a w ⟨_, _, hF, _⟩ => by cases hF) (fun k a w ⟨x16, x17, hF, hh⟩ => r_at ?_ hh) (fun a w hh => ⟨x5, 0, hL, hs_back [0, 1, 2] rfl (by decide) (by exact ⟨rfl, rfl, rfl, rfl, rfl, rfl, rfl, rfl, trivial⟩) hh⟩)
        rw [F_energy_sum_l19.eq_2] at hF
        refine r_seq (r_reg (r_op (t_lt rfl) ⟨rfl, rfl, trivial⟩ ?_))
        refine r_nil (r_next (r_seq (r_if rfl (fun h23 => ?_) (fun h23 => ?_))))
        · have hF := cnd_t h23 hF
          refine r_skip (r_next (r_seq (r_blk (r_seq (r_reg (r_mv ?_))))))
          refine r_as ?_
          refine r_nil (r_next ?_)
          obtain ⟨v26, h27, hF⟩ := bnd hF
          obtain ⟨v28, h29, hF⟩ := bnd hF
          refine r_draw [0, 0, 2, 0, 14, 31, 63] 6 1 [.v (.va (eQ x16)), .v (.vc (pP (some b13) 1)), .v (.vc (pFn Tryz.prog (fun x : Int => [.vc (pI .i64 x)]) (fun r : Rat => .va (eQ r)) v11.of)), .v (.vc (pI .i64 x17)), .v (.va (eQ v26)), .v (.va (eQ v28))] Tryz_mixed ⟨⟨rfl, .run (lo := 0) (n := 1) ⟨fun G24 A => t_l 1 4 rfl rfl rfl rfl (.agg tyA35), trivial⟩ (fun G24 => ⟨rfl, trivial⟩)⟩, ⟨rfl, .run (lo := 0) (n := 1) ⟨fun G24 A => t_fa (off := 0) (k := 1) rfl tyF104_1, trivial⟩ (fun G24 => ⟨rfl, trivial⟩)⟩, ⟨rfl, .run (lo := 0) (n := 1) ⟨fun G24 A => t_l 0 1 rfl rfl rfl rfl (.one tyO36), trivial⟩ (fun G24 => ⟨rfl, trivial⟩)⟩, ⟨rfl, .run (lo := 0) (n := 1) ⟨fun G24 A => t_mv (.inl rfl), trivial⟩ (fun G24 => ⟨rfl, trivial⟩)⟩, ⟨rfl, .run (lo := 0) (n := 1) ⟨fun G24 A => t_callF (pre := fun x : Int => [.vc (pI .i64 x)]) (post := fun r : Rat => .va (eQ r)) (x := x17) (r := v26) rfl h27 rfl, trivial⟩ (fun G24 => ⟨rfl, rfl, trivial⟩)⟩, ⟨rfl, .run (lo := 0) (n := 1) ⟨fun G24 A => t_call rfl (qc_rat_Add h29) rfl, trivial⟩ (fun G24 => ⟨rfl, rfl, trivial⟩)⟩, trivial⟩ (fun bs25 G24 => ?_)
          refine r_op0 (t_s 1 rfl rfl rfl tyA35.s) ⟨rfl, rfl, trivial⟩ ?_
          refine r_nil (r_blkN (r_next (r_reg ?_)))
          obtain ⟨v30, h31, hF⟩ := bnd hF
          refine r_op (t_add rfl h31) ⟨rfl, k_I _ _, trivial⟩ ?_
          refine r_mv ?_
          refine r_nil ?_
          exact r_round (fun a w hh => ⟨v28, v30, hF, hs_back [0, 1, 2] rfl (by decide) (by exact ⟨rfl, rfl, rfl, rfl, rfl, rfl, rfl, rfl, trivial⟩) hh⟩)
        · have hF := cnd_f h23 hF
          refine r_brk ?_
          obtain rfl := sm1 hF
          exact r_backJ Jj20 ⟨x16, hRl19, rfl, rfl⟩ [1, 2] rfl ⟨rfl, rfl, rfl, rfl, rfl, trivial⟩
    · have hF := cnd_f h10 hF
      refine r_brk ?_
      obtain rfl := sm1 hF
      exact r_backJ Jj9 ⟨x5, hRl8, rfl, rfl⟩ [0, 1] rfl ⟨rfl, rfl, trivial⟩

abbrev N_energy_Momentum_1 : Nat := 70
def F_energy_Momentum_1 (c0 : List api_Term) (c1 : List Rat) (c2 : List api_Dof) (a0 : Int) : Option Rat :=
  (rdL c0 a0).bind fun v2 => (rdL c0 a0).bind fun v6 => (rdL c1 v2.dof).bind fun v8 => (qmul v6.k v8).bind fun v10 => (rdL c2 v2.dof).bind fun v12 => (qdiv v10 v12.inv).bind fun v14 => some v14
set_option maxRecDepth 100000 in
theorem ct_energy_Momentum_1 {c0 : List api_Term} {c1 : List Rat} {c2 : List api_Dof} {a0 : Int} {r : Rat} (hF : F_energy_Momentum_1 c0 c1 c2 a0 = some r) : Ct Tryz.prog 70 [.vc (pI .i64 a0), .vc (pM ((cSl api_Term.cod).e c0)), .vc (pM ((cSl cQ).e c1)), .vc (pM ((cSl api_Dof.cod).e c2))] (.va (eQ r)) := by
  unfold F_energy_Momentum_1 at hF
  refine ctO_intro Tryz.func70 rfl (by kernel_rfl) Tryz.ntmps70 rfl (fun w0 M0 => ?_)
  refine r_seq (r_reg (r_alloc rfl tyZ35q (fun b1 => ?_)))
  refine r_nil (r_next (r_seq (r_reg (r_op (t_lM 1 rfl rfl (.one tyO29)) ⟨rfl, trivial⟩ ?_))))
  refine r_mv ?_
  obtain ⟨v2, h3, hF⟩ := bnd hF
  refine r_op (t_ix rfl tyS29 h3) ⟨rfl, rfl, trivial⟩ ?_
  refine r_op (t_faM (ps := (api_Term.cod.e v2)) (k := 0) rfl tyF38_0) ⟨rfl, trivial⟩ ?_
  refine r_op (t_lM 1 rfl rfl (.one tyO3)) ⟨rfl, trivial⟩ ?_
  refine r_as ?_
  refine r_nil (r_next (r_seq ?_))
  obtain ⟨v6, h7, hF⟩ := bnd hF
  obtain ⟨v8, h9, hF⟩ := bnd hF
  obtain ⟨v10, h11, hF⟩ := bnd hF
  obtain ⟨v12, h13, hF⟩ := bnd hF
  obtain ⟨v14, h15, hF⟩ := bnd hF
  refine r_draw [0, 0, 3, 7, 15, 0, 0, 96, 224, 511, 0, 0, 3072, 7168, 15360, 32767, 65535] 16 1 [.v (.vc (pS api_Term.cod c0)), .v (.vc (pI .i64 a0)), .v (.vc (pM (api_Term.cod.e v6))), .v (.vc (pM ((api_Term.cod.e v6).drop 1))), .v (.va (eQ v6.k)), .v (.vc (pS cQ c1)), .v (.vc (pI .i64 v2.dof)), .v (.vc (pM (cQ.e v8))), .v (.va (eQ v8)), .v (.va (eQ v10)), .v (.vc (pS api_Dof.cod c2)), .v (.vc (pI .i64 v2.dof)), .v (.vc (pM (api_Dof.cod.e v12))), .v (.vc (pM (api_Dof.cod.e v12))), .v (.va (eQ v12.inv)), .v (.va (eQ v14))] Tryz_mixed ⟨⟨rfl, .run (lo := 0) (n := 1) ⟨fun G4 A => t_lM 1 rfl rfl (.one tyO29), trivial⟩ (fun G4 => ⟨rfl, trivial⟩)⟩, ⟨rfl, .run (lo := 0) (n := 1) ⟨fun G4 A => t_mv (.inl rfl), trivial⟩ (fun G4 => ⟨rfl, trivial⟩)⟩, ⟨rfl, .run (lo := 0) (n := 1) ⟨fun G4 A => t_ix rfl tyS29 h7, trivial⟩ (fun G4 => ⟨rfl, rfl, trivial⟩)⟩, ⟨rfl, .run (lo := 0) (n := 1) ⟨fun G4 A => t_faM (ps := (api_Term.cod.e v6)) (k := 1) rfl tyF38_1, trivial⟩ (fun G4 => ⟨rfl, trivial⟩)⟩, ⟨rfl, .run (lo := 0) (n := 1) ⟨fun G4 A => t_lM 4 rfl rfl (.agg tyA35), trivial⟩ (fun G4 => ⟨rfl, trivial⟩)⟩, ⟨rfl, .run (lo := 0) (n := 1) ⟨fun G4 A => t_lM 1 rfl rfl (.one tyO24), trivial⟩ (fun G4 => ⟨rfl, trivial⟩)⟩, ⟨rfl, .run (lo := 0) (n := 1) ⟨fun G4 A => t_mv (.inl rfl), trivial⟩ (fun G4 => ⟨rfl, trivial⟩)⟩, ⟨rfl, .run (lo := 0) (n := 1) ⟨fun G4 A => t_ix rfl tyS24 h9, trivial⟩ (fun G4 => ⟨rfl, rfl, trivial⟩)⟩, ⟨rfl, .run (lo := 0) (n := 1) ⟨fun G4 A => t_lM 4 rfl rfl (.agg tyA35), trivial⟩ (fun G4 => ⟨rfl, trivial⟩)⟩, ⟨rfl, .run (lo := 0) (n := 1) ⟨fun G4 A => t_call rfl (qc_rat_Mul h11) rfl, trivial⟩ (fun G4 => ⟨rfl, rfl, trivial⟩)⟩, ⟨rfl, .run (lo := 0) (n := 1) ⟨fun G4 A => t_lM 1 rfl rfl (.one tyO23), trivial⟩ (fun G4 => ⟨rfl, trivial⟩)⟩, ⟨rfl, .run (lo := 0) (n := 1) ⟨fun G4 A => t_mv (.inl rfl), trivial⟩ (fun G4 => ⟨rfl, trivial⟩)⟩, ⟨rfl, .run (lo := 0) (n := 1) ⟨fun G4 A => t_ix rfl tyS23 h13, trivial⟩ (fun G4 => ⟨rfl, rfl, trivial⟩)⟩, ⟨rfl, .run (lo := 0) (n := 1) ⟨fun G4 A => t_faM (ps := (api_Dof.cod.e v12)) (k := 0) rfl tyF66_0, trivial⟩ (fun G4 => ⟨rfl, trivial⟩)⟩, ⟨rfl, .run (lo := 0) (n := 1) ⟨fun G4 A => t_lM 4 rfl rfl (.agg tyA35), trivial⟩ (fun G4 => ⟨rfl, trivial⟩)⟩, ⟨rfl, .run (lo := 0) (n := 1) ⟨fun G4 A => t_call rfl (qc_rat_Div h15) rfl, trivial⟩ (fun G4 => ⟨rfl, rfl, trivial⟩)⟩, trivial⟩ (fun bs5 G4 => ?_)
  refine r_op0 (t_s 0 rfl rfl rfl tyA35.s) ⟨rfl, rfl, trivial⟩ ?_
  refine r_nil (r_next (r_ret (r_toR ?_)))
  obtain rfl := sm1 hF
  exact r_done1 (.inl rfl) Tryz.results70 (rv_cell 0 4 rfl rfl rfl rfl (.agg tyA35) .nil) rfl rfl

abbrev N_energy_Momentum : Nat := 15
def F_energy_Momentum (K : Nat) (a0 : List api_Dof) (a1 : List Rat) (a2 : List api_Term) : Option (Rat × Int) :=
  (F_energy_within K a2 (a0.length : Int)).bind fun v5 => bif (!v5) then (some (0, 1)) else ((F_energy_sum K [(⟨(a2.length : Int), (F_energy_Momentum_1 a2 a1 a0)⟩ : energy_account)]).bind fun v8 => some (v8, 0))
set_option maxRecDepth 100000 in
theorem ct_energy_Momentum {K : Nat} {a0 : List api_Dof} {a1 : List Rat} {a2 : List api_Term} {r : Rat × Int} (hF : F_energy_Momentum K a0 a1 a2 = some r) : Ct Tryz.prog 15 [.vc (pS api_Dof.cod a0), .vc (pS cQ a1), .vc (pS api_Term.cod a2)] (.t2 (.va (eQ r.1)) (.vc (pI .i64 r.2))) := by
  unfold F_energy_Momentum at hF
  refine ctO_intro Tryz.func15 rfl (by kernel_rfl) Tryz.ntmps15 rfl (fun w0 M0 => ?_)
  refine r_seq (r_reg (r_box rfl rfl trivial (fun b1 => ?_)))
  refine r_box rfl rfl trivial (fun b2 => ?_)
  refine r_box rfl rfl trivial (fun b3 => ?_)
  refine r_alloc rfl tyZ35q (fun b4 => ?_)
  refine r_op (t_mv (.inr rfl)) ⟨k_I _ _, trivial⟩ ?_
  refine r_nil (r_next (r_seq (r_seq (r_reg (r_op (t_l 1 1 rfl rfl rfl rfl (.one tyO29)) ⟨rfl, trivial⟩ ?_)))))
  refine r_op (t_l 3 1 rfl rfl rfl rfl (.one tyO23)) ⟨rfl, trivial⟩ ?_
  refine r_op (t_ln rfl tyS23) ⟨rfl, trivial⟩ ?_
  obtain ⟨v5, h6, hF⟩ := bnd hF
  refine r_op (t_call rfl (ct_energy_within h6) rfl) ⟨rfl, rfl, trivial⟩ ?_
  refine r_op (t_not rfl) ⟨rfl, trivial⟩ ?_
  refine r_nil (r_next (r_if rfl (fun h7 => ?_) (fun h7 => ?_)))
  · have hF := cnd_t h7 hF
    refine r_seq (r_reg (r_op (t_bld (is := []) (xs := []) (ps := []) rfl tyB35q rfl rfl trivial rfl) trivial ?_))
    refine r_op0 (t_s 0 rfl rfl rfl tyA35.s) ⟨rfl, rfl, trivial⟩ ?_
    refine r_op (t_mv (.inr rfl)) ⟨k_I _ _, trivial⟩ ?_
    refine r_nil (r_next (r_ret (r_toR ?_)))
    obtain rfl := sm1 hF
    exact r_done1 (.inl rfl) Tryz.results15 (rv_cell 0 4 rfl rfl rfl rfl (.agg tyA35) (.tmp rfl .nil)) rfl rfl
  · have hF := cnd_f h7 hF
    refine r_skip (r_next (r_seq (r_reg (r_op (t_l 1 1 rfl rfl rfl rfl (.one tyO29)) ⟨rfl, trivial⟩ ?_))))
    refine r_op (t_ln rfl tyS29) ⟨rfl, trivial⟩ ?_
    refine r_fvL 1 [(5, 0)] rfl ⟨rfl, trivial⟩ rfl ?_
    refine r_fvL 1 [(4, 0)] rfl ⟨rfl, trivial⟩ rfl ?_
    refine r_fvL 1 [(3, 0)] rfl ⟨rfl, trivial⟩ rfl ?_
    refine r_op (t_fnF (φ := (F_energy_Momentum_1 a2 a1 a0)) (pre := fun x : Int => [.vc (pI .i64 x)]) (post := fun r : Rat => .va (eQ r)) (xs := [.tmp 5, .tmp 4, .tmp 3]) (cs := [pM ((cSl api_Term.cod).e a2), pM ((cSl cQ).e a1), pM ((cSl api_Dof.cod).e a0)]) rfl rfl (fun x r h => ct_energy_Momentum_1 h)) ⟨rfl, rfl, rfl, trivial⟩ ?_
    refine r_op (t_bld (is := [0, 1]) (xs := [.tmp 15, .tmp 16]) (ps := [.vc (pI .i64 (a2.length : Int)), .vc (pFn Tryz.prog (fun x : Int => [.vc (pI .i64 x)]) (fun r : Rat => .va (eQ r)) (F_energy_Momentum_1 a2 a1 a0))]) rfl tyB104q rfl rfl ⟨trivial, trivial, trivial⟩ rfl) ⟨rfl, rfl, trivial⟩ ?_
    refine r_op (t_bs (C := energy_account.cod) (xs := [.tmp 17]) (ps := [.va ([pI .i64 (a2.length : Int)] ++ [pFn Tryz.prog (fun x : Int => [.vc (pI .i64 x)]) (fun r : Rat => .va (eQ r)) (F_energy_Momentum_1 a2 a1 a0)])]) (zs := [(⟨(a2.length : Int), (F_energy_Momentum_1 a2 a1 a0)⟩ : energy_account)]) rfl tyS155 rfl ⟨⟨trivial, rfl⟩, trivial⟩ rfl) ⟨rfl, trivial⟩ ?_
    obtain ⟨v8, h9, hF⟩ := bnd hF
    refine r_op (t_call rfl (ct_energy_sum h9) rfl) ⟨rfl, trivial⟩ ?_
    refine r_op0 (t_s 0 rfl rfl rfl tyA35.s) ⟨rfl, rfl, trivial⟩ ?_
    refine r_op (t_mv (.inr rfl)) ⟨k_I _ _, trivial⟩ ?_
    refine r_nil (r_next (r_ret (r_toR ?_)))
    obtain rfl := sm1 hF
    exact r_done1 (.inl rfl) Tryz.results15 (rv_cell 0 4 rfl rfl rfl rfl (.agg tyA35) (.tmp rfl .nil)) rfl rfl

abbrev N_matrix_cols : Nat := 101
def F_matrix_cols (a0 : List (List Rat)) : Option Int :=
  bif ((a0.length : Int) == 0) then (some 0) else ((rdL a0 0).bind fun v2 => some (v2.length : Int))
set_option maxRecDepth 100000 in
theorem ct_matrix_cols {a0 : List (List Rat)} {r : Int} (hF : F_matrix_cols a0 = some r) : Ct Tryz.prog 101 [.vc (pS (cSl cQ) a0)] (.vc (pI .i64 r)) := by
  unfold F_matrix_cols at hF
  refine ctO_intro Tryz.func101 rfl (by kernel_rfl) Tryz.ntmps101 rfl (fun w0 M0 => ?_)
  refine r_seq (r_reg (r_op (t_mv (.inr rfl)) ⟨k_I _ _, trivial⟩ ?_))
  refine r_nil (r_next (r_seq (r_seq (r_reg (r_mv ?_)))))
  refine r_op (t_ln rfl tyS47) ⟨rfl, trivial⟩ ?_
  refine r_op (t_eq rfl) ⟨rfl, k_I _ _, trivial⟩ ?_
  refine r_nil (r_next (r_if rfl (fun h1 => ?_) (fun h1 => ?_)))
  · have hF := cnd_t h1 hF
    refine r_seq (r_reg (r_op (t_mv (.inr rfl)) ⟨k_I _ _, trivial⟩ ?_))
    refine r_nil (r_next (r_ret (r_toR ?_)))
    obtain rfl := sm1 hF
    exact r_done1 (.inl rfl) Tryz.results101 (.tmp rfl .nil) rfl rfl
  · have hF := cnd_f h1 hF
    refine r_skip (r_next (r_seq (r_reg (r_mv ?_))))
    obtain ⟨v2, h3, hF⟩ := bnd hF
    refine r_op (t_ix rfl tyS47 h3) ⟨rfl, k_I _ _, trivial⟩ ?_
    refine r_op (t_lM 1 rfl rfl (.one tyO24)) ⟨rfl, trivial⟩ ?_
    refine r_op (t_ln rfl tyS24) ⟨rfl, trivial⟩ ?_
    refine r_as ?_
    refine r_nil (r_next (r_ret (r_toR ?_)))
    obtain rfl := sm1 hF
    exact r_done1 (.inl rfl) Tryz.results101 (.tmp rfl .nil) rfl rfl

abbrev N_slices_IndexFunc_Rat : Nat := 147
def F_slices_IndexFunc_Rat_j4 (K : Nat) : Option Int :=
  some (-1)
def F_slices_IndexFunc_Rat_l3 (K : Nat) (a0 : List (List Rat)) (a1 : ((List Rat) → Option Bool)) : Nat → Int → Option (LR Int Unit)
  | 0, _ => none
  | k + 1, x2 => bif (decide (x2 < (a0.length : Int))) then ((rdL a0 x2).bind fun v6 => (a1 v6).bind fun v8 => bif v8 then (some (.ret x2)) else ((chk (x2 + 1)).bind fun v11 => F_slices_IndexFunc_Rat_l3 K a0 a1 k v11)) else (some (.go ()))
def F_slices_IndexFunc_Rat (K : Nat) (a0 : List (List Rat)) (a1 : ((List Rat) → Option Bool)) : Option Int :=
  (F_slices_IndexFunc_Rat_l3 K a0 a1 K 0).bind fun o => match o with | .ret r => some r | .go _ => F_slices_IndexFunc_Rat_j4 K 
set_option maxRecDepth 100000 in
theorem ct_slices_IndexFunc_Rat {K : Nat} {a0 : List (List Rat)} {a1 : ((List Rat) → Option Bool)} {r : Int} (hF : F_slices_IndexFunc_Rat K a0 a1 = some r) : Ct Tryz.prog 147 [.vc (pS (cSl cQ) a0), .vc (pFn Tryz.prog (fun x : (List Rat) => [.vc (pS cQ x)]) (fun r : Bool => .vc (pB r)) a1)] (.vc (pI .i64 r)) := by
  unfold F_slices_IndexFunc_Rat at hF
  refine ctO_intro Tryz.func147 rfl (by kernel_rfl) Tryz.ntmps147 rfl (fun w0 M0 => ?_)
  refine r_seq (r_reg (r_op (t_mv (.inr rfl)) ⟨k_I _ _, trivial⟩ ?_))
  refine r_nil (r_next (r_seq (r_seq (r_reg (r_mv ?_)))))
  refine r_op (t_ln rfl tyS47) ⟨rfl, trivial⟩ ?_
  refine r_op (t_mv (.inl rfl)) ⟨k_I _ _, trivial⟩ ?_
  refine r_nil (r_next (r_blk (r_cutN (fun H E => F_slices_IndexFunc_Rat_j4 K = some r ∧ H = [] ∧ E = []) ?_ (fun Jj4 => ?_))))
  · rintro _ _ ⟨hF, rfl, rfl⟩
    unfold F_slices_IndexFunc_Rat_j4 at hF
    refine r_next (r_seq (r_reg (r_op (t_mv (.inr rfl)) ⟨k_I _ _, trivial⟩ ?_)))
    refine r_nil (r_next (r_ret (r_toR ?_)))
    obtain rfl := sm1 hF
    exact r_done1 (.inl rfl) Tryz.results147 (.tmp rfl .nil) rfl rfl
  · skip
    obtain ⟨ol3, hL, hRl3⟩ := bnd hF
    refine r_lp (fun k a w => ∃ (x2 : Int), F_slices_IndexFunc_Rat_l3 K a0 a1 k x2 = some ol3 ∧ hs _ [] [(0, .vc (pS (cSl cQ) a0)), (1, .vc (pFn Tryz.prog (fun x : (List Rat) => [.vc (pS cQ x)]) (fun r : Bool => .vc (pB r)) a1)), (7, .vc (pI .i64 (a0.length : Int))), (8, .vc (pI .i64 x2))] a w) K (fun a w ⟨_, hF, _⟩ => by cases hF) (fun k a w ⟨x2, hF, hh⟩ => r_at ?_ hh) (fun a w hh => ⟨0, hL, hs_back [] rfl (by decide) (by exact ⟨rfl, rfl, rfl, rfl, trivial⟩) hh⟩)
    rw [F_slices_IndexFunc_Rat_l3.eq_2] at hF
    refine r_seq (r_reg (r_op (t_lt rfl) ⟨rfl, rfl, trivial⟩ ?_))
    refine r_nil (r_next (r_seq (r_if rfl (fun h5 => ?_) (fun h5 => ?_))))
    · have hF := cnd_t h5 hF
      refine r_skip (r_next (r_seq (r_blk (r_seq (r_reg (r_mv ?_))))))
      refine r_as ?_
      refine r_nil (r_next (r_seq (r_reg (r_mv ?_))))
      refine r_mv ?_
      refine r_mv ?_
      obtain ⟨v6, h7, hF⟩ := bnd hF
      refine r_op (t_ix rfl tyS47 h7) ⟨rfl, rfl, trivial⟩ ?_
      refine r_op (t_lM 1 rfl rfl (.one tyO24)) ⟨rfl, trivial⟩ ?_
      obtain ⟨v8, h9, hF⟩ := bnd hF
      refine r_op (t_callF (pre := fun x : (List Rat) => [.vc (pS cQ x)]) (post := fun r : Bool => .vc (pB r)) (x := v6) (r := v8) rfl h9 rfl) ⟨rfl, rfl, trivial⟩ ?_
      refine r_nil (r_next (r_if rfl (fun h10 => ?_) (fun h10 => ?_)))
      · have hF := cnd_t h10 hF
        refine r_seq (r_reg (r_mv ?_))
        refine r_as ?_
        refine r_nil (r_next (r_ret (r_toR ?_)))
        obtain rfl := sm1 hF
        obtain rfl := sm1 hRl3
        exact r_done1 (.inl rfl) Tryz.results147 (.tmp rfl .nil) rfl rfl
      · have hF := cnd_f h10 hF
        refine r_skip (r_blkN (r_next (r_reg ?_)))
        obtain ⟨v11, h12, hF⟩ := bnd hF
        refine r_op (t_add rfl h12) ⟨rfl, k_I _ _, trivial⟩ ?_
        refine r_mv ?_
        refine r_nil ?_
        exact r_round (fun a w hh => ⟨v11, hF, hs_back [] rfl (by decide) (by exact ⟨rfl, rfl, rfl, rfl, trivial⟩) hh⟩)
    · have hF := cnd_f h5 hF
      refine r_brk ?_
      obtain rfl := sm1 hF
      exact r_backJ Jj4 ⟨hRl3, rfl, rfl⟩ [] rfl trivial

abbrev N_slices_ContainsFunc_Rat : Nat := 123
def F_slices_ContainsFunc_Rat (K : Nat) (a0 : List (List Rat)) (a1 : ((List Rat) → Option Bool)) : Option Bool :=
  (F_slices_IndexFunc_Rat K a0 a1).bind fun v1 => some (decide (0 ≤ v1))
set_option maxRecDepth 100000 in
theorem ct_slices_ContainsFunc_Rat {K : Nat} {a0 : List (List Rat)} {a1 : ((List Rat) → Option Bool)} {r : Bool} (hF : F_slices_ContainsFunc_Rat K a0 a1 = some r) : Ct Tryz.prog 123 [.vc (pS (cSl cQ) a0), .vc (pFn Tryz.prog (fun x : (List Rat) => [.vc (pS cQ x)]) (fun r : Bool => .vc (pB r)) a1)] (.vc (pB r)) := by
  unfold F_slices_ContainsFunc_Rat at hF
  refine ctO_intro Tryz.func123 rfl (by kernel_rfl) Tryz.ntmps123 rfl (fun w0 M0 => ?_)
  refine r_seq (r_reg (r_op (t_mv (.inr rfl)) ⟨k_B _, trivial⟩ ?_))
  refine r_nil (r_next (r_seq (r_reg (r_mv ?_))))
  refine r_mv ?_
  obtain ⟨v1, h2, hF⟩ := bnd hF
  refine r_op (t_call rfl (ct_slices_IndexFunc_Rat h2) rfl) ⟨rfl, rfl, trivial⟩ ?_
  refine r_op (t_ge rfl) ⟨rfl, k_I _ _, trivial⟩ ?_
  refine r_as ?_
  refine r_nil (r_next (r_ret (r_toR ?_)))
  obtain rfl := sm1 hF
  exact r_done1 (.inl rfl) Tryz.results123 (.tmp rfl .nil) rfl rfl

abbrev N_matrix_Valid_1 : Nat := 124
def F_matrix_Valid_1 (c0 : List (List Rat)) (a0 : List Rat) : Option Bool :=
  (rdL c0 0).bind fun v1 => some ((a0.length : Int) != (v1.length : Int))
set_option maxRecDepth 100000 in
theorem ct_matrix_Valid_1 {c0 : List (List Rat)} {a0 : List Rat} {r : Bool} (hF : F_matrix_Valid_1 c0 a0 = some r) : Ct Tryz.prog 124 [.vc (pS cQ a0), .vc (pM ((cSl (cSl cQ)).e c0))] (.vc (pB r)) := by
  unfold F_matrix_Valid_1 at hF
  refine ctO_intro Tryz.func124 rfl (by kernel_rfl) Tryz.ntmps124 rfl (fun w0 M0 => ?_)
  refine r_seq (r_reg (r_op (t_mv (.inr rfl)) ⟨k_B _, trivial⟩ ?_))
  refine r_nil (r_next (r_seq (r_reg (r_mv ?_))))
  refine r_op (t_ln rfl tyS24) ⟨rfl, trivial⟩ ?_
  refine r_op (t_lM 1 rfl rfl (.one tyO47)) ⟨rfl, trivial⟩ ?_
  obtain ⟨v1, h2, hF⟩ := bnd hF
  refine r_op (t_ix rfl tyS47 h2) ⟨rfl, k_I _ _, trivial⟩ ?_
  refine r_op (t_lM 1 rfl rfl (.one tyO24)) ⟨rfl, trivial⟩ ?_
  refine r_op (t_ln rfl tyS24) ⟨rfl, trivial⟩ ?_
  refine r_op (t_ne rfl) ⟨rfl, rfl, trivial⟩ ?_
  refine r_as ?_
  refine r_nil (r_next (r_ret (r_toR ?_)))
  obtain rfl := sm1 hF
  exact r_done1 (.inl rfl) Tryz.results124 (.tmp rfl .nil) rfl rfl

abbrev N_matrix_Valid : Nat := 61
def F_matrix_Valid (K : Nat) (a0 : List (List Rat)) : Option Bool :=
  bif (decide ((a0.length : Int) ≤ 64)) then ((F_matrix_cols a0).bind fun v3 => bif (decide (v3 ≤ 64)) then ((F_slices_ContainsFunc_Rat K a0 (F_matrix_Valid_1 a0)).bind fun v6 => some (!v6)) else (some false)) else (some false)
set_option maxRecDepth 100000 in
theorem ct_matrix_Valid {K : Nat} {a0 : List (List Rat)} {r : Bool} (hF : F_matrix_Valid K a0 = some r) : Ct Tryz.prog 61 [.vc (pS (cSl cQ) a0)] (.vc (pB r)) := by
  unfold F_matrix_Valid at hF
  refine ctO_intro Tryz.func61 rfl (by kernel_rfl) Tryz.ntmps61 rfl (fun w0 M0 => ?_)
  refine r_seq (r_reg (r_box rfl rfl trivial (fun b1 => ?_)))
  refine r_op (t_mv (.inr rfl)) ⟨k_B _, trivial⟩ ?_
  refine r_nil (r_next (r_seq (r_reg (r_op (t_l 0 1 rfl rfl rfl rfl (.one tyO47)) ⟨rfl, trivial⟩ ?_))))
  refine r_op (t_ln rfl tyS47) ⟨rfl, trivial⟩ ?_
  refine r_op (t_le rfl) ⟨rfl, k_I _ _, trivial⟩ ?_
  refine r_mv ?_
  refine r_bool (fun h2 => ?_) (fun h2 => ?_)
  · have hF := cnd_t h2 hF
    refine r_opg (t_l 0 1 rfl rfl rfl rfl (.one tyO47)) ⟨rfl, trivial⟩ ?_
    obtain ⟨v3, h4, hF⟩ := bnd hF
    refine r_opg (t_call rfl (ct_matrix_cols h4) rfl) ⟨rfl, trivial⟩ ?_
    refine r_opg (t_le rfl) ⟨rfl, k_I _ _, trivial⟩ ?_
    refine r_op (t_pickT rfl) ⟨rfl, rfl, trivial⟩ ?_
    refine r_mv ?_
    refine r_bool (fun h5 => ?_) (fun h5 => ?_)
    · have hF := cnd_t h5 hF
      refine r_opg (t_l 0 1 rfl rfl rfl rfl (.one tyO47)) ⟨rfl, trivial⟩ ?_
      refine r_fvL 0 [(1, 0)] rfl ⟨rfl, trivial⟩ rfl ?_
      refine r_opg (t_fnF (φ := (F_matrix_Valid_1 a0)) (pre := fun x : (List Rat) => [.vc (pS cQ x)]) (post := fun r : Bool => .vc (pB r)) (xs := [.tmp 1]) (cs := [pM ((cSl (cSl cQ)).e a0)]) rfl rfl (fun x r h => ct_matrix_Valid_1 h)) ⟨rfl, trivial⟩ ?_
      obtain ⟨v6, h7, hF⟩ := bnd hF
      refine r_opg (t_call rfl (ct_slices_ContainsFunc_Rat h7) rfl) ⟨rfl, rfl, trivial⟩ ?_
      refine r_opg (t_not rfl) ⟨rfl, trivial⟩ ?_
      refine r_op (t_pickT rfl) ⟨rfl, rfl, trivial⟩ ?_
      refine r_as ?_
      refine r_nil (r_next (r_ret (r_toR ?_)))
      obtain rfl := sm1 hF
      exact r_done1 (.inl rfl) Tryz.results61 (.tmp rfl .nil) rfl rfl
    · have hF := cnd_f h5 hF
      refine r_opn ?_
      refine r_opn ?_
      refine r_opn ?_
      refine r_opn ?_
      refine r_op (t_pickF rfl) ⟨rfl, k_B _, trivial⟩ ?_
      refine r_as ?_
      refine r_nil (r_next (r_ret (r_toR ?_)))
      obtain rfl := sm1 hF
      exact r_done1 (.inl rfl) Tryz.results61 (.tmp rfl .nil) rfl rfl
  · have hF := cnd_f h2 hF
    refine r_opn ?_
    refine r_opn ?_
    refine r_opn ?_
    refine r_op (t_pickF rfl) ⟨rfl, k_B _, trivial⟩ ?_
    refine r_mv ?_
    refine r_opn ?_
    refine r_opn ?_
    refine r_opn ?_
    refine r_opn ?_
    refine r_op (t_pickF rfl) ⟨rfl, k_B _, trivial⟩ ?_
    refine r_as ?_
    refine r_nil (r_next (r_ret (r_toR ?_)))
    obtain rfl := sm1 hF
    exact r_done1 (.inl rfl) Tryz.results61 (.tmp rfl .nil) rfl rfl

abbrev N_slices_Clone_Rat : Nat := 108
def F_slices_Clone_Rat (a0 : List Rat) : Option (List Rat) :=
  (apL ([] : List Rat) a0).bind fun x9 => some x9
set_option maxRecDepth 100000 in
theorem ctO_slices_Clone_Rat {a0 : List Rat} {r : List Rat} (hF : F_slices_Clone_Rat a0 = some r) : CtO Tryz.prog 108 [] [.vc (pS cQ a0)] (fun Ho q => ∃ b18 c19 n17, r.length = n17 ∧ Ho = [hO cQ b18 c19 35 n17 r] ∧ q = .vc (pO b18 n17 c19)) := by
  unfold F_slices_Clone_Rat at hF
  refine ctO_intro Tryz.func108 rfl (by kernel_rfl) Tryz.ntmps108 rfl (fun w0 M0 => ?_)
  refine r_seq (r_reg (r_nilO cQ 35 rfl ?_))
  refine r_nil (r_next (r_seq (r_seq (r_reg (r_mv ?_)))))
  refine r_isnil rfl Tryz.underlying24 rfl (fun h3 => ?_) ?_
  · skip
    subst h3
    have hF : some ([] : List Rat) = some r := by simpa [apL] using hF
    refine r_nil (r_next (r_ifT rfl ?_))
    refine r_seq (r_reg (r_nilO cQ 35 rfl ?_))
    refine r_nil (r_next (r_ret (r_toR ?_)))
    obtain rfl := sm1 hF
    exact r_done (.inl rfl) Tryz.results108 (.tmp rfl .nil) rfl [0] rfl (by decide) ⟨none, 0, 0, rfl, rfl, rfl⟩
  · skip
    refine r_nil (r_next (r_ifF rfl ?_))
    refine r_skip (r_next (r_seq (r_reg (r_hv (hv_bs (C := cQ) (xs := []) (ps := []) (zs := ([] : List Rat)) rfl tyS24 rfl trivial rfl) trivial (fun b6 _ => ?_)))))
    refine r_mv ?_
    obtain ⟨x9, h10, hF⟩ := bnd hF
    refine r_app 0 rfl tyS24 rfl rfl rfl rfl rfl h10 (fun b11 c12 H13 e14 => ?_)
    cases e14
    refine r_as ?_
    refine r_nil (r_next (r_ret (r_toR ?_)))
    obtain rfl := sm1 hF
    exact r_done (.inl rfl) Tryz.results108 (.tmp rfl .nil) rfl [0] rfl (by decide) ⟨b11, c12, (0 + a0.length), (apL_len h10 rfl), rfl, rfl⟩
theorem ct_slices_Clone_Rat {a0 : List Rat} {r : List Rat} (hF : F_slices_Clone_Rat a0 = some r) : Ct Tryz.prog 108 [.vc (pS cQ a0)] (.vc (pS cQ r)) := ct_ofO (ctO_slices_Clone_Rat hF)

abbrev N_matrix_reduce_1 : Nat := 146
def F_matrix_reduce_1_j67 (K : Nat) (c0 : ((List Nat × List (List Rat)) × List Int × Rat)) (x54 : List Nat) (x60 : List (List Rat)) : Option ((List Nat × List (List Rat)) × List Int × Rat) :=
  some ((x54, x60), c0.2.1, c0.2.2)
def F_matrix_reduce_1_l66 (K : Nat) (a0 : Int) (a1 : Int) (v22 : Rat) : Nat → (List Nat) → (List (List Rat)) → Int → Option ((List Nat) × (List (List Rat)))
  | 0, _, _, _ => none
  | k + 1, x41, x47, x53 => (rdL x41 a0).bind fun v68 => bif (decide (x53 < ((x47.getD v68 []).length : Int))) then ((rdL x41 a1).bind fun v71 => (rdL (x47.getD v71 []) x53).bind fun v73 => (qsgn v73).bind fun v75 => bif (v75 != 0) then ((rdL x41 a0).bind fun v80 => (rdL x41 a0).bind fun v82 => (rdL (x47.getD v82 []) x53).bind fun v84 => (rdL x41 a1).bind fun v86 => (rdL (x47.getD v86 []) x53).bind fun v88 => (qmul v22 v88).bind fun v90 => (qsub v84 v90).bind fun v92 => (rdL (x47.getD v80 []) x53).bind fun v94 => (stL (x47.getD v80 []) x53 v92).bind fun x96 => (chk (x53 + 1)).bind fun v99 => F_matrix_reduce_1_l66 K a0 a1 v22 k x41 (x47.set v80 x96) v99) else ((chk (x53 + 1)).bind fun v101 => F_matrix_reduce_1_l66 K a0 a1 v22 k x41 x47 v101)) else (some (x41, x47))
def F_matrix_reduce_1 (K : Nat) (c0 : ((List Nat × List (List Rat)) × List Int × Rat)) (a0 : Int) (a1 : Int) (a2 : Int) : Option ((List Nat × List (List Rat)) × List Int × Rat) :=
  (rdL c0.1.1 a0).bind fun v20 => (rdL (c0.1.2.getD v20 []) a2).bind fun v22 => (qsgn v22).bind fun v25 => bif (v25 == 0) then (some ((c0.1.1, c0.1.2), c0.2.1, c0.2.2)) else ((F_matrix_reduce_1_l66 K a0 a1 v22 K c0.1.1 c0.1.2 a2).bind fun (x54, x60) => F_matrix_reduce_1_j67 K c0 x54 x60)
set_option maxRecDepth 100000 in
theorem ctO_matrix_reduce_1 {K : Nat} {c0 : ((List Nat × List (List Rat)) × List Int × Rat)} {a0 : Int} {a1 : Int} {a2 : Int} {r : ((List Nat × List (List Rat)) × List Int × Rat)} (hF : F_matrix_reduce_1 K c0 a0 a1 a2 = some r) {p0 : Nat} {b5 : Option Nat} {c6 n4 : Nat} {g3 : List Hdr} {N9 : Nat} (q7 : c0.1.1.length = n4) (q10 : c0.1.2.length = N9) (q11 : LenOk g3 c0.1.2) (q12 : (∀ k ∈ c0.1.1, k < N9)) {b16 : Option Nat} {c17 n15 : Nat} (q18 : c0.2.1.length = n15) : CtO Tryz.prog 146 ([⟨some p0, 1, 136, 6, 1, ([pO b5 n4 c6] ++ [pO b16 n15 c17] ++ (eQ c0.2.2))⟩, hO (cH g3) b5 c6 24 n4 c0.1.1, hO cI b16 c17 3 n15 c0.2.1] ++ inn cQ 35 g3 c0.1.2) [.vc (pI .i64 a0), .vc (pI .i64 a1), .vc (pI .i64 a2), .vc (pP (some p0) 0)] (fun Ho q => ∃ b107 c108 n106 g105 N111, ∃ b118 c119 n117, r.1.1.length = n106 ∧ r.1.2.length = N111 ∧ LenOk g105 r.1.2 ∧ (∀ k ∈ r.1.1, k < N111) ∧ r.2.1.length = n117 ∧ Ho = ([⟨some p0, 1, 136, 6, 1, ([pO b107 n106 c108] ++ [pO b118 n117 c119] ++ (eQ r.2.2))⟩, hO (cH g105) b107 c108 24 n106 r.1.1, hO cI b118 c119 3 n117 r.2.1] ++ inn cQ 35 g105 r.1.2) ∧ q = .any) := by
  unfold F_matrix_reduce_1 at hF
  refine ctO_intro Tryz.func146 rfl (by kernel_rfl) Tryz.ntmps146 rfl (fun w0 M0 => ?_)
  refine r_seq (r_reg (r_op (t_fa (off := 0) (k := 0) rfl tyF136_0) ⟨rfl, trivial⟩ ?_))
  refine r_op (t_l 0 1 rfl rfl rfl rfl (.one tyO47)) ⟨rfl, trivial⟩ ?_
  refine r_mv ?_
  obtain ⟨v20, h21, hF⟩ := bnd hF
  refine r_op (t_ixE (C := (cH g3)) 1 rfl tyS47 rfl q7 (rdL_some h21).1 (rdL_some h21).2.1) ⟨rfl, rfl, trivial⟩ ?_
  refine r_op (t_ldE (C := (cH g3)) (k := 1) 1 rfl rfl h21 rfl (.one tyO24) rfl) ⟨rfl, trivial⟩ ?_
  refine r_mv ?_
  obtain ⟨v22, h23, hF⟩ := bnd hF
  refine r_op (t_ixE (3 + v20) rfl tyS24 (inn_p 3 rfl q11 q10 (q12 _ (rdL_mem h21))) (row_len q11 q10 (q12 _ (rdL_mem h21))) (rdL_some h23).1 (rdL_some h23).2.1) ⟨rfl, rfl, trivial⟩ ?_
  refine r_op (t_ldE (k := 4) (3 + v20) rfl (inn_p 3 rfl q11 q10 (q12 _ (rdL_mem h21))) h23 rfl (.agg tyA35) rfl) ⟨rfl, trivial⟩ ?_
  refine r_alloc rfl tyZ35q (fun b24 => ?_)
  refine r_op0 (t_s 0 rfl rfl rfl tyA35.s) ⟨rfl, rfl, trivial⟩ ?_
  refine r_nil (r_next (r_seq (r_seq (r_reg (r_op (t_l 0 4 rfl rfl rfl rfl (.agg tyA35)) ⟨rfl, trivial⟩ ?_)))))
  obtain ⟨v25, h26, hF⟩ := bnd hF
  refine r_op (t_call rfl (qc_rat_Sign h26) rfl) ⟨rfl, trivial⟩ ?_
  refine r_op (t_eq rfl) ⟨rfl, k_I _ _, trivial⟩ ?_
  refine r_nil (r_next (r_if rfl (fun h27 => ?_) (fun h27 => ?_)))
  · have hF := cnd_t h27 hF
    refine r_ret (r_toR ?_)
    obtain rfl := sm1 hF
    exact r_doneA (.inl rfl) Tryz.results146 .nil rfl 4 [1, 2, 3] rfl rfl (by decide) ⟨b5, c6, n4, g3, N9, b16, c17, n15, q7, q10, q11, q12, q18, rfl, rfl⟩
  · have hF := cnd_f h27 hF
    refine r_skip (r_next (r_seq (r_reg (r_mv ?_))))
    refine r_as ?_
    refine r_nil (r_next (r_blk (r_cutN (fun H E => ∃ (x54 : List Nat), ∃ (x60 : List (List Rat)), ∃ (b55 : Option Nat), ∃ (c56 : Nat), ∃ (n57 : Nat), ∃ (g61 : List Hdr), ∃ (N62 : Nat), F_matrix_reduce_1_j67 K c0 x54 x60 = some r ∧ x54.length = n57 ∧ x60.length = N62 ∧ LenOk g61 x60 ∧ (∀ k ∈ x54, k < N62) ∧ H = ([⟨some p0, 1, 136, 6, 1, ([pO b55 n57 c56] ++ [pO b16 n15 c17] ++ (eQ c0.2.2))⟩, hO (cH g61) b55 c56 24 n57 x54, hO cI b16 c17 3 n15 c0.2.1] ++ inn cQ 35 g61 x60) ∧ E = [(3, .vc (pP (some p0) 0))]) ?_ (fun Jj67 => ?_))))
    · rintro _ _ ⟨x54, x60, b55, c56, n57, g61, N62, hF, q58, q63, q64, q65, rfl, rfl⟩
      unfold F_matrix_reduce_1_j67 at hF
      obtain rfl := sm1 hF
      exact r_doneA (.inr rfl) Tryz.results146 .nil rfl 3 [0, 1, 2] rfl rfl (by decide) ⟨b55, c56, n57, g61, N62, b16, c17, n15, q58, q63, q64, q65, q18, rfl, rfl⟩
    · skip
      obtain ⟨⟨x54', x60'⟩, hL, hRl66⟩ := bnd hF
      refine r_lp (fun k a w => ∃ (x41 : List Nat), ∃ (x47 : List (List Rat)), ∃ (x53 : Int), ∃ (b42 : Option Nat), ∃ (c43 : Nat), ∃ (n44 : Nat), ∃ (g48 : List Hdr), ∃ (N49 : Nat), F_matrix_reduce_1_l66 K a0 a1 v22 k x41 x47 x53 = some (x54', x60') ∧ x41.length = n44 ∧ x47.length = N49 ∧ LenOk g48 x47 ∧ (∀ k ∈ x41, k < N49) ∧ hs _ ([⟨some b24, 1, 35, 4, 1, (eQ v22)⟩, ⟨some p0, 1, 136, 6, 1, ([pO b42 n44 c43] ++ [pO b16 n15 c17] ++ (eQ c0.2.2))⟩, hO (cH g48) b42 c43 24 n44 x41, hO cI b16 c17 3 n15 c0.2.1] ++ inn cQ 35 g48 x47) [(0, .vc (pI .i64 a0)), (1, .vc (pI .i64 a1)), (3, .vc (pP (some p0) 0)), (7, .vc (pP (some b24) 0)), (8, .vc (pI .i64 x53))] a w) K (fun a w ⟨_, _, _, _, _, _, _, _, hF, _, _, _, _, _⟩ => by cases hF) (fun k a w ⟨x41, x47, x53, b42, c43, n44, g48, N49, hF, q45, q50, q51, q52, hh⟩ => r_at ?_ hh) (fun a w hh => ⟨c0.1.1, c0.1.2, a2, b5, c6, n4, g3, N9, hL, q7, q10, q11, q12, hs_backA 4 [0, 1, 2, 3] rfl rfl (by decide) (by exact ⟨rfl, rfl, rfl, rfl, rfl, trivial⟩) hh⟩)
      rw [F_matrix_reduce_1_l66.eq_2] at hF
      refine r_seq (r_seq (r_reg (r_mv ?_)))
      refine r_op (t_fa (off := 0) (k := 0) rfl tyF136_0) ⟨rfl, trivial⟩ ?_
      refine r_op (t_l 1 1 rfl rfl rfl rfl (.one tyO47)) ⟨rfl, trivial⟩ ?_
      refine r_mv ?_
      obtain ⟨v68, h69, hF⟩ := bnd hF
      refine r_op (t_ixE (C := (cH g48)) 2 rfl tyS47 rfl q45 (rdL_some h69).1 (rdL_some h69).2.1) ⟨rfl, rfl, trivial⟩ ?_
      refine r_op (t_ldE (C := (cH g48)) (k := 1) 2 rfl rfl h69 rfl (.one tyO24) rfl) ⟨rfl, trivial⟩ ?_
      refine r_op (t_lnE (C := cQ) (xs := (x47.getD v68 [])) (T := 35) rfl tyS24 (row_len q51 q50 (q52 _ (rdL_mem h69)))) ⟨rfl, trivial⟩ ?_
      refine r_op (t_lt rfl) ⟨rfl, rfl, trivial⟩ ?_
      refine r_nil (r_next (r_if rfl (fun h70 => ?_) (fun h70 => ?_)))
      · have hF := cnd_t h70 hF
        refine r_skip (r_next (r_seq (r_blk (r_seq (r_reg (r_op (t_fa (off := 0) (k := 0) rfl tyF136_0) ⟨rfl, trivial⟩ ?_))))))
        refine r_op (t_l 1 1 rfl rfl rfl rfl (.one tyO47)) ⟨rfl, trivial⟩ ?_
        refine r_mv ?_
        obtain ⟨v71, h72, hF⟩ := bnd hF
        refine r_op (t_ixE (C := (cH g48)) 2 rfl tyS47 rfl q45 (rdL_some h72).1 (rdL_some h72).2.1) ⟨rfl, rfl, trivial⟩ ?_
        refine r_op (t_ldE (C := (cH g48)) (k := 1) 2 rfl rfl h72 rfl (.one tyO24) rfl) ⟨rfl, trivial⟩ ?_
        refine r_mv ?_
        obtain ⟨v73, h74, hF⟩ := bnd hF
        refine r_op (t_ixE (4 + v71) rfl tyS24 (inn_p 4 rfl q51 q50 (q52 _ (rdL_mem h72))) (row_len q51 q50 (q52 _ (rdL_mem h72))) (rdL_some h74).1 (rdL_some h74).2.1) ⟨rfl, rfl, trivial⟩ ?_
        refine r_op (t_ldE (k := 4) (4 + v71) rfl (inn_p 4 rfl q51 q50 (q52 _ (rdL_mem h72))) h74 rfl (.agg tyA35) rfl) ⟨rfl, trivial⟩ ?_
        obtain ⟨v75, h76, hF⟩ := bnd hF
        refine r_op (t_call rfl (qc_rat_Sign h76) rfl) ⟨rfl, trivial⟩ ?_
        refine r_op (t_ne rfl) ⟨rfl, k_I _ _, trivial⟩ ?_
        refine r_nil (r_next (r_if rfl (fun h77 => ?_) (fun h77 => ?_)))
        · have hF := cnd_t h77 hF
          obtain ⟨v80, h81, hF⟩ := bnd hF
          obtain ⟨v82, h83, hF⟩ := bnd hF
          obtain ⟨v84, h85, hF⟩ := bnd hF
          obtain ⟨v86, h87, hF⟩ := bnd hF
          obtain ⟨v88, h89, hF⟩ := bnd hF
          obtain ⟨v90, h91, hF⟩ := bnd hF
          obtain ⟨v92, h93, hF⟩ := bnd hF
          obtain ⟨v94, h95, hF⟩ := bnd hF
          refine r_draw (0 :: 1 :: 0 :: 7 :: 15 :: 0 :: 0 :: 64 :: 0 :: 448 :: 960 :: 0 :: 4032 :: 8128 :: 0 :: 0 :: 32768 :: 0 :: 229376 :: 491520 :: 0 :: 2064384 :: 4161536 :: 8372224 :: 16777152 :: 33554431 :: 67108863 :: []) 26 1 (.v (.vc (pP (some p0) 0)) :: .v (.vc (pO b42 n44 c43)) :: .v (.vc (pI .i64 a0)) :: .v (.vc (pE b42 a0 (cH g48).n 0)) :: .v (.vc (pO (hdr g48 v80).1 (hdr g48 v80).2.1 (hdr g48 v80).2.2)) :: .v (.vc (pI .i64 x53)) :: .v (.vc (pP (some p0) 0)) :: .v (.vc (pO b42 n44 c43)) :: .v (.vc (pI .i64 a0)) :: .v (.vc (pE b42 a0 (cH g48).n 0)) :: .v (.vc (pO (hdr g48 v82).1 (hdr g48 v82).2.1 (hdr g48 v82).2.2)) :: .v (.vc (pI .i64 x53)) :: .v (.vc (pE (hdr g48 v82).1 x53 cQ.n 0)) :: .v (.va (eQ v84)) :: .v (.va (eQ v22)) :: .v (.vc (pP (some p0) 0)) :: .v (.vc (pO b42 n44 c43)) :: .v (.vc (pI .i64 a1)) :: .v (.vc (pE b42 a1 (cH g48).n 0)) :: .v (.vc (pO (hdr g48 v86).1 (hdr g48 v86).2.1 (hdr g48 v86).2.2)) :: .v (.vc (pI .i64 x53)) :: .v (.vc (pE (hdr g48 v86).1 x53 cQ.n 0)) :: .v (.va (eQ v88)) :: .v (.va (eQ v90)) :: .v (.va (eQ v92)) :: .v (.vc (pE (hdr g48 v80).1 x53 cQ.n 0)) :: []) Tryz_mixed ⟨⟨rfl, .run (lo := 0) (n := 1) ⟨fun G78 A => t_fa (off := 0) (k := 0) rfl tyF136_0, trivial⟩ (fun G78 => ⟨rfl, trivial⟩)⟩, ⟨rfl, .run (lo := 0) (n := 1) ⟨fun G78 A => t_l 1 1 rfl rfl rfl rfl (.one tyO47), trivial⟩ (fun G78 => ⟨rfl, trivial⟩)⟩, ⟨rfl, .run (lo := 0) (n := 1) ⟨fun G78 A => t_mv (.inl rfl), trivial⟩ (fun G78 => ⟨rfl, trivial⟩)⟩, ⟨rfl, .run (lo := 0) (n := 1) ⟨fun G78 A => t_ixE (C := (cH g48)) 2 rfl tyS47 rfl q45 (rdL_some h81).1 (rdL_some h81).2.1, trivial⟩ (fun G78 => ⟨rfl, rfl, trivial⟩)⟩, ⟨rfl, .run (lo := 0) (n := 1) ⟨fun G78 A => t_ldE (C := (cH g48)) (k := 1) 2 rfl rfl h81 rfl (.one tyO24) rfl, trivial⟩ (fun G78 => ⟨rfl, trivial⟩)⟩, ⟨rfl, .run (lo := 0) (n := 1) ⟨fun G78 A => t_mv (.inl rfl), trivial⟩ (fun G78 => ⟨rfl, trivial⟩)⟩, ⟨rfl, .run (lo := 0) (n := 1) ⟨fun G78 A => t_fa (off := 0) (k := 0) rfl tyF136_0, trivial⟩ (fun G78 => ⟨rfl, trivial⟩)⟩, ⟨rfl, .run (lo := 0) (n := 1) ⟨fun G78 A => t_l 1 1 rfl rfl rfl rfl (.one tyO47), trivial⟩ (fun G78 => ⟨rfl, trivial⟩)⟩, ⟨rfl, .run (lo := 0) (n := 1) ⟨fun G78 A => t_mv (.inl rfl), trivial⟩ (fun G78 => ⟨rfl, trivial⟩)⟩, ⟨rfl, .run (lo := 0) (n := 1) ⟨fun G78 A => t_ixE (C := (cH g48)) 2 rfl tyS47 rfl q45 (rdL_some h83).1 (rdL_some h83).2.1, trivial⟩ (fun G78 => ⟨rfl, rfl, trivial⟩)⟩, ⟨rfl, .run (lo := 0) (n := 1) ⟨fun G78 A => t_ldE (C := (cH g48)) (k := 1) 2 rfl rfl h83 rfl (.one tyO24) rfl, trivial⟩ (fun G78 => ⟨rfl, trivial⟩)⟩, ⟨rfl, .run (lo := 0) (n := 1) ⟨fun G78 A => t_mv (.inl rfl), trivial⟩ (fun G78 => ⟨rfl, trivial⟩)⟩, ⟨rfl, .run (lo := 0) (n := 1) ⟨fun G78 A => t_ixE (4 + v82) rfl tyS24 (inn_pA 4 rfl q51 q50 (q52 _ (rdL_mem h83))) (row_len q51 q50 (q52 _ (rdL_mem h83))) (rdL_some h85).1 (rdL_some h85).2.1, trivial⟩ (fun G78 => ⟨rfl, rfl, trivial⟩)⟩, ⟨rfl, .run (lo := 0) (n := 1) ⟨fun G78 A => t_ldE (k := 4) (4 + v82) rfl (inn_pA 4 rfl q51 q50 (q52 _ (rdL_mem h83))) h85 rfl (.agg tyA35) rfl, trivial⟩ (fun G78 => ⟨rfl, trivial⟩)⟩, ⟨rfl, .run (lo := 0) (n := 1) ⟨fun G78 A => t_l 0 4 rfl rfl rfl rfl (.agg tyA35), trivial⟩ (fun G78 => ⟨rfl, trivial⟩)⟩, ⟨rfl, .run (lo := 0) (n := 1) ⟨fun G78 A => t_fa (off := 0) (k := 0) rfl tyF136_0, trivial⟩ (fun G78 => ⟨rfl, trivial⟩)⟩, ⟨rfl, .run (lo := 0) (n := 1) ⟨fun G78 A => t_l 1 1 rfl rfl rfl rfl (.one tyO47), trivial⟩ (fun G78 => ⟨rfl, trivial⟩)⟩, ⟨rfl, .run (lo := 0) (n := 1) ⟨fun G78 A => t_mv (.inl rfl), trivial⟩ (fun G78 => ⟨rfl, trivial⟩)⟩, ⟨rfl, .run (lo := 0) (n := 1) ⟨fun G78 A => t_ixE (C := (cH g48)) 2 rfl tyS47 rfl q45 (rdL_some h87).1 (rdL_some h87).2.1, trivial⟩ (fun G78 => ⟨rfl, rfl, trivial⟩)⟩, ⟨rfl, .run (lo := 0) (n := 1) ⟨fun G78 A => t_ldE (C := (cH g48)) (k := 1) 2 rfl rfl h87 rfl (.one tyO24) rfl, trivial⟩ (fun G78 => ⟨rfl, trivial⟩)⟩, ⟨rfl, .run (lo := 0) (n := 1) ⟨fun G78 A => t_mv (.inl rfl), trivial⟩ (fun G78 => ⟨rfl, trivial⟩)⟩, ⟨rfl, .run (lo := 0) (n := 1) ⟨fun G78 A => t_ixE (4 + v86) rfl tyS24 (inn_pA 4 rfl q51 q50 (q52 _ (rdL_mem h87))) (row_len q51 q50 (q52 _ (rdL_mem h87))) (rdL_some h89).1 (rdL_some h89).2.1, trivial⟩ (fun G78 => ⟨rfl, rfl, trivial⟩)⟩, ⟨rfl, .run (lo := 0) (n := 1) ⟨fun G78 A => t_ldE (k := 4) (4 + v86) rfl (inn_pA 4 rfl q51 q50 (q52 _ (rdL_mem h87))) h89 rfl (.agg tyA35) rfl, trivial⟩ (fun G78 => ⟨rfl, trivial⟩)⟩, ⟨rfl, .run (lo := 0) (n := 1) ⟨fun G78 A => t_call rfl (qc_rat_Mul h91) rfl, trivial⟩ (fun G78 => ⟨rfl, rfl, trivial⟩)⟩, ⟨rfl, .run (lo := 0) (n := 1) ⟨fun G78 A => t_call rfl (qc_rat_Sub h93) rfl, trivial⟩ (fun G78 => ⟨rfl, rfl, trivial⟩)⟩, ⟨rfl, .run (lo := 0) (n := 1) ⟨fun G78 A => t_ixE (4 + v80) rfl tyS24 (inn_pA 4 rfl q51 q50 (q52 _ (rdL_mem h81))) (row_len q51 q50 (q52 _ (rdL_mem h81))) (rdL_some h95).1 (rdL_some h95).2.1, trivial⟩ (fun G78 => ⟨rfl, rfl, trivial⟩)⟩, trivial⟩ (fun bs79 G78 => ?_)
          obtain ⟨x96, h97, hF⟩ := bnd hF
          refine r_op0 (t_stE (H' := ([⟨some b24, 1, 35, 4, 1, (eQ v22)⟩, ⟨some p0, 1, 136, 6, 1, ([pO b42 n44 c43] ++ [pO b16 n15 c17] ++ (eQ c0.2.2))⟩, hO (cH g48) b42 c43 24 n44 x41, hO cI b16 c17 3 n15 c0.2.1] ++ inn cQ 35 g48 (x47.set v80 x96))) (4 + v80) rfl (inn_p 4 rfl q51 q50 (q52 _ (rdL_mem h81))) h95 h97 tyA35.s (hH := stN 4 rfl q51 q50 (q52 _ (rdL_mem h81)))) ⟨rfl, rfl, trivial⟩ ?_
          refine r_nil (r_blkN (r_next (r_reg (r_mv ?_))))
          obtain ⟨v99, h100, hF⟩ := bnd hF
          refine r_op (t_add rfl h100) ⟨rfl, k_I _ _, trivial⟩ ?_
          refine r_as ?_
          refine r_nil ?_
          exact r_round (fun a w hh => ⟨x41, (x47.set v80 x96), v99, b42, c43, n44, g48, N49, hF, q45, (set_len q50), (set_ok q51 q50 (q52 _ (rdL_mem h81)) (stL_len h97 rfl)), q52, hs_backA 4 [0, 1, 2, 3] rfl rfl (by decide) (by exact ⟨rfl, rfl, rfl, rfl, rfl, trivial⟩) hh⟩)
        · have hF := cnd_f h77 hF
          refine r_skip (r_blkN (r_next (r_reg (r_mv ?_))))
          obtain ⟨v101, h102, hF⟩ := bnd hF
          refine r_op (t_add rfl h102) ⟨rfl, k_I _ _, trivial⟩ ?_
          refine r_as ?_
          refine r_nil ?_
          exact r_round (fun a w hh => ⟨x41, x47, v101, b42, c43, n44, g48, N49, hF, q45, q50, q51, q52, hs_backA 4 [0, 1, 2, 3] rfl rfl (by decide) (by exact ⟨rfl, rfl, rfl, rfl, rfl, trivial⟩) hh⟩)
      · have hF := cnd_f h70 hF
        refine r_brk ?_
        obtain ⟨rfl, rfl⟩ := sm2 hF
        exact r_backA Jj67 ⟨x41, x47, b42, c43, n44, g48, N49, hRl66, q45, q50, q51, q52, rfl, rfl⟩ 4 [1, 2, 3] rfl rfl ⟨rfl, trivial⟩

abbrev N_matrix_reduce_2 : Nat := 148
def F_matrix_reduce_2 (c0 : Int) (a0 : List Rat) : Option Bool :=
  (rdL a0 c0).bind fun v1 => (qsgn v1).bind fun v3 => some (v3 != 0)
set_option maxRecDepth 100000 in
theorem ct_matrix_reduce_2 {c0 : Int} {a0 : List Rat} {r : Bool} (hF : F_matrix_reduce_2 c0 a0 = some r) : Ct Tryz.prog 148 [.vc (pS cQ a0), .vc (pM (cI.e c0))] (.vc (pB r)) := by
  unfold F_matrix_reduce_2 at hF
  refine ctO_intro Tryz.func148 rfl (by kernel_rfl) Tryz.ntmps148 rfl (fun w0 M0 => ?_)
  refine r_seq (r_reg (r_op (t_mv (.inr rfl)) ⟨k_B _, trivial⟩ ?_))
  refine r_nil (r_next (r_seq (r_reg (r_mv ?_))))
  refine r_op (t_lM 1 rfl rfl (.one tyO3)) ⟨rfl, trivial⟩ ?_
  obtain ⟨v1, h2, hF⟩ := bnd hF
  refine r_op (t_ix rfl tyS24 h2) ⟨rfl, rfl, trivial⟩ ?_
  refine r_op (t_lM 4 rfl rfl (.agg tyA35)) ⟨rfl, trivial⟩ ?_
  obtain ⟨v3, h4, hF⟩ := bnd hF
  refine r_op (t_call rfl (qc_rat_Sign h4) rfl) ⟨rfl, trivial⟩ ?_
  refine r_op (t_ne rfl) ⟨rfl, k_I _ _, trivial⟩ ?_
  refine r_as ?_
  refine r_nil (r_next (r_ret (r_toR ?_)))
  obtain rfl := sm1 hF
  exact r_done1 (.inl rfl) Tryz.results148 (.tmp rfl .nil) rfl rfl

abbrev N_matrix_reduce : Nat := 100
def F_matrix_reduce_j124 (K : Nat) (x104 : List Int) (x110 : List Nat) (x116 : List (List Rat)) (x122 : Rat) : Option matrix_form :=
  some (⟨(selL x116 x110), x104, x122⟩ : matrix_form)
def F_matrix_reduce_j258 (K : Nat) (x103 : Int) (recl123 : (List Int) → (List Nat) → (List (List Rat)) → Rat → Int → Option ((List Int) × (List Nat) × (List (List Rat)) × Rat)) (x238 : List Int) (x244 : List Nat) (x250 : List (List Rat)) (x256 : Rat) : Option ((List Int) × (List Nat) × (List (List Rat)) × Rat) :=
  (apL x238 [x103]).bind fun x259 => (chk (x103 + 1)).bind fun v266 => recl123 x259 x244 x250 x256 v266
def F_matrix_reduce_l257 (K : Nat) (x84 : List Int) (x103 : Int) (x184 : List Nat) : Nat → (List Int) → (List Nat) → (List (List Rat)) → Rat → Int → Option ((List Int) × (List Nat) × (List (List Rat)) × Rat)
  | 0, _, _, _, _, _ => none
  | k + 1, x218, x224, x230, x236, x237 => bif (decide (x237 < (x184.length : Int))) then (bif (x237 != (x84.length : Int)) then ((F_matrix_reduce_1 K ((x224, x230), x218, x236) x237 (x84.length : Int) x103).bind fun v270 => (chk (x237 + 1)).bind fun v291 => F_matrix_reduce_l257 K x84 x103 x184 k v270.2.1 v270.1.1 v270.1.2 v270.2.2 v291) else ((chk (x237 + 1)).bind fun v293 => F_matrix_reduce_l257 K x84 x103 x184 k x218 x224 x230 x236 v293)) else (some (x218, x224, x230, x236))
def F_matrix_reduce_j197 (K : Nat) (x84 : List Int) (x103 : Int) (v156 : Rat) (recl123 : (List Int) → (List Nat) → (List (List Rat)) → Rat → Int → Option ((List Int) × (List Nat) × (List (List Rat)) × Rat)) (x184 : List Nat) (x190 : List (List Rat)) : Option ((List Int) × (List Nat) × (List (List Rat)) × Rat) :=
  (F_matrix_reduce_l257 K x84 x103 x184 K x84 x184 x190 v156 0).bind fun (x238, x244, x250, x256) => F_matrix_reduce_j258 K x103 recl123 x238 x244 x250 x256
def F_matrix_reduce_l196 (K : Nat) (x84 : List Int) (v154 : Rat) : Nat → (List Nat) → (List (List Rat)) → Int → Option ((List Nat) × (List (List Rat)))
  | 0, _, _, _ => none
  | k + 1, x171, x177, x183 => (rdL x171 (x84.length : Int)).bind fun v295 => bif (decide (x183 < ((x177.getD v295 []).length : Int))) then ((rdL x171 (x84.length : Int)).bind fun v300 => (rdL x171 (x84.length : Int)).bind fun v302 => (rdL (x177.getD v302 []) x183).bind fun v304 => (qdiv v304 v154).bind fun v306 => (rdL (x177.getD v300 []) x183).bind fun v308 => (stL (x177.getD v300 []) x183 v306).bind fun x310 => (chk (x183 + 1)).bind fun v313 => F_matrix_reduce_l196 K x84 v154 k x171 (x177.set v300 x310) v313) else (some (x171, x177))
def F_matrix_reduce_j149 (K : Nat) (x84 : List Int) (x103 : Int) (recl123 : (List Int) → (List Nat) → (List (List Rat)) → Rat → Int → Option ((List Int) × (List Nat) × (List (List Rat)) × Rat)) (x136 : List Nat) (x142 : List (List Rat)) (x148 : Rat) : Option ((List Int) × (List Nat) × (List (List Rat)) × Rat) :=
  (rdL x136 (x84.length : Int)).bind fun v152 => (rdL (x142.getD v152 []) x103).bind fun v154 => (qmul x148 v154).bind fun v156 => (F_matrix_reduce_l196 K x84 v154 K x136 x142 x103).bind fun (x184, x190) => F_matrix_reduce_j197 K x84 x103 v156 recl123 x184 x190
def F_matrix_reduce_l123 (K : Nat) (a1 : Int) : Nat → (List Int) → (List Nat) → (List (List Rat)) → Rat → Int → Option ((List Int) × (List Nat) × (List (List Rat)) × Rat)
  | 0, _, _, _, _, _ => none
  | k + 1, x84, x90, x96, x102, x103 => bif (decide (x103 < a1)) then ((slL (selL x96 x90) (x84.length : Int) ((selL x96 x90).length : Int)).bind fun x128 => (F_slices_IndexFunc_Rat K x128 (F_matrix_reduce_2 x103)).bind fun v130 => bif (decide (v130 < 0)) then ((chk (x103 + 1)).bind fun v133 => F_matrix_reduce_l123 K a1 k x84 x90 x96 x102 v133) else (bif (decide (0 < v130)) then ((chk ((x84.length : Int) + v130)).bind fun v318 => (chk ((x84.length : Int) + v130)).bind fun v320 => (rdL x90 v320).bind fun v322 => (rdL x90 (x84.length : Int)).bind fun v324 => (rdL x90 (x84.length : Int)).bind fun v326 => (stL x90 (x84.length : Int) v322).bind fun x328 => (rdL x328 v318).bind fun v331 => (stL x328 v318 v324).bind fun x333 => (qneg x102).bind fun v336 => F_matrix_reduce_j149 K x84 x103 (F_matrix_reduce_l123 K a1 k) x333 x96 v336) else (F_matrix_reduce_j149 K x84 x103 (F_matrix_reduce_l123 K a1 k) x90 x96 x102))) else (some (x84, x90, x96, x102))
def F_matrix_reduce_j63 (K : Nat) (a1 : Int) (v2 : Rat) (x50 : List Nat) (x56 : List (List Rat)) : Option matrix_form :=
  (F_matrix_reduce_l123 K a1 K ([] : List Int) x50 x56 v2 0).bind fun (x104, x110, x116, x122) => F_matrix_reduce_j124 K x104 x110 x116 x122
def F_matrix_reduce_l62 (K : Nat) (a0 : List (List Rat)) : Nat → (List Nat) → (List (List Rat)) → Int → Option ((List Nat) × (List (List Rat)))
  | 0, _, _, _ => none
  | k + 1, x37, x43, x49 => bif (decide (x49 < (a0.length : Int))) then ((rdL a0 x49).bind fun v339 => (F_slices_Clone_Rat v339).bind fun v343 => (apL x37 [x43.length]).bind fun x349 => (chk (x49 + 1)).bind fun v356 => F_matrix_reduce_l62 K a0 k x349 (x43 ++ [v343]) v356) else (some (x37, x43))
def F_matrix_reduce (K : Nat) (a0 : List (List Rat)) (a1 : Int) : Option matrix_form :=
  (qof 1 1).bind fun v2 => (F_matrix_reduce_l62 K a0 K ([] : List Nat) ([] : List (List Rat)) 0).bind fun (x50, x56) => F_matrix_reduce_j63 K a1 v2 x50 x56
set_option maxRecDepth 100000 in
theorem ct_matrix_reduce {K : Nat} {a0 : List (List Rat)} {a1 : Int} {r : matrix_form} (hF : F_matrix_reduce K a0 a1 = some r) : Ct Tryz.prog 100 [.vc (pS (cSl cQ) a0), .vc (pI .i64 a1)] (.va (matrix_form.enc r)) := by
  unfold F_matrix_reduce at hF
  refine ctO_intro Tryz.func100 rfl (by kernel_rfl) Tryz.ntmps100 rfl (fun w0 M0 => ?_)
  refine r_seq (r_reg (r_alloc rfl tyZ136q (fun b1 => ?_)))
  refine r_nil (r_next (r_seq (r_reg ?_)))
  obtain ⟨v2, h3, hF⟩ := bnd hF
  refine r_op (t_call rfl (qc_rat_Of h3) rfl) ⟨k_I _ _, k_I _ _, trivial⟩ ?_
  refine r_nestL cQ 35 ?_
  refine r_newL (cH ([] : List Hdr)) 24 ?_
  refine r_newL cI 3 ?_
  refine r_op (t_bld (is := [2]) (xs := [.tmp 15]) (ps := [.va (eQ v2)]) rfl tyB136_o0_o1q rfl rfl ⟨trivial, trivial⟩ rfl) ⟨rfl, trivial⟩ ?_
  refine r_alloc rfl tyZ136q (fun b23 => ?_)
  refine r_op0 (t_s 0 rfl rfl rfl tyA136.s) ⟨rfl, rfl, trivial⟩ ?_
  refine r_nil (r_next (r_seq (r_seq (r_reg (r_mv ?_)))))
  refine r_op (t_ln rfl tyS47) ⟨rfl, trivial⟩ ?_
  refine r_op (t_mv (.inl rfl)) ⟨k_I _ _, trivial⟩ ?_
  refine r_nil (r_next (r_blk (r_cutN (fun H E => ∃ (x50 : List Nat), ∃ (x56 : List (List Rat)), ∃ (b51 : Option Nat), ∃ (c52 : Nat), ∃ (n53 : Nat), ∃ (g57 : List Hdr), ∃ (N58 : Nat), F_matrix_reduce_j63 K a1 v2 x50 x56 = some r ∧ x50.length = n53 ∧ x56.length = N58 ∧ LenOk g57 x56 ∧ (∀ k ∈ x50, k < N58) ∧ H = ([⟨some b23, 1, 136, 6, 1, ([pO b51 n53 c52] ++ [pO none 0 0] ++ (eQ v2))⟩, hO cI none 0 3 0 ([] : List Int), hO (cH g57) b51 c52 24 n53 x50, ⟨some b1, 1, 136, 6, 1, ([pS (cSl cQ) ([] : List (List Rat))] ++ [pS cI ([] : List Int)] ++ (eQ 0))⟩] ++ inn cQ 35 g57 x56) ∧ E = [(1, .vc (pI .i64 a1)), (4, .vc (pP (some b1) 0)), (5, .vc (pP (some b23) 0))]) ?_ (fun Jj63 => ?_))))
  · rintro _ _ ⟨x50, x56, b51, c52, n53, g57, N58, hF, q54, q59, q60, q61, rfl, rfl⟩
    unfold F_matrix_reduce_j63 at hF
    refine r_next (r_seq (r_reg (r_op (t_fn (xs := [.tmp 5]) (cs := [pP (some b23) 0]) rfl rfl) ⟨rfl, trivial⟩ ?_)))
    refine r_as ?_
    refine r_nil (r_next (r_seq (r_seq (r_reg (r_mv ?_)))))
    refine r_op (t_mv (.inl rfl)) ⟨k_I _ _, trivial⟩ ?_
    refine r_nil (r_next (r_blk (r_cutN (fun H E => ∃ (x104 : List Int), ∃ (x110 : List Nat), ∃ (x116 : List (List Rat)), ∃ (x122 : Rat), ∃ (b105 : Option Nat), ∃ (c106 : Nat), ∃ (n107 : Nat), ∃ (b111 : Option Nat), ∃ (c112 : Nat), ∃ (n113 : Nat), ∃ (g117 : List Hdr), ∃ (N118 : Nat), F_matrix_reduce_j124 K x104 x110 x116 x122 = some r ∧ x104.length = n107 ∧ x110.length = n113 ∧ x116.length = N118 ∧ LenOk g117 x116 ∧ (∀ k ∈ x110, k < N118) ∧ H = ([⟨some b23, 1, 136, 6, 1, ([pO b111 n113 c112] ++ [pO b105 n107 c106] ++ (eQ x122))⟩, hO cI b105 c106 3 n107 x104, hO (cH g117) b111 c112 24 n113 x110, ⟨some b1, 1, 136, 6, 1, ([pS (cSl cQ) ([] : List (List Rat))] ++ [pS cI ([] : List Int)] ++ (eQ 0))⟩] ++ inn cQ 35 g117 x116) ∧ E = [(4, .vc (pP (some b1) 0)), (5, .vc (pP (some b23) 0))]) ?_ (fun Jj124 => ?_))))
    · rintro _ _ ⟨x104, x110, x116, x122, b105, c106, n107, b111, c112, n113, g117, N118, hF, q108, q114, q119, q120, q121, rfl, rfl⟩
      unfold F_matrix_reduce_j124 at hF
      refine r_next (r_seq (r_reg (r_unL 2 4 rfl rfl q120 (lt_len q119 q121) ?_)))
      refine r_fbL 2 0 0 rfl ((selL_len _ _).trans q114) rfl rfl rfl rfl rfl ?_
      refine r_fbL 1 0 1 rfl q108 rfl rfl rfl rfl rfl ?_
      refine r_op (t_l 0 6 rfl rfl rfl rfl (.agg tyA136)) ⟨rfl, trivial⟩ ?_
      refine r_op0 (t_s 1 rfl rfl rfl tyA136.s) ⟨rfl, rfl, trivial⟩ ?_
      refine r_nil (r_next (r_ret (r_toR ?_)))
      obtain rfl := sm1 hF
      exact r_done1 (.inl rfl) Tryz.results100 (rv_cell 1 6 rfl rfl rfl rfl (.agg tyA136) .nil) rfl rfl
    · skip
      obtain ⟨⟨x104', x110', x116', x122'⟩, hL, hRl123⟩ := bnd hF
      refine r_lp (fun k a w => ∃ (x84 : List Int), ∃ (x90 : List Nat), ∃ (x96 : List (List Rat)), ∃ (x102 : Rat), ∃ (x103 : Int), ∃ (b85 : Option Nat), ∃ (c86 : Nat), ∃ (n87 : Nat), ∃ (b91 : Option Nat), ∃ (c92 : Nat), ∃ (n93 : Nat), ∃ (g97 : List Hdr), ∃ (N98 : Nat), F_matrix_reduce_l123 K a1 k x84 x90 x96 x102 x103 = some (x104', x110', x116', x122') ∧ x84.length = n87 ∧ x90.length = n93 ∧ x96.length = N98 ∧ LenOk g97 x96 ∧ (∀ k ∈ x90, k < N98) ∧ hs _ ([⟨some b23, 1, 136, 6, 1, ([pO b91 n93 c92] ++ [pO b85 n87 c86] ++ (eQ x102))⟩, hO cI b85 c86 3 n87 x84, hO (cH g97) b91 c92 24 n93 x90, ⟨some b1, 1, 136, 6, 1, ([pS (cSl cQ) ([] : List (List Rat))] ++ [pS cI ([] : List Int)] ++ (eQ 0))⟩] ++ inn cQ 35 g97 x96) [(4, .vc (pP (some b1) 0)), (5, .vc (pP (some b23) 0)), (8, .vc (pF 146 [pP (some b23) 0])), (32, .vc (pI .i64 a1)), (33, .vc (pI .i64 x103))] a w) K (fun a w ⟨_, _, _, _, _, _, _, _, _, _, _, _, _, hF, _, _, _, _, _, _⟩ => by cases hF) (fun k a w ⟨x84, x90, x96, x102, x103, b85, c86, n87, b91, c92, n93, g97, N98, hF, q88, q94, q99, q100, q101, hh⟩ => r_at ?_ hh) (fun a w hh => ⟨([] : List Int), x50, x56, v2, 0, none, 0, 0, b51, c52, n53, g57, N58, hL, rfl, q54, q59, q60, q61, hs_backA 4 [0, 1, 2, 3] rfl rfl (by decide) (by exact ⟨rfl, rfl, rfl, rfl, rfl, trivial⟩) hh⟩)
      rw [F_matrix_reduce_l123.eq_2] at hF
      refine r_seq (r_reg (r_op (t_lt rfl) ⟨rfl, rfl, trivial⟩ ?_))
      refine r_nil (r_next (r_seq (r_if rfl (fun h126 => ?_) (fun h126 => ?_))))
      · have hF := cnd_t h126 hF
        refine r_skip (r_next (r_seq (r_blk (r_seq (r_reg (r_mv ?_))))))
        refine r_alloc rfl tyZ3q (fun b127 => ?_)
        refine r_op0 (t_s 0 rfl rfl rfl tyO3.s) ⟨rfl, rfl, trivial⟩ ?_
        refine r_nil (r_next (r_seq (r_reg (r_op (t_fa (off := 0) (k := 1) rfl tyF136_1) ⟨rfl, trivial⟩ ?_))))
        refine r_op (t_l 1 1 rfl rfl rfl rfl (.one tyO22)) ⟨rfl, trivial⟩ ?_
        refine r_op (t_lnE (C := cI) (xs := x84) (T := 3) rfl tyS22 q88) ⟨rfl, trivial⟩ ?_
        refine r_as ?_
        refine r_nil (r_next (r_seq (r_reg (r_op (t_fa (off := 0) (k := 0) rfl tyF136_0) ⟨rfl, trivial⟩ ?_))))
        refine r_op (t_l 1 1 rfl rfl rfl rfl (.one tyO47)) ⟨rfl, trivial⟩ ?_
        refine r_mv ?_
        obtain ⟨x128, h129, hF⟩ := bnd hF
        refine r_op (t_cutC (i := 3) rfl tyS47 rfl rfl rfl rfl (cut_lo h129).1 (cut_hi h129 q94)) ⟨rfl, rfl, trivial⟩ ?_
        refine r_fvL 0 [(9, 0)] rfl ⟨rfl, trivial⟩ rfl ?_
        refine r_op (t_fnF (φ := (F_matrix_reduce_2 x103)) (pre := fun x : (List Rat) => [.vc (pS cQ x)]) (post := fun r : Bool => .vc (pB r)) (xs := [.tmp 9]) (cs := [pM (cI.e x103)]) rfl rfl (fun x r h => ct_matrix_reduce_2 h)) ⟨rfl, trivial⟩ ?_
        obtain ⟨v130, h131, hF⟩ := bnd hF
        refine r_op (t_callB (pre' := [.vc (pC (pO b91 n93 c92) (x84.length : Int).toNat 1), .vc (pFn Tryz.prog (fun x : (List Rat) => [.vc (pS cQ x)]) (fun r : Bool => .vc (pB r)) (F_matrix_reduce_2 x103))]) rfl (ct_slices_IndexFunc_Rat h131) rfl (lend1 (cut_lo h129).2.2 (lend_cut 2 4 [] (by rw [List.append_nil]; rfl) rfl q100 (lt_len q99 q101) q94)) (fun _ _ _ h => h)) ⟨rfl, rfl, trivial⟩ ?_
        refine r_as ?_
        refine r_nil (r_next (r_seq (r_seq (r_reg (r_mv ?_)))))
        refine r_op (t_lt rfl) ⟨rfl, k_I _ _, trivial⟩ ?_
        refine r_nil (r_next (r_if rfl (fun h132 => ?_) (fun h132 => ?_)))
        · have hF := cnd_t h132 hF
          refine r_brk (r_next (r_reg ?_))
          obtain ⟨v133, h134, hF⟩ := bnd hF
          refine r_op (t_add rfl h134) ⟨rfl, k_I _ _, trivial⟩ ?_
          refine r_mv ?_
          refine r_nil ?_
          exact r_round (fun a w hh => ⟨x84, x90, x96, x102, v133, b85, c86, n87, b91, c92, n93, g97, N98, hF, q88, q94, q99, q100, q101, hs_backA 4 [0, 1, 2, 3] rfl rfl (by decide) (by exact ⟨rfl, rfl, rfl, rfl, rfl, trivial⟩) hh⟩)
        · have hF := cnd_f h132 hF
          refine r_skip (r_next (r_seq (r_cutS (fun H E => ∃ (x136 : List Nat), ∃ (x142 : List (List Rat)), ∃ (x148 : Rat), ∃ (b137 : Option Nat), ∃ (c138 : Nat), ∃ (n139 : Nat), ∃ (g143 : List Hdr), ∃ (N144 : Nat), F_matrix_reduce_j149 K x84 x103 (F_matrix_reduce_l123 K a1 k) x136 x142 x148 = some (x104', x110', x116', x122') ∧ x136.length = n139 ∧ x142.length = N144 ∧ LenOk g143 x142 ∧ (∀ k ∈ x136, k < N144) ∧ H = ([⟨some b23, 1, 136, 6, 1, ([pO b137 n139 c138] ++ [pO b85 n87 c86] ++ (eQ x148))⟩, hO cI b85 c86 3 n87 x84, hO (cH g143) b137 c138 24 n139 x136, ⟨some b1, 1, 136, 6, 1, ([pS (cSl cQ) ([] : List (List Rat))] ++ [pS cI ([] : List Int)] ++ (eQ 0))⟩] ++ inn cQ 35 g143 x142) ∧ E = [(4, .vc (pP (some b1) 0)), (5, .vc (pP (some b23) 0)), (8, .vc (pF 146 [pP (some b23) 0])), (9, .vc (pM (cI.e x103))), (10, .vc (pI .i64 (x84.length : Int))), (32, .vc (pI .i64 a1)), (33, .vc (pI .i64 x103))]) ?_ (fun Jj149 => ?_))))
          · rintro _ _ ⟨x136, x142, x148, b137, c138, n139, g143, N144, hF, q140, q145, q146, q147, rfl, rfl⟩
            unfold F_matrix_reduce_j149 at hF
            refine r_seq ?_
            obtain ⟨v152, h153, hF⟩ := bnd hF
            obtain ⟨v154, h155, hF⟩ := bnd hF
            refine r_draw [0, 1, 0, 7, 15, 0, 63, 127, 0, 511] 9 1 [.v (.vc (pP (some b23) 0)), .v (.vc (pO b137 n139 c138)), .v (.vc (pI .i64 (x84.length : Int))), .v (.vc (pE b137 (x84.length : Int) (cH g143).n 0)), .v (.vc (pO (hdr g143 v152).1 (hdr g143 v152).2.1 (hdr g143 v152).2.2)), .v (.vc (pI .i64 x103)), .v (.vc (pE (hdr g143 v152).1 x103 cQ.n 0)), .v (.va (eQ v154)), .a 35 (eQ 0)] Tryz_mixed ⟨⟨rfl, .run (lo := 0) (n := 1) ⟨fun G150 A => t_fa (off := 0) (k := 0) rfl tyF136_0, trivial⟩ (fun G150 => ⟨rfl, trivial⟩)⟩, ⟨rfl, .run (lo := 0) (n := 1) ⟨fun G150 A => t_l 0 1 rfl rfl rfl rfl (.one tyO47), trivial⟩ (fun G150 => ⟨rfl, trivial⟩)⟩, ⟨rfl, .run (lo := 0) (n := 1) ⟨fun G150 A => t_mv (.inl rfl), trivial⟩ (fun G150 => ⟨rfl, trivial⟩)⟩, ⟨rfl, .run (lo := 0) (n := 1) ⟨fun G150 A => t_ixE (C := (cH g143)) 2 rfl tyS47 rfl q140 (rdL_some h153).1 (rdL_some h153).2.1, trivial⟩ (fun G150 => ⟨rfl, rfl, trivial⟩)⟩, ⟨rfl, .run (lo := 0) (n := 1) ⟨fun G150 A => t_ldE (C := (cH g143)) (k := 1) 2 rfl rfl h153 rfl (.one tyO24) rfl, trivial⟩ (fun G150 => ⟨rfl, trivial⟩)⟩, ⟨rfl, .run (lo := 0) (n := 1) ⟨fun G150 A => t_lM 1 rfl rfl (.one tyO3), trivial⟩ (fun G150 => ⟨rfl, trivial⟩)⟩, ⟨rfl, .run (lo := 0) (n := 1) ⟨fun G150 A => t_ixE (4 + v152) rfl tyS24 (inn_pA 4 rfl q146 q145 (q147 _ (rdL_mem h153))) (row_len q146 q145 (q147 _ (rdL_mem h153))) (rdL_some h155).1 (rdL_some h155).2.1, trivial⟩ (fun G150 => ⟨rfl, rfl, trivial⟩)⟩, ⟨rfl, .run (lo := 0) (n := 1) ⟨fun G150 A => t_ldE (k := 4) (4 + v152) rfl (inn_pA 4 rfl q146 q145 (q147 _ (rdL_mem h153))) h155 rfl (.agg tyA35) rfl, trivial⟩ (fun G150 => ⟨rfl, trivial⟩)⟩, ⟨rfl, .alc tyZ35q⟩, trivial⟩ (fun bs151 G150 => ?_)
            refine r_op0 (t_s 0 rfl rfl rfl tyA35.s) ⟨rfl, rfl, trivial⟩ ?_
            refine r_nil (r_next (r_seq (r_reg (r_op (t_fa (off := 0) (k := 2) rfl tyF136_2) ⟨rfl, trivial⟩ ?_))))
            refine r_op (t_l 1 4 rfl rfl rfl rfl (.agg tyA35)) ⟨rfl, trivial⟩ ?_
            refine r_op (t_l 0 4 rfl rfl rfl rfl (.agg tyA35)) ⟨rfl, trivial⟩ ?_
            obtain ⟨v156, h157, hF⟩ := bnd hF
            refine r_op (t_call rfl (qc_rat_Mul h157) rfl) ⟨rfl, rfl, trivial⟩ ?_
            refine r_op (t_fa (off := 0) (k := 2) rfl tyF136_2) ⟨rfl, trivial⟩ ?_
            refine r_op0 (t_s 1 rfl rfl rfl tyA35.s) ⟨rfl, rfl, trivial⟩ ?_
            refine r_nil (r_next (r_seq (r_seq (r_reg (r_op (t_lM 1 rfl rfl (.one tyO3)) ⟨rfl, trivial⟩ ?_)))))
            refine r_as ?_
            refine r_nil (r_next (r_blk (r_cutN (fun H E => ∃ (x184 : List Nat), ∃ (x190 : List (List Rat)), ∃ (b185 : Option Nat), ∃ (c186 : Nat), ∃ (n187 : Nat), ∃ (g191 : List Hdr), ∃ (N192 : Nat), F_matrix_reduce_j197 K x84 x103 v156 (F_matrix_reduce_l123 K a1 k) x184 x190 = some (x104', x110', x116', x122') ∧ x184.length = n187 ∧ x190.length = N192 ∧ LenOk g191 x190 ∧ (∀ k ∈ x184, k < N192) ∧ H = ([⟨some b23, 1, 136, 6, 1, ([pO b185 n187 c186] ++ [pO b85 n87 c86] ++ (eQ v156))⟩, hO cI b85 c86 3 n87 x84, hO (cH g191) b185 c186 24 n187 x184, ⟨some b1, 1, 136, 6, 1, ([pS (cSl cQ) ([] : List (List Rat))] ++ [pS cI ([] : List Int)] ++ (eQ 0))⟩] ++ inn cQ 35 g191 x190) ∧ E = [(4, .vc (pP (some b1) 0)), (5, .vc (pP (some b23) 0)), (8, .vc (pF 146 [pP (some b23) 0])), (9, .vc (pM (cI.e x103))), (10, .vc (pI .i64 (x84.length : Int))), (32, .vc (pI .i64 a1)), (33, .vc (pI .i64 x103))]) ?_ (fun Jj197 => ?_))))
            · rintro _ _ ⟨x184, x190, b185, c186, n187, g191, N192, hF, q188, q193, q194, q195, rfl, rfl⟩
              unfold F_matrix_reduce_j197 at hF
              refine r_next (r_seq (r_seq (r_reg (r_op (t_fa (off := 0) (k := 0) rfl tyF136_0) ⟨rfl, trivial⟩ ?_))))
              refine r_op (t_l 0 1 rfl rfl rfl rfl (.one tyO47)) ⟨rfl, trivial⟩ ?_
              refine r_op (t_lnE (C := (cH g191)) (xs := x184) (T := 24) rfl tyS47 q188) ⟨rfl, trivial⟩ ?_
              refine r_op (t_mv (.inl rfl)) ⟨k_I _ _, trivial⟩ ?_
              refine r_nil (r_next (r_blk (r_cutN (fun H E => ∃ (x238 : List Int), ∃ (x244 : List Nat), ∃ (x250 : List (List Rat)), ∃ (x256 : Rat), ∃ (b239 : Option Nat), ∃ (c240 : Nat), ∃ (n241 : Nat), ∃ (b245 : Option Nat), ∃ (c246 : Nat), ∃ (n247 : Nat), ∃ (g251 : List Hdr), ∃ (N252 : Nat), F_matrix_reduce_j258 K x103 (F_matrix_reduce_l123 K a1 k) x238 x244 x250 x256 = some (x104', x110', x116', x122') ∧ x238.length = n241 ∧ x244.length = n247 ∧ x250.length = N252 ∧ LenOk g251 x250 ∧ (∀ k ∈ x244, k < N252) ∧ H = ([⟨some b23, 1, 136, 6, 1, ([pO b245 n247 c246] ++ [pO b239 n241 c240] ++ (eQ x256))⟩, hO cI b239 c240 3 n241 x238, hO (cH g251) b245 c246 24 n247 x244, ⟨some b1, 1, 136, 6, 1, ([pS (cSl cQ) ([] : List (List Rat))] ++ [pS cI ([] : List Int)] ++ (eQ 0))⟩] ++ inn cQ 35 g251 x250) ∧ E = [(4, .vc (pP (some b1) 0)), (5, .vc (pP (some b23) 0)), (8, .vc (pF 146 [pP (some b23) 0])), (9, .vc (pM (cI.e x103))), (32, .vc (pI .i64 a1)), (33, .vc (pI .i64 x103))]) ?_ (fun Jj258 => ?_))))
              · rintro _ _ ⟨x238, x244, x250, x256, b239, c240, n241, b245, c246, n247, g251, N252, hF, q242, q248, q253, q254, q255, rfl, rfl⟩
                unfold F_matrix_reduce_j258 at hF
                refine r_next (r_reg (r_op (t_fa (off := 0) (k := 1) rfl tyF136_1) ⟨rfl, trivial⟩ ?_))
                refine r_op (t_l 0 1 rfl rfl rfl rfl (.one tyO22)) ⟨rfl, trivial⟩ ?_
                refine r_op (t_lM 1 rfl rfl (.one tyO3)) ⟨rfl, trivial⟩ ?_
                refine r_op (t_bs (C := cI) (xs := [.tmp 133]) (ps := [.vc (pI .i64 x103)]) (zs := [x103]) rfl tyS22 rfl ⟨⟨trivial, rfl⟩, trivial⟩ rfl) ⟨rfl, trivial⟩ ?_
                obtain ⟨x259, h260, hF⟩ := bnd hF
                refine r_app 1 rfl tyS22 rfl rfl q242 rfl rfl h260 (fun b261 c262 H263 e264 => ?_)
                cases e264
                refine r_op (t_fa (off := 0) (k := 1) rfl tyF136_1) ⟨rfl, trivial⟩ ?_
                refine r_op0 (t_s 0 rfl rfl rfl tyO22.s) ⟨rfl, rfl, trivial⟩ ?_
                refine r_nil (r_blkN (r_next (r_reg ?_)))
                obtain ⟨v266, h267, hF⟩ := bnd hF
                refine r_op (t_add rfl h267) ⟨rfl, k_I _ _, trivial⟩ ?_
                refine r_mv ?_
                refine r_nil ?_
                exact r_round (fun a w hh => ⟨x259, x244, x250, x256, v266, b261, c262, (n241 + [x103].length), b245, c246, n247, g251, N252, hF, (apL_len h260 q242), q248, q253, q254, q255, hs_backA 4 [0, 1, 2, 3] rfl rfl (by decide) (by exact ⟨rfl, rfl, rfl, rfl, rfl, trivial⟩) hh⟩)
              · skip
                obtain ⟨⟨x238', x244', x250', x256'⟩, hL, hRl257⟩ := bnd hF
                refine r_lp (fun k a w => ∃ (x218 : List Int), ∃ (x224 : List Nat), ∃ (x230 : List (List Rat)), ∃ (x236 : Rat), ∃ (x237 : Int), ∃ (b219 : Option Nat), ∃ (c220 : Nat), ∃ (n221 : Nat), ∃ (b225 : Option Nat), ∃ (c226 : Nat), ∃ (n227 : Nat), ∃ (g231 : List Hdr), ∃ (N232 : Nat), F_matrix_reduce_l257 K x84 x103 x184 k x218 x224 x230 x236 x237 = some (x238', x244', x250', x256') ∧ x218.length = n221 ∧ x224.length = n227 ∧ x230.length = N232 ∧ LenOk g231 x230 ∧ (∀ k ∈ x224, k < N232) ∧ hs _ ([⟨some b23, 1, 136, 6, 1, ([pO b225 n227 c226] ++ [pO b219 n221 c220] ++ (eQ x236))⟩, hO cI b219 c220 3 n221 x218, hO (cH g231) b225 c226 24 n227 x224, ⟨some b1, 1, 136, 6, 1, ([pS (cSl cQ) ([] : List (List Rat))] ++ [pS cI ([] : List Int)] ++ (eQ 0))⟩] ++ inn cQ 35 g231 x230) [(4, .vc (pP (some b1) 0)), (5, .vc (pP (some b23) 0)), (8, .vc (pF 146 [pP (some b23) 0])), (9, .vc (pM (cI.e x103))), (10, .vc (pI .i64 (x84.length : Int))), (32, .vc (pI .i64 a1)), (33, .vc (pI .i64 x103)), (118, .vc (pI .i64 (x184.length : Int))), (119, .vc (pI .i64 x237))] a w) K (fun a w ⟨_, _, _, _, _, _, _, _, _, _, _, _, _, hF, _, _, _, _, _, _⟩ => by cases hF) (fun k a w ⟨x218, x224, x230, x236, x237, b219, c220, n221, b225, c226, n227, g231, N232, hF, q222, q228, q233, q234, q235, hh⟩ => r_at ?_ hh) (fun a w hh => ⟨x84, x184, x190, v156, 0, b85, c86, n87, b185, c186, n187, g191, N192, hL, q88, q188, q193, q194, q195, hs_backA 4 [0, 1, 2, 3] rfl rfl (by decide) (by exact ⟨rfl, rfl, rfl, rfl, rfl, rfl, rfl, rfl, rfl, trivial⟩) hh⟩)
                rw [F_matrix_reduce_l257.eq_2] at hF
                refine r_seq (r_reg (r_op (t_lt rfl) ⟨rfl, rfl, trivial⟩ ?_))
                refine r_nil (r_next (r_seq (r_if rfl (fun h268 => ?_) (fun h268 => ?_))))
                · have hF := cnd_t h268 hF
                  refine r_skip (r_next (r_seq (r_blk (r_seq (r_reg (r_mv ?_))))))
                  refine r_as ?_
                  refine r_nil (r_next (r_seq (r_reg (r_mv ?_))))
                  refine r_mv ?_
                  refine r_op (t_ne rfl) ⟨rfl, rfl, trivial⟩ ?_
                  refine r_nil (r_next (r_if rfl (fun h269 => ?_) (fun h269 => ?_)))
                  · have hF := cnd_t h269 hF
                    refine r_reg (r_mv ?_)
                    refine r_mv ?_
                    refine r_mv ?_
                    refine r_op (t_lM 1 rfl rfl (.one tyO3)) ⟨rfl, trivial⟩ ?_
                    obtain ⟨v270, h271, hF⟩ := bnd hF
                    refine r_callvA (f := 146) (cs := [pP (some b23) 0]) (pre := [.vc (pI .i64 x237), .vc (pI .i64 (x84.length : Int)), .vc (pI .i64 x103)]) (xs := [.tmp 126, .tmp 127, .tmp 128]) 4 [0, 2, 1] [3] rfl (ctO_matrix_reduce_1 h271 q228 q233 q234 q235 q222) ⟨rfl, rfl, rfl, rfl, trivial⟩ rfl rfl rfl (by decide) ?_
                    rintro _ _ ⟨b276, c277, n275, g274, N280, b287, c288, n286, q278, q281, q282, q283, q289, rfl, rfl⟩
                    refine r_permL (mid_perm [⟨some b23, 1, 136, 6, 1, ([pO b276 n275 c277] ++ [pO b287 n286 c288] ++ (eQ v270.2.2))⟩, hO (cH g274) b276 c277 24 n275 v270.1.1, hO cI b287 c288 3 n286 v270.2.1] (inn cQ 35 g274 v270.1.2) [⟨some b1, 1, 136, 6, 1, ([pS (cSl cQ) ([] : List (List Rat))] ++ [pS cI ([] : List Int)] ++ (eQ 0))⟩]) ?_
                    refine r_nil (r_blkN (r_next (r_reg ?_)))
                    obtain ⟨v291, h292, hF⟩ := bnd hF
                    refine r_op (t_add rfl h292) ⟨rfl, k_I _ _, trivial⟩ ?_
                    refine r_mv ?_
                    refine r_nil ?_
                    exact r_round (fun a w hh => ⟨v270.2.1, v270.1.1, v270.1.2, v270.2.2, v291, b287, c288, n286, b276, c277, n275, g274, N280, hF, q289, q278, q281, q282, q283, hs_backA 4 [0, 2, 1, 3] rfl rfl (by decide) (by exact ⟨rfl, rfl, rfl, rfl, rfl, rfl, rfl, rfl, rfl, trivial⟩) hh⟩)
                  · have hF := cnd_f h269 hF
                    refine r_skip (r_blkN (r_next (r_reg ?_)))
                    obtain ⟨v293, h294, hF⟩ := bnd hF
                    refine r_op (t_add rfl h294) ⟨rfl, k_I _ _, trivial⟩ ?_
                    refine r_mv ?_
                    refine r_nil ?_
                    exact r_round (fun a w hh => ⟨x218, x224, x230, x236, v293, b219, c220, n221, b225, c226, n227, g231, N232, hF, q222, q228, q233, q234, q235, hs_backA 4 [0, 1, 2, 3] rfl rfl (by decide) (by exact ⟨rfl, rfl, rfl, rfl, rfl, rfl, rfl, rfl, rfl, trivial⟩) hh⟩)
                · have hF := cnd_f h268 hF
                  refine r_brk ?_
                  obtain ⟨rfl, rfl, rfl, rfl⟩ := sm4 hF
                  exact r_backA Jj258 ⟨x218, x224, x230, x236, b219, c220, n221, b225, c226, n227, g231, N232, hRl257, q222, q228, q233, q234, q235, rfl, rfl⟩ 4 [0, 1, 2, 3] rfl rfl ⟨rfl, rfl, rfl, rfl, rfl, rfl, trivial⟩
            · skip
              obtain ⟨⟨x184', x190'⟩, hL, hRl196⟩ := bnd hF
              refine r_lp (fun k a w => ∃ (x171 : List Nat), ∃ (x177 : List (List Rat)), ∃ (x183 : Int), ∃ (b172 : Option Nat), ∃ (c173 : Nat), ∃ (n174 : Nat), ∃ (g178 : List Hdr), ∃ (N179 : Nat), F_matrix_reduce_l196 K x84 v154 k x171 x177 x183 = some (x184', x190') ∧ x171.length = n174 ∧ x177.length = N179 ∧ LenOk g178 x177 ∧ (∀ k ∈ x171, k < N179) ∧ hs _ ([⟨some (bs151 8), 1, 35, 4, 1, (eQ v154)⟩, ⟨some b23, 1, 136, 6, 1, ([pO b172 n174 c173] ++ [pO b85 n87 c86] ++ (eQ v156))⟩, hO cI b85 c86 3 n87 x84, hO (cH g178) b172 c173 24 n174 x171, ⟨some b1, 1, 136, 6, 1, ([pS (cSl cQ) ([] : List (List Rat))] ++ [pS cI ([] : List Int)] ++ (eQ 0))⟩] ++ inn cQ 35 g178 x177) [(4, .vc (pP (some b1) 0)), (5, .vc (pP (some b23) 0)), (8, .vc (pF 146 [pP (some b23) 0])), (9, .vc (pM (cI.e x103))), (10, .vc (pI .i64 (x84.length : Int))), (12, .vc (pP (some (bs151 8)) 0)), (13, .vc (pI .i64 x183)), (32, .vc (pI .i64 a1)), (33, .vc (pI .i64 x103))] a w) K (fun a w ⟨_, _, _, _, _, _, _, _, hF, _, _, _, _, _⟩ => by cases hF) (fun k a w ⟨x171, x177, x183, b172, c173, n174, g178, N179, hF, q175, q180, q181, q182, hh⟩ => r_at ?_ hh) (fun a w hh => ⟨x136, x142, x103, b137, c138, n139, g143, N144, hL, q140, q145, q146, q147, hs_backA 5 [0, 1, 2, 3, 4] rfl rfl (by decide) (by exact ⟨rfl, rfl, rfl, rfl, rfl, rfl, rfl, rfl, rfl, trivial⟩) hh⟩)
              rw [F_matrix_reduce_l196.eq_2] at hF
              refine r_seq (r_seq (r_reg (r_mv ?_)))
              refine r_op (t_fa (off := 0) (k := 0) rfl tyF136_0) ⟨rfl, trivial⟩ ?_
              refine r_op (t_l 1 1 rfl rfl rfl rfl (.one tyO47)) ⟨rfl, trivial⟩ ?_
              refine r_mv ?_
              obtain ⟨v295, h296, hF⟩ := bnd hF
              refine r_op (t_ixE (C := (cH g178)) 3 rfl tyS47 rfl q175 (rdL_some h296).1 (rdL_some h296).2.1) ⟨rfl, rfl, trivial⟩ ?_
              refine r_op (t_ldE (C := (cH g178)) (k := 1) 3 rfl rfl h296 rfl (.one tyO24) rfl) ⟨rfl, trivial⟩ ?_
              refine r_op (t_lnE (C := cQ) (xs := (x177.getD v295 [])) (T := 35) rfl tyS24 (row_len q181 q180 (q182 _ (rdL_mem h296)))) ⟨rfl, trivial⟩ ?_
              refine r_op (t_lt rfl) ⟨rfl, rfl, trivial⟩ ?_
              refine r_nil (r_next (r_if rfl (fun h297 => ?_) (fun h297 => ?_)))
              · have hF := cnd_t h297 hF
                refine r_skip (r_next (r_seq (r_blk ?_)))
                obtain ⟨v300, h301, hF⟩ := bnd hF
                obtain ⟨v302, h303, hF⟩ := bnd hF
                obtain ⟨v304, h305, hF⟩ := bnd hF
                obtain ⟨v306, h307, hF⟩ := bnd hF
                obtain ⟨v308, h309, hF⟩ := bnd hF
                refine r_draw [0, 1, 0, 7, 15, 0, 0, 64, 0, 448, 960, 0, 4032, 8128, 0, 32704, 65535, 131071] 17 1 [.v (.vc (pP (some b23) 0)), .v (.vc (pO b172 n174 c173)), .v (.vc (pI .i64 (x84.length : Int))), .v (.vc (pE b172 (x84.length : Int) (cH g178).n 0)), .v (.vc (pO (hdr g178 v300).1 (hdr g178 v300).2.1 (hdr g178 v300).2.2)), .v (.vc (pI .i64 x183)), .v (.vc (pP (some b23) 0)), .v (.vc (pO b172 n174 c173)), .v (.vc (pI .i64 (x84.length : Int))), .v (.vc (pE b172 (x84.length : Int) (cH g178).n 0)), .v (.vc (pO (hdr g178 v302).1 (hdr g178 v302).2.1 (hdr g178 v302).2.2)), .v (.vc (pI .i64 x183)), .v (.vc (pE (hdr g178 v302).1 x183 cQ.n 0)), .v (.va (eQ v304)), .v (.va (eQ v154)), .v (.va (eQ v306)), .v (.vc (pE (hdr g178 v300).1 x183 cQ.n 0))] Tryz_mixed ⟨⟨rfl, .run (lo := 0) (n := 1) ⟨fun G298 A => t_fa (off := 0) (k := 0) rfl tyF136_0, trivial⟩ (fun G298 => ⟨rfl, trivial⟩)⟩, ⟨rfl, .run (lo := 0) (n := 1) ⟨fun G298 A => t_l 1 1 rfl rfl rfl rfl (.one tyO47), trivial⟩ (fun G298 => ⟨rfl, trivial⟩)⟩, ⟨rfl, .run (lo := 0) (n := 1) ⟨fun G298 A => t_mv (.inl rfl), trivial⟩ (fun G298 => ⟨rfl, trivial⟩)⟩, ⟨rfl, .run (lo := 0) (n := 1) ⟨fun G298 A => t_ixE (C := (cH g178)) 3 rfl tyS47 rfl q175 (rdL_some h301).1 (rdL_some h301).2.1, trivial⟩ (fun G298 => ⟨rfl, rfl, trivial⟩)⟩, ⟨rfl, .run (lo := 0) (n := 1) ⟨fun G298 A => t_ldE (C := (cH g178)) (k := 1) 3 rfl rfl h301 rfl (.one tyO24) rfl, trivial⟩ (fun G298 => ⟨rfl, trivial⟩)⟩, ⟨rfl, .run (lo := 0) (n := 1) ⟨fun G298 A => t_mv (.inl rfl), trivial⟩ (fun G298 => ⟨rfl, trivial⟩)⟩, ⟨rfl, .run (lo := 0) (n := 1) ⟨fun G298 A => t_fa (off := 0) (k := 0) rfl tyF136_0, trivial⟩ (fun G298 => ⟨rfl, trivial⟩)⟩, ⟨rfl, .run (lo := 0) (n := 1) ⟨fun G298 A => t_l 1 1 rfl rfl rfl rfl (.one tyO47), trivial⟩ (fun G298 => ⟨rfl, trivial⟩)⟩, ⟨rfl, .run (lo := 0) (n := 1) ⟨fun G298 A => t_mv (.inl rfl), trivial⟩ (fun G298 => ⟨rfl, trivial⟩)⟩, ⟨rfl, .run (lo := 0) (n := 1) ⟨fun G298 A => t_ixE (C := (cH g178)) 3 rfl tyS47 rfl q175 (rdL_some h303).1 (rdL_some h303).2.1, trivial⟩ (fun G298 => ⟨rfl, rfl, trivial⟩)⟩, ⟨rfl, .run (lo := 0) (n := 1) ⟨fun G298 A => t_ldE (C := (cH g178)) (k := 1) 3 rfl rfl h303 rfl (.one tyO24) rfl, trivial⟩ (fun G298 => ⟨rfl, trivial⟩)⟩, ⟨rfl, .run (lo := 0) (n := 1) ⟨fun G298 A => t_mv (.inl rfl), trivial⟩ (fun G298 => ⟨rfl, trivial⟩)⟩, ⟨rfl, .run (lo := 0) (n := 1) ⟨fun G298 A => t_ixE (5 + v302) rfl tyS24 (inn_pA 5 rfl q181 q180 (q182 _ (rdL_mem h303))) (row_len q181 q180 (q182 _ (rdL_mem h303))) (rdL_some h305).1 (rdL_some h305).2.1, trivial⟩ (fun G298 => ⟨rfl, rfl, trivial⟩)⟩, ⟨rfl, .run (lo := 0) (n := 1) ⟨fun G298 A => t_ldE (k := 4) (5 + v302) rfl (inn_pA 5 rfl q181 q180 (q182 _ (rdL_mem h303))) h305 rfl (.agg tyA35) rfl, trivial⟩ (fun G298 => ⟨rfl, trivial⟩)⟩, ⟨rfl, .run (lo := 0) (n := 1) ⟨fun G298 A => t_l 0 4 rfl rfl rfl rfl (.agg tyA35), trivial⟩ (fun G298 => ⟨rfl, trivial⟩)⟩, ⟨rfl, .run (lo := 0) (n := 1) ⟨fun G298 A => t_call rfl (qc_rat_Div h307) rfl, trivial⟩ (fun G298 => ⟨rfl, rfl, trivial⟩)⟩, ⟨rfl, .run (lo := 0) (n := 1) ⟨fun G298 A => t_ixE (5 + v300) rfl tyS24 (inn_pA 5 rfl q181 q180 (q182 _ (rdL_mem h301))) (row_len q181 q180 (q182 _ (rdL_mem h301))) (rdL_some h309).1 (rdL_some h309).2.1, trivial⟩ (fun G298 => ⟨rfl, rfl, trivial⟩)⟩, trivial⟩ (fun bs299 G298 => ?_)
                obtain ⟨x310, h311, hF⟩ := bnd hF
                refine r_op0 (t_stE (H' := ([⟨some (bs151 8), 1, 35, 4, 1, (eQ v154)⟩, ⟨some b23, 1, 136, 6, 1, ([pO b172 n174 c173] ++ [pO b85 n87 c86] ++ (eQ v156))⟩, hO cI b85 c86 3 n87 x84, hO (cH g178) b172 c173 24 n174 x171, ⟨some b1, 1, 136, 6, 1, ([pS (cSl cQ) ([] : List (List Rat))] ++ [pS cI ([] : List Int)] ++ (eQ 0))⟩] ++ inn cQ 35 g178 (x177.set v300 x310))) (5 + v300) rfl (inn_p 5 rfl q181 q180 (q182 _ (rdL_mem h301))) h309 h311 tyA35.s (hH := stN 5 rfl q181 q180 (q182 _ (rdL_mem h301)))) ⟨rfl, rfl, trivial⟩ ?_
                refine r_nil (r_blkN (r_next (r_reg (r_mv ?_))))
                obtain ⟨v313, h314, hF⟩ := bnd hF
                refine r_op (t_add rfl h314) ⟨rfl, k_I _ _, trivial⟩ ?_
                refine r_as ?_
                refine r_nil ?_
                exact r_round (fun a w hh => ⟨x171, (x177.set v300 x310), v313, b172, c173, n174, g178, N179, hF, q175, (set_len q180), (set_ok q181 q180 (q182 _ (rdL_mem h301)) (stL_len h311 rfl)), q182, hs_backA 5 [0, 1, 2, 3, 4] rfl rfl (by decide) (by exact ⟨rfl, rfl, rfl, rfl, rfl, rfl, rfl, rfl, rfl, trivial⟩) hh⟩)
              · have hF := cnd_f h297 hF
                refine r_brk ?_
                obtain ⟨rfl, rfl⟩ := sm2 hF
                exact r_backA Jj197 ⟨x171, x177, b172, c173, n174, g178, N179, hRl196, q175, q180, q181, q182, rfl, rfl⟩ 5 [1, 2, 3, 4] rfl rfl ⟨rfl, rfl, rfl, rfl, rfl, rfl, rfl, trivial⟩
          · skip
            refine r_seq (r_reg (r_mv ?_))
            refine r_op (t_gt rfl) ⟨rfl, k_I _ _, trivial⟩ ?_
            refine r_nil (r_next (r_if rfl (fun h315 => ?_) (fun h315 => ?_)))
            · have hF := cnd_t h315 hF
              refine r_seq ?_
              obtain ⟨v318, h319, hF⟩ := bnd hF
              obtain ⟨v320, h321, hF⟩ := bnd hF
              obtain ⟨v322, h323, hF⟩ := bnd hF
              obtain ⟨v324, h325, hF⟩ := bnd hF
              obtain ⟨v326, h327, hF⟩ := bnd hF
              obtain ⟨x328, h329, hF⟩ := bnd hF
              obtain ⟨v331, h332, hF⟩ := bnd hF
              refine r_drawH (HsL [fun G316 => ([⟨some b23, 1, 136, 6, 1, ([pO b91 n93 c92] ++ [pO b85 n87 c86] ++ (eQ x102))⟩, hO cI b85 c86 3 n87 x84, hO (cH g97) b91 c92 24 n93 x90, ⟨some b1, 1, 136, 6, 1, ([pS (cSl cQ) ([] : List (List Rat))] ++ [pS cI ([] : List Int)] ++ (eQ 0))⟩] ++ inn cQ 35 g97 x96), fun G316 => ([⟨some b23, 1, 136, 6, 1, ([pO b91 n93 c92] ++ [pO b85 n87 c86] ++ (eQ x102))⟩, hO cI b85 c86 3 n87 x84, hO (cH g97) b91 c92 24 n93 x328, ⟨some b1, 1, 136, 6, 1, ([pS (cSl cQ) ([] : List (List Rat))] ++ [pS cI ([] : List Int)] ++ (eQ 0))⟩] ++ inn cQ 35 g97 x96)]) [21] [0, 1, 0, 0, 8, 0, 0, 96, 0, 256, 0, 0, 3072, 7936, 16128, 0, 32768, 0, 229376, 491520, 1048327, 2096903, 4194303, 8388607] 23 1 [.v (.vc (pP (some b23) 0)), .v (.vc (pO b91 n93 c92)), .v (.vc (pI .i64 (x84.length : Int))), .v (.vc (pP (some b23) 0)), .v (.vc (pO b91 n93 c92)), .v (.vc (pI .i64 (x84.length : Int))), .v (.vc (pI .i64 v130)), .v (.vc (pI .i64 v318)), .v (.vc (pP (some b23) 0)), .v (.vc (pO b91 n93 c92)), .v (.vc (pI .i64 (x84.length : Int))), .v (.vc (pI .i64 v130)), .v (.vc (pI .i64 v320)), .v (.vc (pE b91 v320 (cH g97).n 0)), .v (.vc (pO (hdr g97 v322).1 (hdr g97 v322).2.1 (hdr g97 v322).2.2)), .v (.vc (pP (some b23) 0)), .v (.vc (pO b91 n93 c92)), .v (.vc (pI .i64 (x84.length : Int))), .v (.vc (pE b91 (x84.length : Int) (cH g97).n 0)), .v (.vc (pO (hdr g97 v324).1 (hdr g97 v324).2.1 (hdr g97 v324).2.2)), .v (.vc (pE b91 (x84.length : Int) (cH g97).n 0)), .g (fun _ _ => .any), .v (.vc (pE b91 v318 (cH g97).n 0))] Tryz_mixed ⟨⟨rfl, .run (lo := 0) (n := 1) ⟨fun G316 A => t_fa (off := 0) (k := 0) rfl tyF136_0, trivial⟩ (fun G316 => ⟨rfl, trivial⟩)⟩, ⟨rfl, .run (lo := 0) (n := 1) ⟨fun G316 A => t_l 0 1 rfl rfl rfl rfl (.one tyO47), trivial⟩ (fun G316 => ⟨rfl, trivial⟩)⟩, ⟨rfl, .run (lo := 0) (n := 1) ⟨fun G316 A => t_mv (.inl rfl), trivial⟩ (fun G316 => ⟨rfl, trivial⟩)⟩, ⟨rfl, .run (lo := 0) (n := 2) ⟨fun G316 A => t_fa (off := 0) (k := 0) rfl tyF136_0, fun G316 A => t_fa (off := 0) (k := 0) rfl tyF136_0, trivial⟩ (fun G316 => ⟨rfl, trivial⟩)⟩, ⟨rfl, .run (lo := 0) (n := 2) ⟨fun G316 A => t_l 0 1 rfl rfl rfl rfl (.one tyO47), fun G316 A => t_l 0 1 rfl rfl rfl rfl (.one tyO47), trivial⟩ (fun G316 => ⟨rfl, trivial⟩)⟩, ⟨rfl, .run (lo := 0) (n := 2) ⟨fun G316 A => t_mv (.inl rfl), fun G316 A => t_mv (.inl rfl), trivial⟩ (fun G316 => ⟨rfl, trivial⟩)⟩, ⟨rfl, .run (lo := 0) (n := 2) ⟨fun G316 A => t_mv (.inl rfl), fun G316 A => t_mv (.inl rfl), trivial⟩ (fun G316 => ⟨rfl, trivial⟩)⟩, ⟨rfl, .run (lo := 0) (n := 2) ⟨fun G316 A => t_add rfl h319, fun G316 A => t_add rfl h319, trivial⟩ (fun G316 => ⟨rfl, rfl, trivial⟩)⟩, ⟨rfl, .run (lo := 0) (n := 1) ⟨fun G316 A => t_fa (off := 0) (k := 0) rfl tyF136_0, trivial⟩ (fun G316 => ⟨rfl, trivial⟩)⟩, ⟨rfl, .run (lo := 0) (n := 1) ⟨fun G316 A => t_l 0 1 rfl rfl rfl rfl (.one tyO47), trivial⟩ (fun G316 => ⟨rfl, trivial⟩)⟩, ⟨rfl, .run (lo := 0) (n := 1) ⟨fun G316 A => t_mv (.inl rfl), trivial⟩ (fun G316 => ⟨rfl, trivial⟩)⟩, ⟨rfl, .run (lo := 0) (n := 1) ⟨fun G316 A => t_mv (.inl rfl), trivial⟩ (fun G316 => ⟨rfl, trivial⟩)⟩, ⟨rfl, .run (lo := 0) (n := 1) ⟨fun G316 A => t_add rfl h321, trivial⟩ (fun G316 => ⟨rfl, rfl, trivial⟩)⟩, ⟨rfl, .run (lo := 0) (n := 1) ⟨fun G316 A => t_ixE (C := (cH g97)) 2 rfl tyS47 rfl q94 (rdL_some h323).1 (rdL_some h323).2.1, trivial⟩ (fun G316 => ⟨rfl, rfl, trivial⟩)⟩, ⟨rfl, .run (lo := 0) (n := 1) ⟨fun G316 A => t_ldE (C := (cH g97)) (k := 1) 2 rfl rfl h323 rfl (.one tyO24) rfl, trivial⟩ (fun G316 => ⟨rfl, trivial⟩)⟩, ⟨rfl, .run (lo := 0) (n := 1) ⟨fun G316 A => t_fa (off := 0) (k := 0) rfl tyF136_0, trivial⟩ (fun G316 => ⟨rfl, trivial⟩)⟩, ⟨rfl, .run (lo := 0) (n := 1) ⟨fun G316 A => t_l 0 1 rfl rfl rfl rfl (.one tyO47), trivial⟩ (fun G316 => ⟨rfl, trivial⟩)⟩, ⟨rfl, .run (lo := 0) (n := 1) ⟨fun G316 A => t_mv (.inl rfl), trivial⟩ (fun G316 => ⟨rfl, trivial⟩)⟩, ⟨rfl, .run (lo := 0) (n := 1) ⟨fun G316 A => t_ixE (C := (cH g97)) 2 rfl tyS47 rfl q94 (rdL_some h325).1 (rdL_some h325).2.1, trivial⟩ (fun G316 => ⟨rfl, rfl, trivial⟩)⟩, ⟨rfl, .run (lo := 0) (n := 1) ⟨fun G316 A => t_ldE (C := (cH g97)) (k := 1) 2 rfl rfl h325 rfl (.one tyO24) rfl, trivial⟩ (fun G316 => ⟨rfl, trivial⟩)⟩, ⟨rfl, .run (lo := 0) (n := 1) ⟨fun G316 A => t_ixE (C := (cH g97)) 2 rfl tyS47 rfl q94 (rdL_some h327).1 (rdL_some h327).2.1, trivial⟩ (fun G316 => ⟨rfl, rfl, trivial⟩)⟩, ⟨rfl, .hvy 0 (fun G316 A => hv_tr (t_stE (C := (cH g97)) 2 rfl rfl h327 h329 tyO24.s)) (fun G316 => ⟨rfl, rfl, trivial⟩)⟩, ⟨rfl, .run (lo := 1) (n := 1) ⟨fun G316 A => t_ixE (C := (cH g97)) 2 rfl tyS47 rfl (stL_len h329 q94) (rdL_some h332).1 (rdL_some h332).2.1, trivial⟩ (fun G316 => ⟨rfl, rfl, trivial⟩)⟩, trivial⟩ (fun bs317 G316 => ?_)
              obtain ⟨x333, h334, hF⟩ := bnd hF
              refine r_op0 (t_stE (C := (cH g97)) 2 rfl rfl h332 h334 tyO24.s) ⟨rfl, rfl, trivial⟩ ?_
              refine r_nil (r_next (r_reg (r_op (t_fa (off := 0) (k := 2) rfl tyF136_2) ⟨rfl, trivial⟩ ?_)))
              refine r_op (t_l 0 4 rfl rfl rfl rfl (.agg tyA35)) ⟨rfl, trivial⟩ ?_
              obtain ⟨v336, h337, hF⟩ := bnd hF
              refine r_op (t_call rfl (qc_rat_Neg h337) rfl) ⟨rfl, trivial⟩ ?_
              refine r_op (t_fa (off := 0) (k := 2) rfl tyF136_2) ⟨rfl, trivial⟩ ?_
              refine r_op0 (t_s 0 rfl rfl rfl tyA35.s) ⟨rfl, rfl, trivial⟩ ?_
              refine r_nil ?_
              exact r_backA Jj149 ⟨x333, x96, v336, b91, c92, n93, g97, N98, hF, (stL_len h334 (stL_len h329 q94)), q99, q100, (stL_hx (stL_hx q101 h329 (q101 _ (rdL_mem h323))) h334 (q101 _ (rdL_mem h325))), rfl, rfl⟩ 4 [0, 1, 2, 3] rfl rfl ⟨rfl, rfl, rfl, rfl, rfl, rfl, rfl, trivial⟩
            · have hF := cnd_f h315 hF
              refine r_skip ?_
              exact r_backA Jj149 ⟨x90, x96, x102, b91, c92, n93, g97, N98, hF, q94, q99, q100, q101, rfl, rfl⟩ 4 [0, 1, 2, 3] rfl rfl ⟨rfl, rfl, rfl, rfl, rfl, rfl, rfl, trivial⟩
      · have hF := cnd_f h126 hF
        refine r_brk ?_
        obtain ⟨rfl, rfl, rfl, rfl⟩ := sm4 hF
        exact r_backA Jj124 ⟨x84, x90, x96, x102, b85, c86, n87, b91, c92, n93, g97, N98, hRl123, q88, q94, q99, q100, q101, rfl, rfl⟩ 4 [0, 1, 2, 3] rfl rfl ⟨rfl, rfl, trivial⟩
  · skip
    obtain ⟨⟨x50', x56'⟩, hL, hRl62⟩ := bnd hF
    refine r_lp (fun k a w => ∃ (x37 : List Nat), ∃ (x43 : List (List Rat)), ∃ (x49 : Int), ∃ (b38 : Option Nat), ∃ (c39 : Nat), ∃ (n40 : Nat), ∃ (g44 : List Hdr), ∃ (N45 : Nat), F_matrix_reduce_l62 K a0 k x37 x43 x49 = some (x50', x56') ∧ x37.length = n40 ∧ x43.length = N45 ∧ LenOk g44 x43 ∧ (∀ k ∈ x37, k < N45) ∧ hs _ ([⟨some b23, 1, 136, 6, 1, ([pO b38 n40 c39] ++ [pO none 0 0] ++ (eQ v2))⟩, hO cI none 0 3 0 ([] : List Int), hO (cH g44) b38 c39 24 n40 x37, ⟨some b1, 1, 136, 6, 1, ([pS (cSl cQ) ([] : List (List Rat))] ++ [pS cI ([] : List Int)] ++ (eQ 0))⟩] ++ inn cQ 35 g44 x43) [(1, .vc (pI .i64 a1)), (4, .vc (pP (some b1) 0)), (5, .vc (pP (some b23) 0)), (17, .vc (pS (cSl cQ) a0)), (18, .vc (pI .i64 (a0.length : Int))), (19, .vc (pI .i64 x49))] a w) K (fun a w ⟨_, _, _, _, _, _, _, _, hF, _, _, _, _, _⟩ => by cases hF) (fun k a w ⟨x37, x43, x49, b38, c39, n40, g44, N45, hF, q41, q46, q47, q48, hh⟩ => r_at ?_ hh) (fun a w hh => ⟨([] : List Nat), ([] : List (List Rat)), 0, none, 0, 0, ([] : List Hdr), 0, hL, rfl, (rfl), lenOk_nil, (by simp), hs_backA 4 [0, 1, 2, 3] rfl rfl (by decide) (by exact ⟨rfl, rfl, rfl, rfl, rfl, rfl, trivial⟩) hh⟩)
    rw [F_matrix_reduce_l62.eq_2] at hF
    refine r_seq (r_reg (r_op (t_lt rfl) ⟨rfl, rfl, trivial⟩ ?_))
    refine r_nil (r_next (r_seq (r_if rfl (fun h338 => ?_) (fun h338 => ?_))))
    · have hF := cnd_t h338 hF
      refine r_skip (r_next (r_seq (r_blk (r_seq (r_reg ?_)))))
      obtain ⟨v339, h340, hF⟩ := bnd hF
      refine r_op (t_ix rfl tyS47 h340) ⟨rfl, rfl, trivial⟩ ?_
      refine r_op (t_lM 1 rfl rfl (.one tyO24)) ⟨rfl, trivial⟩ ?_
      refine r_as ?_
      refine r_nil (r_next ?_)
      obtain ⟨v343, h344, hF⟩ := bnd hF
      refine r_drawH (HsL [fun G341 => ([⟨some b23, 1, 136, 6, 1, ([pO b38 n40 c39] ++ [pO none 0 0] ++ (eQ v2))⟩, hO cI none 0 3 0 ([] : List Int), hO (cH g44) b38 c39 24 n40 x37, ⟨some b1, 1, 136, 6, 1, ([pS (cSl cQ) ([] : List (List Rat))] ++ [pS cI ([] : List Int)] ++ (eQ 0))⟩] ++ inn cQ 35 g44 x43), fun G341 => ([hO cQ ((G341 3).1) ((G341 3).2) 35 v343.length v343, ⟨some b23, 1, 136, 6, 1, ([pO b38 n40 c39] ++ [pO none 0 0] ++ (eQ v2))⟩, hO cI none 0 3 0 ([] : List Int), hO (cH g44) b38 c39 24 n40 x37, ⟨some b1, 1, 136, 6, 1, ([pS (cSl cQ) ([] : List (List Rat))] ++ [pS cI ([] : List Int)] ++ (eQ 0))⟩] ++ inn cQ 35 g44 x43), fun G341 => ([hO cQ ((G341 4).1) ((G341 4).2) 35 v343.length v343, ⟨some b23, 1, 136, 6, 1, ([pO b38 n40 c39] ++ [pO none 0 0] ++ (eQ v2))⟩, hO cI none 0 3 0 ([] : List Int), hO (cH (g44 ++ [((G341 4).1, v343.length, (G341 4).2)])) b38 c39 24 n40 x37, ⟨some b1, 1, 136, 6, 1, ([pS (cSl cQ) ([] : List (List Rat))] ++ [pS cI ([] : List Int)] ++ (eQ 0))⟩] ++ inn cQ 35 g44 x43)]) [3, 4] [0, 1, 0, 4, 12, 31, 63, 127] 5 3 [.v (.vc (pP (some b23) 0)), .v (.vc (pO b38 n40 c39)), .v (.vc (pS cQ v339)), .g (fun b c => .vc (pO b v343.length c)), .g (fun b c => .vc (pS (cH (g44 ++ [(b, v343.length, c)])) [x43.length]))] Tryz_mixed ⟨⟨rfl, .run (lo := 0) (n := 3) ⟨fun G341 A => t_fa (off := 0) (k := 0) rfl tyF136_0, fun G341 A => t_fa (off := 0) (k := 0) rfl tyF136_0, fun G341 A => t_fa (off := 0) (k := 0) rfl tyF136_0, trivial⟩ (fun G341 => ⟨rfl, trivial⟩)⟩, ⟨rfl, .run (lo := 0) (n := 3) ⟨fun G341 A => t_l 0 1 rfl rfl rfl rfl (.one tyO47), fun G341 A => t_l 1 1 rfl rfl rfl rfl (.one tyO47), fun G341 A => t_l 1 1 rfl rfl rfl rfl (.one tyO47), trivial⟩ (fun G341 => ⟨rfl, trivial⟩)⟩, ⟨rfl, .run (lo := 0) (n := 1) ⟨fun G341 A => t_mv (.inl rfl), trivial⟩ (fun G341 => ⟨rfl, trivial⟩)⟩, ⟨rfl, .hvy 0 (fun G341 A => hv_call rfl (ctO_slices_Clone_Rat h344) rfl) (fun G341 => ⟨rfl, trivial⟩)⟩, ⟨rfl, .hvy 1 (fun G341 A => hv_at ((G341 3).1) ((G341 3).2) (t_bsH (rs := x43) rfl tyS47 q47.1 (show ([hO cQ ((G341 3).1) ((G341 3).2) 35 v343.length v343, ⟨some b23, 1, 136, 6, 1, ([pO b38 n40 c39] ++ [pO none 0 0] ++ (eQ v2))⟩, hO cI none 0 3 0 ([] : List Int), hO (cH (g44 ++ [((G341 3).1, v343.length, (G341 3).2)])) b38 c39 24 n40 x37, ⟨some b1, 1, 136, 6, 1, ([pS (cSl cQ) ([] : List (List Rat))] ++ [pS cI ([] : List Int)] ++ (eQ 0))⟩] ++ inn cQ 35 g44 x43) ++ A = ([hO cQ ((G341 3).1) ((G341 3).2) 35 v343.length v343, ⟨some b23, 1, 136, 6, 1, ([pO b38 n40 c39] ++ [pO none 0 0] ++ (eQ v2))⟩, hO cI none 0 3 0 ([] : List Int), hO (cH g44) b38 c39 24 n40 x37, ⟨some b1, 1, 136, 6, 1, ([pS (cSl cQ) ([] : List (List Rat))] ++ [pS cI ([] : List Int)] ++ (eQ 0))⟩] ++ inn cQ 35 g44 x43) ++ A from by rw [recode (N := x43.length) ((G341 3).1, v343.length, (G341 3).2) q47.1 (lt_len q46 q48)]))) (fun G341 => ⟨rfl, trivial⟩)⟩, trivial⟩ (fun bs342 G341 => ?_)
      refine r_mergeL (g := ((G341 4).1, v343.length, (G341 4).2)) 0 5 rfl rfl rfl q47 ?_
      obtain ⟨x349, h350, hF⟩ := bnd hF
      refine r_app 2 rfl tyS47 rfl rfl q41 rfl rfl h350 (fun b351 c352 H353 e354 => ?_)
      cases e354
      refine r_op (t_fa (off := 0) (k := 0) rfl tyF136_0) ⟨rfl, trivial⟩ ?_
      refine r_op0 (t_s 0 rfl rfl rfl tyO47.s) ⟨rfl, rfl, trivial⟩ ?_
      refine r_nil (r_blkN (r_next (r_reg ?_)))
      obtain ⟨v356, h357, hF⟩ := bnd hF
      refine r_op (t_add rfl h357) ⟨rfl, k_I _ _, trivial⟩ ?_
      refine r_mv ?_
      refine r_nil ?_
      exact r_round (fun a w hh => ⟨x349, (x43 ++ [v343]), v356, b351, c352, (n40 + [x43.length].length), (g44 ++ [((G341 4).1, v343.length, (G341 4).2)]), (N45 + 1), hF, (apL_len h350 q41), (snoc_len q46), (lenOk_snoc q47 rfl), (apL_hx q48 q46 h350), hs_backA 4 [0, 1, 2, 3] rfl rfl (by decide) (by exact ⟨rfl, rfl, rfl, rfl, rfl, rfl, trivial⟩) hh⟩)
    · have hF := cnd_f h338 hF
      refine r_brk ?_
      obtain ⟨rfl, rfl⟩ := sm2 hF
      exact r_backA Jj63 ⟨x37, x43, b38, c39, n40, g44, N45, hRl62, q41, q46, q47, q48, rfl, rfl⟩ 4 [0, 1, 2, 3] rfl rfl ⟨rfl, rfl, rfl, trivial⟩

abbrev N_slices_Index_int : Nat := 150
def F_slices_Index_int_j4 (K : Nat) : Option Int :=
  some (-1)
def F_slices_Index_int_l3 (K : Nat) (a0 : List Int) (a1 : Int) : Nat → Int → Option (LR Int Unit)
  | 0, _ => none
  | k + 1, x2 => bif (decide (x2 < (a0.length : Int))) then ((rdL a0 x2).bind fun v6 => bif (a1 == v6) then (some (.ret x2)) else ((chk (x2 + 1)).bind fun v9 => F_slices_Index_int_l3 K a0 a1 k v9)) else (some (.go ()))
def F_slices_Index_int (K : Nat) (a0 : List Int) (a1 : Int) : Option Int :=
  (F_slices_Index_int_l3 K a0 a1 K 0).bind fun o => match o with | .ret r => some r | .go _ => F_slices_Index_int_j4 K 
set_option maxRecDepth 100000 in
theorem ct_slices_Index_int {K : Nat} {a0 : List Int} {a1 : Int} {r : Int} (hF : F_slices_Index_int K a0 a1 = some r) : Ct Tryz.prog 150 [.vc (pS cI a0), .vc (pI .i64 a1)] (.vc (pI .i64 r)) := by
  unfold F_slices_Index_int at hF
  refine ctO_intro Tryz.func150 rfl (by kernel_rfl) Tryz.ntmps150 rfl (fun w0 M0 => ?_)
  refine r_seq (r_reg (r_op (t_mv (.inr rfl)) ⟨k_I _ _, trivial⟩ ?_))
  refine r_nil (r_next (r_seq (r_seq (r_reg (r_mv ?_)))))
  refine r_op (t_ln rfl tyS22) ⟨rfl, trivial⟩ ?_
  refine r_op (t_mv (.inl rfl)) ⟨k_I _ _, trivial⟩ ?_
  refine r_nil (r_next (r_blk (r_cutN (fun H E => F_slices_Index_int_j4 K = some r ∧ H = [] ∧ E = []) ?_ (fun Jj4 => ?_))))
  · rintro _ _ ⟨hF, rfl, rfl⟩
    unfold F_slices_Index_int_j4 at hF
    refine r_next (r_seq (r_reg (r_op (t_mv (.inr rfl)) ⟨k_I _ _, trivial⟩ ?_)))
    refine r_nil (r_next (r_ret (r_toR ?_)))
    obtain rfl := sm1 hF
    exact r_done1 (.inl rfl) Tryz.results150 (.tmp rfl .nil) rfl rfl
  · skip
    obtain ⟨ol3, hL, hRl3⟩ := bnd hF
    refine r_lp (fun k a w => ∃ (x2 : Int), F_slices_Index_int_l3 K a0 a1 k x2 = some ol3 ∧ hs _ [] [(0, .vc (pS cI a0)), (1, .vc (pI .i64 a1)), (7, .vc (pI .i64 (a0.length : Int))), (8, .vc (pI .i64 x2))] a w) K (fun a w ⟨_, hF, _⟩ => by cases hF) (fun k a w ⟨x2, hF, hh⟩ => r_at ?_ hh) (fun a w hh => ⟨0, hL, hs_back [] rfl (by decide) (by exact ⟨rfl, rfl, rfl, rfl, trivial⟩) hh⟩)
    rw [F_slices_Index_int_l3.eq_2] at hF
    refine r_seq (r_reg (r_op (t_lt rfl) ⟨rfl, rfl, trivial⟩ ?_))
    refine r_nil (r_next (r_seq (r_if rfl (fun h5 => ?_) (fun h5 => ?_))))
    · have hF := cnd_t h5 hF
      refine r_skip (r_next (r_seq (r_blk (r_seq (r_reg (r_mv ?_))))))
      refine r_as ?_
      refine r_nil (r_next (r_seq (r_reg (r_mv ?_))))
      refine r_mv ?_
      refine r_mv ?_
      obtain ⟨v6, h7, hF⟩ := bnd hF
      refine r_op (t_ix rfl tyS22 h7) ⟨rfl, rfl, trivial⟩ ?_
      refine r_op (t_lM 1 rfl rfl (.one tyO3)) ⟨rfl, trivial⟩ ?_
      refine r_op (t_eq rfl) ⟨rfl, rfl, trivial⟩ ?_
      refine r_nil (r_next (r_if rfl (fun h8 => ?_) (fun h8 => ?_)))
      · have hF := cnd_t h8 hF
        refine r_seq (r_reg (r_mv ?_))
        refine r_as ?_
        refine r_nil (r_next (r_ret (r_toR ?_)))
        obtain rfl := sm1 hF
        obtain rfl := sm1 hRl3
        exact r_done1 (.inl rfl) Tryz.results150 (.tmp rfl .nil) rfl rfl
      · have hF := cnd_f h8 hF
        refine r_skip (r_blkN (r_next (r_reg ?_)))
        obtain ⟨v9, h10, hF⟩ := bnd hF
        refine r_op (t_add rfl h10) ⟨rfl, k_I _ _, trivial⟩ ?_
        refine r_mv ?_
        refine r_nil ?_
        exact r_round (fun a w hh => ⟨v9, hF, hs_back [] rfl (by decide) (by exact ⟨rfl, rfl, rfl, rfl, trivial⟩) hh⟩)
    · have hF := cnd_f h5 hF
      refine r_brk ?_
      obtain rfl := sm1 hF
      exact r_backJ Jj4 ⟨hRl3, rfl, rfl⟩ [] rfl trivial

abbrev N_slices_Contains_int : Nat := 110
def F_slices_Contains_int (K : Nat) (a0 : List Int) (a1 : Int) : Option Bool :=
  (F_slices_Index_int K a0 a1).bind fun v1 => some (decide (0 ≤ v1))
set_option maxRecDepth 100000 in
theorem ct_slices_Contains_int {K : Nat} {a0 : List Int} {a1 : Int} {r : Bool} (hF : F_slices_Contains_int K a0 a1 = some r) : Ct Tryz.prog 110 [.vc (pS cI a0), .vc (pI .i64 a1)] (.vc (pB r)) := by
  unfold F_slices_Contains_int at hF
  refine ctO_intro Tryz.func110 rfl (by kernel_rfl) Tryz.ntmps110 rfl (fun w0 M0 => ?_)
  refine r_seq (r_reg (r_op (t_mv (.inr rfl)) ⟨k_B _, trivial⟩ ?_))
  refine r_nil (r_next (r_seq (r_reg (r_mv ?_))))
  refine r_mv ?_
  obtain ⟨v1, h2, hF⟩ := bnd hF
  refine r_op (t_call rfl (ct_slices_Index_int h2) rfl) ⟨rfl, rfl, trivial⟩ ?_
  refine r_op (t_ge rfl) ⟨rfl, k_I _ _, trivial⟩ ?_
  refine r_as ?_
  refine r_nil (r_next (r_ret (r_toR ?_)))
  obtain rfl := sm1 hF
  exact r_done1 (.inl rfl) Tryz.results110 (.tmp rfl .nil) rfl rfl

abbrev N_matrix_Kernel : Nat := 50
def F_matrix_Kernel_j32 (K : Nat) (x25 : List (List Rat)) : Option ((List (List Rat)) × Int) :=
  some (x25, 0)
def F_matrix_Kernel_j72 (K : Nat) (x18 : List (List Rat)) (x24 : Int) (recl31 : (List (List Rat)) → Int → Option (List (List Rat))) (x65 : List Rat) : Option (List (List Rat)) :=
  (apL x18 [x65]).bind fun x73 => (chk (x24 + 1)).bind fun v80 => recl31 x73 v80
def F_matrix_Kernel_l71 (K : Nat) (v6 : matrix_form) (x24 : Int) : Nat → (List Rat) → Int → Option (List Rat)
  | 0, _, _ => none
  | k + 1, x58, x64 => bif (decide (x64 < (v6.pivots.length : Int))) then ((rdL v6.pivots x64).bind fun v83 => (rdL v6.rows x64).bind fun v85 => (rdL v85 x24).bind fun v87 => (qneg v87).bind fun v89 => (rdL x58 v83).bind fun v91 => (stL x58 v83 v89).bind fun x93 => (chk (x64 + 1)).bind fun v96 => F_matrix_Kernel_l71 K v6 x24 k x93 v96) else (some x58)
def F_matrix_Kernel_l31 (K : Nat) (v4 : Int) (v6 : matrix_form) : Nat → (List (List Rat)) → Int → Option (List (List Rat))
  | 0, _, _ => none
  | k + 1, x18, x24 => bif (decide (x24 < v4)) then ((F_slices_Contains_int K v6.pivots x24).bind fun v34 => bif v34 then ((chk (x24 + 1)).bind fun v37 => F_matrix_Kernel_l31 K v4 v6 k x18 v37) else ((mkL v4 0).bind fun x39 => (qof 1 1).bind fun v44 => (rdL x39 x24).bind fun v46 => (stL x39 x24 v44).bind fun x48 => (F_matrix_Kernel_l71 K v6 x24 K x48 0).bind fun x65 => F_matrix_Kernel_j72 K x18 x24 (F_matrix_Kernel_l31 K v4 v6 k) x65)) else (some x18)
def F_matrix_Kernel (K : Nat) (a0 : List (List Rat)) : Option ((List (List Rat)) × Int) :=
  (F_matrix_Valid K a0).bind fun v1 => bif (!v1) then (some ([], 1)) else ((F_matrix_cols a0).bind fun v4 => (F_matrix_reduce K a0 v4).bind fun v6 => (F_matrix_Kernel_l31 K v4 v6 K ([] : List (List Rat)) 0).bind fun x25 => F_matrix_Kernel_j32 K x25)
set_option maxRecDepth 100000 in
theorem ct_matrix_Kernel {K : Nat} {a0 : List (List Rat)} {r : (List (List Rat)) × Int} (hF : F_matrix_Kernel K a0 = some r) : Ct Tryz.prog 50 [.vc (pS (cSl cQ) a0)] (.t2 (.vc (pS (cSl cQ) r.1)) (.vc (pI .i64 r.2))) := by
  unfold F_matrix_Kernel at hF
  refine ctO_intro Tryz.func50 rfl (by kernel_rfl) Tryz.ntmps50 rfl (fun w0 M0 => ?_)
  refine r_seq (r_reg (r_op (t_mv (.inr rfl)) ⟨k_nil (cSl cQ), trivial⟩ ?_))
  refine r_op (t_mv (.inr rfl)) ⟨k_I _ _, trivial⟩ ?_
  refine r_nil (r_next (r_seq (r_seq (r_reg (r_mv ?_)))))
  obtain ⟨v1, h2, hF⟩ := bnd hF
  refine r_op (t_call rfl (ct_matrix_Valid h2) rfl) ⟨rfl, trivial⟩ ?_
  refine r_op (t_not rfl) ⟨rfl, trivial⟩ ?_
  refine r_nil (r_next (r_if rfl (fun h3 => ?_) (fun h3 => ?_)))
  · have hF := cnd_t h3 hF
    refine r_seq (r_reg (r_op (t_mv (.inr rfl)) ⟨k_nil (cSl cQ), trivial⟩ ?_))
    refine r_op (t_mv (.inr rfl)) ⟨k_I _ _, trivial⟩ ?_
    refine r_nil (r_next (r_ret (r_toR ?_)))
    obtain rfl := sm1 hF
    exact r_done1 (.inl rfl) Tryz.results50 (.tmp rfl (.tmp rfl .nil)) rfl rfl
  · have hF := cnd_f h3 hF
    refine r_skip (r_next (r_seq (r_reg (r_mv ?_))))
    obtain ⟨v4, h5, hF⟩ := bnd hF
    refine r_op (t_call rfl (ct_matrix_cols h5) rfl) ⟨rfl, trivial⟩ ?_
    refine r_as ?_
    refine r_nil (r_next (r_seq (r_reg (r_mv ?_))))
    refine r_mv ?_
    obtain ⟨v6, h7, hF⟩ := bnd hF
    refine r_op (t_call rfl (ct_matrix_reduce h7) rfl) ⟨rfl, rfl, trivial⟩ ?_
    refine r_alloc rfl tyZ136q (fun b8 => ?_)
    refine r_op0 (t_s 0 rfl rfl rfl tyA136.s) ⟨rfl, rfl, trivial⟩ ?_
    refine r_nil (r_next (r_seq (r_reg (r_nilO (cSl cQ) 24 rfl ?_))))
    refine r_nil (r_next (r_seq (r_seq (r_reg (r_mv ?_)))))
    refine r_op (t_mv (.inl rfl)) ⟨k_I _ _, trivial⟩ ?_
    refine r_nil (r_next (r_blk (r_cutN (fun H E => ∃ (x25 : List (List Rat)), ∃ (b26 : Option Nat), ∃ (c27 : Nat), ∃ (n28 : Nat), F_matrix_Kernel_j32 K x25 = some r ∧ x25.length = n28 ∧ H = [hO (cSl cQ) b26 c27 24 n28 x25] ∧ E = [(6, .vc (pO b26 n28 c27))]) ?_ (fun Jj32 => ?_))))
    · rintro _ _ ⟨x25, b26, c27, n28, hF, q29, rfl, rfl⟩
      unfold F_matrix_Kernel_j32 at hF
      refine r_next (r_seq (r_reg (r_mv ?_)))
      refine r_as ?_
      refine r_op (t_mv (.inr rfl)) ⟨k_I _ _, trivial⟩ ?_
      refine r_nil (r_next (r_ret (r_toR (r_fzX 0 [2, 6, 59] rfl q29 ⟨rfl, rfl, rfl, trivial⟩ rfl ?_))))
      obtain rfl := sm1 hF
      exact r_done1 (.inl rfl) Tryz.results50 (.tmp rfl (.tmp rfl .nil)) rfl rfl
    · skip
      obtain ⟨x25', hL, hRl31⟩ := bnd hF
      refine r_lp (fun k a w => ∃ (x18 : List (List Rat)), ∃ (x24 : Int), ∃ (b19 : Option Nat), ∃ (c20 : Nat), ∃ (n21 : Nat), F_matrix_Kernel_l31 K v4 v6 k x18 x24 = some x25' ∧ x18.length = n21 ∧ hs _ [hO (cSl cQ) b19 c20 24 n21 x18, ⟨some b8, 1, 136, 6, 1, (matrix_form.enc v6)⟩] [(4, .vc (pI .i64 v4)), (5, .vc (pP (some b8) 0)), (6, .vc (pO b19 n21 c20)), (19, .vc (pI .i64 v4)), (20, .vc (pI .i64 x24))] a w) K (fun a w ⟨_, _, _, _, _, hF, _, _⟩ => by cases hF) (fun k a w ⟨x18, x24, b19, c20, n21, hF, q22, hh⟩ => r_at ?_ hh) (fun a w hh => ⟨([] : List (List Rat)), 0, none, 0, 0, hL, rfl, hs_back [0, 1] rfl (by decide) (by exact ⟨rfl, rfl, rfl, rfl, rfl, trivial⟩) hh⟩)
      rw [F_matrix_Kernel_l31.eq_2] at hF
      refine r_seq (r_reg (r_op (t_lt rfl) ⟨rfl, rfl, trivial⟩ ?_))
      refine r_nil (r_next (r_seq (r_if rfl (fun h33 => ?_) (fun h33 => ?_))))
      · have hF := cnd_t h33 hF
        refine r_skip (r_next (r_seq (r_blk (r_seq (r_reg (r_mv ?_))))))
        refine r_as ?_
        refine r_nil (r_next (r_seq (r_seq (r_reg (r_op (t_fa (off := 0) (k := 1) rfl tyF136_1) ⟨rfl, trivial⟩ ?_)))))
        refine r_op (t_l 1 1 rfl rfl rfl rfl (.one tyO22)) ⟨rfl, trivial⟩ ?_
        refine r_mv ?_
        obtain ⟨v34, h35, hF⟩ := bnd hF
        refine r_op (t_call rfl (ct_slices_Contains_int h35) rfl) ⟨rfl, rfl, trivial⟩ ?_
        refine r_nil (r_next (r_if rfl (fun h36 => ?_) (fun h36 => ?_)))
        · have hF := cnd_t h36 hF
          refine r_brk (r_next (r_reg ?_))
          obtain ⟨v37, h38, hF⟩ := bnd hF
          refine r_op (t_add rfl h38) ⟨rfl, k_I _ _, trivial⟩ ?_
          refine r_mv ?_
          refine r_nil ?_
          exact r_round (fun a w hh => ⟨x18, v37, b19, c20, n21, hF, q22, hs_back [0, 1] rfl (by decide) (by exact ⟨rfl, rfl, rfl, rfl, rfl, trivial⟩) hh⟩)
        · have hF := cnd_f h36 hF
          refine r_skip (r_next (r_seq (r_reg (r_mv ?_))))
          obtain ⟨x39, h40, hF⟩ := bnd hF
          refine r_make (C := cQ) rfl tyS24 rfl tyZ35q rfl h40 (fun b41 => ?_)
          refine r_as ?_
          refine r_nil (r_next (r_seq (r_reg (r_mv ?_))))
          refine r_mv ?_
          obtain ⟨v44, h45, hF⟩ := bnd hF
          refine r_op (t_call rfl (qc_rat_Of h45) rfl) ⟨k_I _ _, k_I _ _, trivial⟩ ?_
          obtain ⟨v46, h47, hF⟩ := bnd hF
          refine r_op (t_ixE (C := cQ) 0 rfl tyS24 rfl rfl (rdL_some h47).1 (rdL_some h47).2.1) ⟨rfl, rfl, trivial⟩ ?_
          obtain ⟨x48, h49, hF⟩ := bnd hF
          refine r_op0 (t_stE 0 rfl rfl h47 h49 tyA35.s) ⟨rfl, rfl, trivial⟩ ?_
          refine r_nil (r_next (r_seq (r_seq (r_reg (r_op (t_fa (off := 0) (k := 1) rfl tyF136_1) ⟨rfl, trivial⟩ ?_)))))
          refine r_op (t_l 2 1 rfl rfl rfl rfl (.one tyO22)) ⟨rfl, trivial⟩ ?_
          refine r_op (t_ln rfl tyS22) ⟨rfl, trivial⟩ ?_
          refine r_op (t_mv (.inl rfl)) ⟨k_I _ _, trivial⟩ ?_
          refine r_nil (r_next (r_blk (r_cutN (fun H E => ∃ (x65 : List Rat), ∃ (b66 : Option Nat), ∃ (c67 : Nat), ∃ (n68 : Nat), F_matrix_Kernel_j72 K x18 x24 (F_matrix_Kernel_l31 K v4 v6 k) x65 = some x25' ∧ x65.length = n68 ∧ H = [hO cQ b66 c67 35 n68 x65, hO (cSl cQ) b19 c20 24 n21 x18, ⟨some b8, 1, 136, 6, 1, (matrix_form.enc v6)⟩] ∧ E = [(4, .vc (pI .i64 v4)), (5, .vc (pP (some b8) 0)), (6, .vc (pO b19 n21 c20)), (8, .vc (pO b66 n68 c67)), (19, .vc (pI .i64 v4)), (20, .vc (pI .i64 x24))]) ?_ (fun Jj72 => ?_))))
          · rintro _ _ ⟨x65, b66, c67, n68, hF, q69, rfl, rfl⟩
            unfold F_matrix_Kernel_j72 at hF
            refine r_next (r_reg (r_mv ?_))
            refine r_mv ?_
            refine r_fzL 0 [8, 55] rfl q69 ⟨rfl, rfl, trivial⟩ rfl ?_
            refine r_op (t_bs (C := (cSl cQ)) (xs := [.tmp 55]) (ps := [.vc (pS cQ x65)]) (zs := [x65]) rfl tyS47 rfl ⟨⟨trivial, rfl⟩, trivial⟩ rfl) ⟨rfl, trivial⟩ ?_
            obtain ⟨x73, h74, hF⟩ := bnd hF
            refine r_app 0 rfl tyS47 rfl rfl q22 rfl rfl h74 (fun b75 c76 H77 e78 => ?_)
            cases e78
            refine r_as ?_
            refine r_nil (r_blkN (r_next (r_reg ?_)))
            obtain ⟨v80, h81, hF⟩ := bnd hF
            refine r_op (t_add rfl h81) ⟨rfl, k_I _ _, trivial⟩ ?_
            refine r_mv ?_
            refine r_nil ?_
            exact r_round (fun a w hh => ⟨x73, v80, b75, c76, (n21 + [x65].length), hF, (apL_len h74 q22), hs_back [0, 1] rfl (by decide) (by exact ⟨rfl, rfl, rfl, rfl, rfl, trivial⟩) hh⟩)
          · skip
            obtain ⟨x65', hL, hRl71⟩ := bnd hF
            refine r_lp (fun k a w => ∃ (x58 : List Rat), ∃ (x64 : Int), ∃ (b59 : Option Nat), ∃ (c60 : Nat), ∃ (n61 : Nat), F_matrix_Kernel_l71 K v6 x24 k x58 x64 = some x65' ∧ x58.length = n61 ∧ hs _ [hO cQ b59 c60 35 n61 x58, hO (cSl cQ) b19 c20 24 n21 x18, ⟨some b8, 1, 136, 6, 1, (matrix_form.enc v6)⟩] [(4, .vc (pI .i64 v4)), (5, .vc (pP (some b8) 0)), (6, .vc (pO b19 n21 c20)), (7, .vc (pI .i64 x24)), (8, .vc (pO b59 n61 c60)), (19, .vc (pI .i64 v4)), (20, .vc (pI .i64 x24)), (34, .vc (pS cI v6.pivots)), (35, .vc (pI .i64 (v6.pivots.length : Int))), (36, .vc (pI .i64 x64))] a w) K (fun a w ⟨_, _, _, _, _, hF, _, _⟩ => by cases hF) (fun k a w ⟨x58, x64, b59, c60, n61, hF, q62, hh⟩ => r_at ?_ hh) (fun a w hh => ⟨x48, 0, b41, x39.length, x39.length, hL, (stL_len h49 rfl), hs_back [0, 1, 2] rfl (by decide) (by exact ⟨rfl, rfl, rfl, rfl, rfl, rfl, rfl, rfl, rfl, rfl, trivial⟩) hh⟩)
            rw [F_matrix_Kernel_l71.eq_2] at hF
            refine r_seq (r_reg (r_op (t_lt rfl) ⟨rfl, rfl, trivial⟩ ?_))
            refine r_nil (r_next (r_seq (r_if rfl (fun h82 => ?_) (fun h82 => ?_))))
            · have hF := cnd_t h82 hF
              refine r_skip (r_next (r_seq (r_blk (r_seq (r_reg (r_mv ?_))))))
              obtain ⟨v83, h84, hF⟩ := bnd hF
              refine r_op (t_ix rfl tyS22 h84) ⟨rfl, rfl, trivial⟩ ?_
              refine r_op (t_lM 1 rfl rfl (.one tyO3)) ⟨rfl, trivial⟩ ?_
              refine r_as ?_
              refine r_as ?_
              refine r_nil (r_next (r_reg (r_mv ?_)))
              refine r_mv ?_
              refine r_op (t_fa (off := 0) (k := 0) rfl tyF136_0) ⟨rfl, trivial⟩ ?_
              refine r_op (t_l 2 1 rfl rfl rfl rfl (.one tyO47)) ⟨rfl, trivial⟩ ?_
              refine r_mv ?_
              obtain ⟨v85, h86, hF⟩ := bnd hF
              refine r_op (t_ix rfl tyS47 h86) ⟨rfl, rfl, trivial⟩ ?_
              refine r_op (t_lM 1 rfl rfl (.one tyO24)) ⟨rfl, trivial⟩ ?_
              refine r_mv ?_
              obtain ⟨v87, h88, hF⟩ := bnd hF
              refine r_op (t_ix rfl tyS24 h88) ⟨rfl, rfl, trivial⟩ ?_
              refine r_op (t_lM 4 rfl rfl (.agg tyA35)) ⟨rfl, trivial⟩ ?_
              obtain ⟨v89, h90, hF⟩ := bnd hF
              refine r_op (t_call rfl (qc_rat_Neg h90) rfl) ⟨rfl, trivial⟩ ?_
              obtain ⟨v91, h92, hF⟩ := bnd hF
              refine r_op (t_ixE (C := cQ) 0 rfl tyS24 rfl q62 (rdL_some h92).1 (rdL_some h92).2.1) ⟨rfl, rfl, trivial⟩ ?_
              obtain ⟨x93, h94, hF⟩ := bnd hF
              refine r_op0 (t_stE 0 rfl rfl h92 h94 tyA35.s) ⟨rfl, rfl, trivial⟩ ?_
              refine r_nil (r_blkN (r_next (r_reg ?_)))
              obtain ⟨v96, h97, hF⟩ := bnd hF
              refine r_op (t_add rfl h97) ⟨rfl, k_I _ _, trivial⟩ ?_
              refine r_mv ?_
              refine r_nil ?_
              exact r_round (fun a w hh => ⟨x93, v96, b59, c60, n61, hF, (stL_len h94 q62), hs_back [0, 1, 2] rfl (by decide) (by exact ⟨rfl, rfl, rfl, rfl, rfl, rfl, rfl, rfl, rfl, rfl, trivial⟩) hh⟩)
            · have hF := cnd_f h82 hF
              refine r_brk ?_
              obtain rfl := sm1 hF
              exact r_backJ Jj72 ⟨x58, b59, c60, n61, hRl71, q62, rfl, rfl⟩ [0, 1, 2] rfl ⟨rfl, rfl, rfl, rfl, rfl, rfl, trivial⟩
      · have hF := cnd_f h33 hF
        refine r_brk ?_
        obtain rfl := sm1 hF
        exact r_backJ Jj32 ⟨x18, b19, c20, n21, hRl31, q22, rfl, rfl⟩ [0] rfl ⟨rfl, trivial⟩

abbrev N_energy_Kept_1 : Nat := 77
def F_energy_Kept_1_j33 (K : Nat) (c1 : List (List Rat)) (x26 : List Rat) : Option (List (List Rat)) :=
  (apL c1 [x26]).bind fun x34 => some x34
def F_energy_Kept_1_l32 (K : Nat) (a0 : List api_Term) : Nat → (List Rat) → Int → Option (List Rat)
  | 0, _, _ => none
  | k + 1, x19, x25 => bif (decide (x25 < (a0.length : Int))) then ((rdL a0 x25).bind fun v42 => (rdL x19 v42.dof).bind fun v47 => (qadd v47 v42.k).bind fun v49 => (rdL x19 v42.dof).bind fun v51 => (stL x19 v42.dof v49).bind fun x53 => (chk (x25 + 1)).bind fun v56 => F_energy_Kept_1_l32 K a0 k x53 v56) else (some x19)
def F_energy_Kept_1 (K : Nat) (c0 : Int) (c1 : List (List Rat)) (a0 : List api_Term) : Option (List (List Rat)) :=
  (mkL c0 0).bind fun x7 => (F_energy_Kept_1_l32 K a0 K x7 0).bind fun x26 => F_energy_Kept_1_j33 K c1 x26
set_option maxRecDepth 100000 in
theorem ctO_energy_Kept_1 {K : Nat} {c0 : Int} {c1 : List (List Rat)} {a0 : List api_Term} {r : List (List Rat)} (hF : F_energy_Kept_1 K c0 c1 a0 = some r) {p1 : Nat} {b3 : Option Nat} {c4 n2 : Nat} (q5 : c1.length = n2) : CtO Tryz.prog 77 [⟨some p1, 1, 47, 1, 1, [pO b3 n2 c4]⟩, hO (cSl cQ) b3 c4 24 n2 c1] [.vc (pS api_Term.cod a0), .vc (pM (cI.e c0)), .vc (pP (some p1) 0)] (fun Ho q => ∃ b60 c61 n59, r.length = n59 ∧ Ho = [⟨some p1, 1, 47, 1, 1, [pO b60 n59 c61]⟩, hO (cSl cQ) b60 c61 24 n59 r] ∧ q = .any) := by
  unfold F_energy_Kept_1 at hF
  refine ctO_intro Tryz.func77 rfl (by kernel_rfl) Tryz.ntmps77 rfl (fun w0 M0 => ?_)
  refine r_seq (r_reg (r_op (t_lM 1 rfl rfl (.one tyO3)) ⟨rfl, trivial⟩ ?_))
  obtain ⟨x7, h8, hF⟩ := bnd hF
  refine r_make (C := cQ) rfl tyS24 rfl tyZ35q rfl h8 (fun b9 => ?_)
  refine r_as ?_
  refine r_nil (r_next (r_seq (r_seq (r_reg (r_mv ?_)))))
  refine r_op (t_ln rfl tyS29) ⟨rfl, trivial⟩ ?_
  refine r_op (t_mv (.inl rfl)) ⟨k_I _ _, trivial⟩ ?_
  refine r_nil (r_next (r_blk (r_cutN (fun H E => ∃ (x26 : List Rat), ∃ (b27 : Option Nat), ∃ (c28 : Nat), ∃ (n29 : Nat), F_energy_Kept_1_j33 K c1 x26 = some r ∧ x26.length = n29 ∧ H = [hO cQ b27 c28 35 n29 x26, ⟨some p1, 1, 47, 1, 1, [pO b3 n2 c4]⟩, hO (cSl cQ) b3 c4 24 n2 c1] ∧ E = [(2, .vc (pP (some p1) 0)), (4, .vc (pO b27 n29 c28))]) ?_ (fun Jj33 => ?_))))
  · rintro _ _ ⟨x26, b27, c28, n29, hF, q30, rfl, rfl⟩
    unfold F_energy_Kept_1_j33 at hF
    refine r_next (r_reg (r_op (t_l 1 1 rfl rfl rfl rfl (.one tyO47)) ⟨rfl, trivial⟩ ?_))
    refine r_mv ?_
    refine r_fzL 0 [4, 29] rfl q30 ⟨rfl, rfl, trivial⟩ rfl ?_
    refine r_op (t_bs (C := (cSl cQ)) (xs := [.tmp 29]) (ps := [.vc (pS cQ x26)]) (zs := [x26]) rfl tyS47 rfl ⟨⟨trivial, rfl⟩, trivial⟩ rfl) ⟨rfl, trivial⟩ ?_
    obtain ⟨x34, h35, hF⟩ := bnd hF
    refine r_app 1 rfl tyS47 rfl rfl q5 rfl rfl h35 (fun b36 c37 H38 e39 => ?_)
    cases e39
    refine r_op0 (t_s 0 rfl rfl rfl tyO47.s) ⟨rfl, rfl, trivial⟩ ?_
    refine r_nil ?_
    obtain rfl := sm1 hF
    exact r_done (.inr rfl) Tryz.results77 .nil rfl [0, 1] rfl (by decide) ⟨b36, c37, (n2 + [x26].length), (apL_len h35 q5), rfl, rfl⟩
  · skip
    obtain ⟨x26', hL, hRl32⟩ := bnd hF
    refine r_lp (fun k a w => ∃ (x19 : List Rat), ∃ (x25 : Int), ∃ (b20 : Option Nat), ∃ (c21 : Nat), ∃ (n22 : Nat), F_energy_Kept_1_l32 K a0 k x19 x25 = some x26' ∧ x19.length = n22 ∧ hs _ [hO cQ b20 c21 35 n22 x19, ⟨some p1, 1, 47, 1, 1, [pO b3 n2 c4]⟩, hO (cSl cQ) b3 c4 24 n2 c1] [(2, .vc (pP (some p1) 0)), (4, .vc (pO b20 n22 c21)), (9, .vc (pS api_Term.cod a0)), (10, .vc (pI .i64 (a0.length : Int))), (11, .vc (pI .i64 x25))] a w) K (fun a w ⟨_, _, _, _, _, hF, _, _⟩ => by cases hF) (fun k a w ⟨x19, x25, b20, c21, n22, hF, q23, hh⟩ => r_at ?_ hh) (fun a w hh => ⟨x7, 0, b9, x7.length, x7.length, hL, rfl, hs_back [0, 1, 2] rfl (by decide) (by exact ⟨rfl, rfl, rfl, rfl, rfl, trivial⟩) hh⟩)
    rw [F_energy_Kept_1_l32.eq_2] at hF
    refine r_seq (r_reg (r_op (t_lt rfl) ⟨rfl, rfl, trivial⟩ ?_))
    refine r_nil (r_next (r_seq (r_if rfl (fun h41 => ?_) (fun h41 => ?_))))
    · have hF := cnd_t h41 hF
      refine r_skip (r_next (r_seq (r_blk (r_seq (r_reg ?_)))))
      obtain ⟨v42, h43, hF⟩ := bnd hF
      refine r_op (t_ix rfl tyS29 h43) ⟨rfl, rfl, trivial⟩ ?_
      refine r_op (t_lM 5 rfl rfl (.agg tyA38)) ⟨rfl, trivial⟩ ?_
      refine r_alloc rfl tyZ38q (fun b44 => ?_)
      refine r_op0 (t_s 0 rfl rfl rfl tyA38.s) ⟨rfl, rfl, trivial⟩ ?_
      refine r_nil (r_next ?_)
      obtain ⟨v47, h48, hF⟩ := bnd hF
      obtain ⟨v49, h50, hF⟩ := bnd hF
      obtain ⟨v51, h52, hF⟩ := bnd hF
      refine r_draw [0, 0, 2, 0, 0, 16, 56, 120, 0, 256, 1016, 2047, 4095] 12 1 [.v (.vc (pO b20 n22 c21)), .v (.vc (pP (some b44) 0)), .v (.vc (pI .i64 v42.dof)), .v (.vc (pO b20 n22 c21)), .v (.vc (pP (some b44) 0)), .v (.vc (pI .i64 v42.dof)), .v (.vc (pE b20 v42.dof cQ.n 0)), .v (.va (eQ v47)), .v (.vc (pP (some b44) 1)), .v (.va (eQ v42.k)), .v (.va (eQ v49)), .v (.vc (pE b20 v42.dof cQ.n 0))] Tryz_mixed ⟨⟨rfl, .run (lo := 0) (n := 1) ⟨fun G45 A => t_mv (.inl rfl), trivial⟩ (fun G45 => ⟨rfl, trivial⟩)⟩, ⟨rfl, .run (lo := 0) (n := 1) ⟨fun G45 A => t_fa (off := 0) (k := 0) rfl tyF38_0, trivial⟩ (fun G45 => ⟨rfl, trivial⟩)⟩, ⟨rfl, .run (lo := 0) (n := 1) ⟨fun G45 A => t_l 0 1 rfl rfl rfl rfl (.one tyO3), trivial⟩ (fun G45 => ⟨rfl, trivial⟩)⟩, ⟨rfl, .run (lo := 0) (n := 1) ⟨fun G45 A => t_mv (.inl rfl), trivial⟩ (fun G45 => ⟨rfl, trivial⟩)⟩, ⟨rfl, .run (lo := 0) (n := 1) ⟨fun G45 A => t_fa (off := 0) (k := 0) rfl tyF38_0, trivial⟩ (fun G45 => ⟨rfl, trivial⟩)⟩, ⟨rfl, .run (lo := 0) (n := 1) ⟨fun G45 A => t_l 0 1 rfl rfl rfl rfl (.one tyO3), trivial⟩ (fun G45 => ⟨rfl, trivial⟩)⟩, ⟨rfl, .run (lo := 0) (n := 1) ⟨fun G45 A => t_ixE (C := cQ) 1 rfl tyS24 rfl q23 (rdL_some h48).1 (rdL_some h48).2.1, trivial⟩ (fun G45 => ⟨rfl, rfl, trivial⟩)⟩, ⟨rfl, .run (lo := 0) (n := 1) ⟨fun G45 A => t_ldE (k := 4) 1 rfl rfl h48 rfl (.agg tyA35) rfl, trivial⟩ (fun G45 => ⟨rfl, trivial⟩)⟩, ⟨rfl, .run (lo := 0) (n := 1) ⟨fun G45 A => t_fa (off := 0) (k := 1) rfl tyF38_1, trivial⟩ (fun G45 => ⟨rfl, trivial⟩)⟩, ⟨rfl, .run (lo := 0) (n := 1) ⟨fun G45 A => t_l 0 4 rfl rfl rfl rfl (.agg tyA35), trivial⟩ (fun G45 => ⟨rfl, trivial⟩)⟩, ⟨rfl, .run (lo := 0) (n := 1) ⟨fun G45 A => t_call rfl (qc_rat_Add h50) rfl, trivial⟩ (fun G45 => ⟨rfl, rfl, trivial⟩)⟩, ⟨rfl, .run (lo := 0) (n := 1) ⟨fun G45 A => t_ixE (C := cQ) 1 rfl tyS24 rfl q23 (rdL_some h52).1 (rdL_some h52).2.1, trivial⟩ (fun G45 => ⟨rfl, rfl, trivial⟩)⟩, trivial⟩ (fun bs46 G45 => ?_)
      obtain ⟨x53, h54, hF⟩ := bnd hF
      refine r_op0 (t_stE 1 rfl rfl h52 h54 tyA35.s) ⟨rfl, rfl, trivial⟩ ?_
      refine r_nil (r_blkN (r_next (r_reg ?_)))
      obtain ⟨v56, h57, hF⟩ := bnd hF
      refine r_op (t_add rfl h57) ⟨rfl, k_I _ _, trivial⟩ ?_
      refine r_mv ?_
      refine r_nil ?_
      exact r_round (fun a w hh => ⟨x53, v56, b20, c21, n22, hF, (stL_len h54 q23), hs_back [1, 2, 3] rfl (by decide) (by exact ⟨rfl, rfl, rfl, rfl, rfl, trivial⟩) hh⟩)
    · have hF := cnd_f h41 hF
      refine r_brk ?_
      obtain rfl := sm1 hF
      exact r_backJ Jj33 ⟨x19, b20, c21, n22, hRl32, q23, rfl, rfl⟩ [0, 1, 2] rfl ⟨rfl, rfl, trivial⟩

abbrev N_energy_Kept : Nat := 18
def F_energy_Kept_j32 (K : Nat) (x25 : List (List Rat)) : Option ((List (List Rat)) × Int) :=
  bif (decide (64 < (x25.length : Int))) then (some ([], 4)) else ((F_matrix_Kernel K x25).bind fun v34 => some (v34.1, v34.2))
def F_energy_Kept_l31 (K : Nat) (a0 : List api_Dof) (a1 : List api_Row) : Nat → (List (List Rat)) → Int → Option (LR ((List (List Rat)) × Int) (List (List Rat)))
  | 0, _, _ => none
  | k + 1, x18, x24 => bif (decide (x24 < (a1.length : Int))) then ((rdL a1 x24).bind fun v37 => (F_energy_within K v37.j (a0.length : Int)).bind fun v40 => bif (!v40) then (some (.ret ([], 1))) else ((F_energy_within K v37.t (a0.length : Int)).bind fun v43 => bif (!v43) then (some (.ret ([], 1))) else ((F_energy_Kept_1 K (a0.length : Int) x18 v37.j).bind fun v46 => bif (decide (0 < (v37.t.length : Int))) then ((F_energy_Kept_1 K (a0.length : Int) v46 v37.t).bind fun v55 => (chk (x24 + 1)).bind fun v63 => F_energy_Kept_l31 K a0 a1 k v55 v63) else ((chk (x24 + 1)).bind fun v65 => F_energy_Kept_l31 K a0 a1 k v46 v65)))) else (some (.go x18))
def F_energy_Kept (K : Nat) (a0 : List api_Dof) (a1 : List api_Row) : Option ((List (List Rat)) × Int) :=
  (mkL (a0.length : Int) 0).bind fun x2 => (F_energy_Kept_l31 K a0 a1 K [x2] 0).bind fun o => match o with | .ret r => some r | .go x25 => F_energy_Kept_j32 K x25
set_option maxRecDepth 100000 in
theorem ct_energy_Kept {K : Nat} {a0 : List api_Dof} {a1 : List api_Row} {r : (List (List Rat)) × Int} (hF : F_energy_Kept K a0 a1 = some r) : Ct Tryz.prog 18 [.vc (pS api_Dof.cod a0), .vc (pS api_Row.cod a1)] (.t2 (.vc (pS (cSl cQ) r.1)) (.vc (pI .i64 r.2))) := by
  unfold F_energy_Kept at hF
  refine ctO_intro Tryz.func18 rfl (by kernel_rfl) Tryz.ntmps18 rfl (fun w0 M0 => ?_)
  refine r_seq (r_reg (r_op (t_mv (.inr rfl)) ⟨k_nil (cSl cQ), trivial⟩ ?_))
  refine r_op (t_mv (.inr rfl)) ⟨k_I _ _, trivial⟩ ?_
  refine r_nil (r_next (r_seq (r_reg (r_mv ?_))))
  refine r_op (t_ln rfl tyS23) ⟨rfl, trivial⟩ ?_
  refine r_alloc rfl tyZ3q (fun b1 => ?_)
  refine r_op0 (t_s 0 rfl rfl rfl tyO3.s) ⟨rfl, rfl, trivial⟩ ?_
  refine r_nil (r_next (r_seq (r_reg (r_op (t_l 0 1 rfl rfl rfl rfl (.one tyO3)) ⟨rfl, trivial⟩ ?_))))
  obtain ⟨x2, h3, hF⟩ := bnd hF
  refine r_make (C := cQ) rfl tyS24 rfl tyZ35q rfl h3 (fun b4 => ?_)
  refine r_fzL 0 [14] rfl rfl ⟨rfl, trivial⟩ rfl ?_
  refine r_hv (hv_bs (C := (cSl cQ)) (xs := [.tmp 14]) (ps := [.vc (pS cQ x2)]) (zs := [x2]) rfl tyS47 rfl ⟨⟨trivial, rfl⟩, trivial⟩ rfl) ⟨rfl, trivial⟩ (fun b7 _ => ?_)
  refine r_alloc rfl tyZ47q (fun b10 => ?_)
  refine r_op0 (t_s 0 rfl rfl rfl tyO47.s) ⟨rfl, rfl, trivial⟩ ?_
  refine r_nil (r_next (r_seq (r_reg (r_fvL 2 [(6, 0)] rfl ⟨rfl, trivial⟩ rfl ?_))))
  refine r_op (t_fn (xs := [.tmp 6, .tmp 7]) (cs := [pM (cI.e (a0.length : Int)), pP (some b10) 0]) rfl rfl) ⟨rfl, rfl, trivial⟩ ?_
  refine r_as ?_
  refine r_nil (r_next (r_seq (r_seq (r_reg (r_mv ?_)))))
  refine r_op (t_ln rfl tyS25) ⟨rfl, trivial⟩ ?_
  refine r_op (t_mv (.inl rfl)) ⟨k_I _ _, trivial⟩ ?_
  refine r_nil (r_next (r_blk (r_cutN (fun H E => ∃ (x25 : List (List Rat)), ∃ (b26 : Option Nat), ∃ (c27 : Nat), ∃ (n28 : Nat), F_energy_Kept_j32 K x25 = some r ∧ x25.length = n28 ∧ H = [⟨some b10, 1, 47, 1, 1, [pO b26 n28 c27]⟩, hO (cSl cQ) b26 c27 24 n28 x25] ∧ E = [(7, .vc (pP (some b10) 0))]) ?_ (fun Jj32 => ?_))))
  · rintro _ _ ⟨x25, b26, c27, n28, hF, q29, rfl, rfl⟩
    unfold F_energy_Kept_j32 at hF
    refine r_next (r_seq (r_seq (r_reg (r_op (t_l 0 1 rfl rfl rfl rfl (.one tyO47)) ⟨rfl, trivial⟩ ?_))))
    refine r_op (t_lnE (C := (cSl cQ)) (xs := x25) (T := 24) rfl tyS47 q29) ⟨rfl, trivial⟩ ?_
    refine r_op (t_gt rfl) ⟨rfl, k_I _ _, trivial⟩ ?_
    refine r_nil (r_next (r_if rfl (fun h33 => ?_) (fun h33 => ?_)))
    · have hF := cnd_t h33 hF
      refine r_seq (r_reg (r_op (t_mv (.inr rfl)) ⟨k_nil (cSl cQ), trivial⟩ ?_))
      refine r_op (t_mv (.inr rfl)) ⟨k_I _ _, trivial⟩ ?_
      refine r_nil (r_next (r_ret (r_toR ?_)))
      obtain rfl := sm1 hF
      exact r_done1 (.inl rfl) Tryz.results18 (.tmp rfl (.tmp rfl .nil)) rfl rfl
    · have hF := cnd_f h33 hF
      refine r_skip (r_next (r_seq (r_reg (r_op (t_l 0 1 rfl rfl rfl rfl (.one tyO47)) ⟨rfl, trivial⟩ ?_))))
      refine r_fzL 1 [48, 51] rfl q29 ⟨rfl, rfl, trivial⟩ rfl ?_
      obtain ⟨v34, h35, hF⟩ := bnd hF
      refine r_op (t_call rfl (ct_matrix_Kernel h35) rfl) ⟨rfl, trivial⟩ ?_
      refine r_op (t_ext2a rfl) ⟨rfl, trivial⟩ ?_
      refine r_op (t_ext2b rfl) ⟨rfl, trivial⟩ ?_
      refine r_as ?_
      refine r_as ?_
      refine r_nil (r_next (r_ret (r_toR ?_)))
      obtain rfl := sm1 hF
      exact r_done1 (.inl rfl) Tryz.results18 (.tmp rfl (.tmp rfl .nil)) rfl rfl
  · skip
    obtain ⟨ol31, hL, hRl31⟩ := bnd hF
    refine r_lp (fun k a w => ∃ (x18 : List (List Rat)), ∃ (x24 : Int), ∃ (b19 : Option Nat), ∃ (c20 : Nat), ∃ (n21 : Nat), F_energy_Kept_l31 K a0 a1 k x18 x24 = some ol31 ∧ x18.length = n21 ∧ hs _ [⟨some b10, 1, 47, 1, 1, [pO b19 n21 c20]⟩, hO (cSl cQ) b19 c20 24 n21 x18] [(6, .vc (pM (cI.e (a0.length : Int)))), (7, .vc (pP (some b10) 0)), (8, .vc (pF 77 [pM (cI.e (a0.length : Int)), pP (some b10) 0])), (17, .vc (pS api_Row.cod a1)), (18, .vc (pI .i64 (a1.length : Int))), (19, .vc (pI .i64 x24))] a w) K (fun a w ⟨_, _, _, _, _, hF, _, _⟩ => by cases hF) (fun k a w ⟨x18, x24, b19, c20, n21, hF, q22, hh⟩ => r_at ?_ hh) (fun a w hh => ⟨[x2], 0, b7, 1, 1, hL, rfl, hs_back [0, 1] rfl (by decide) (by exact ⟨rfl, rfl, rfl, rfl, rfl, rfl, trivial⟩) hh⟩)
    rw [F_energy_Kept_l31.eq_2] at hF
    refine r_seq (r_reg (r_op (t_lt rfl) ⟨rfl, rfl, trivial⟩ ?_))
    refine r_nil (r_next (r_seq (r_if rfl (fun h36 => ?_) (fun h36 => ?_))))
    · have hF := cnd_t h36 hF
      refine r_skip (r_next (r_seq (r_blk (r_seq (r_reg ?_)))))
      obtain ⟨v37, h38, hF⟩ := bnd hF
      refine r_op (t_ix rfl tyS25 h38) ⟨rfl, rfl, trivial⟩ ?_
      refine r_op (t_lM 18 rfl rfl (.agg tyA40)) ⟨rfl, trivial⟩ ?_
      refine r_alloc rfl tyZ40q (fun b39 => ?_)
      refine r_op0 (t_s 0 rfl rfl rfl tyA40.s) ⟨rfl, rfl, trivial⟩ ?_
      refine r_nil (r_next (r_seq (r_seq (r_reg (r_op (t_fa (off := 0) (k := 8) rfl tyF40_5) ⟨rfl, trivial⟩ ?_)))))
      refine r_op (t_l 0 1 rfl rfl rfl rfl (.one tyO29)) ⟨rfl, trivial⟩ ?_
      refine r_op (t_lM 1 rfl rfl (.one tyO3)) ⟨rfl, trivial⟩ ?_
      obtain ⟨v40, h41, hF⟩ := bnd hF
      refine r_op (t_call rfl (ct_energy_within h41) rfl) ⟨rfl, rfl, trivial⟩ ?_
      refine r_op (t_not rfl) ⟨rfl, trivial⟩ ?_
      refine r_mv ?_
      refine r_bool (fun h42 => ?_) (fun h42 => ?_)
      · have hF := cnd_t h42 hF
        refine r_opn ?_
        refine r_opn ?_
        refine r_opn ?_
        refine r_opn ?_
        refine r_opn ?_
        refine r_op (t_pickT rfl) ⟨rfl, k_B _, trivial⟩ ?_
        refine r_nil (r_next (r_ifT rfl ?_))
        refine r_seq (r_reg (r_op (t_mv (.inr rfl)) ⟨k_nil (cSl cQ), trivial⟩ ?_))
        refine r_op (t_mv (.inr rfl)) ⟨k_I _ _, trivial⟩ ?_
        refine r_nil (r_next (r_ret (r_toR ?_)))
        obtain rfl := sm1 hF
        obtain rfl := sm1 hRl31
        exact r_done1 (.inl rfl) Tryz.results18 (.tmp rfl (.tmp rfl .nil)) rfl rfl
      · have hF := cnd_f h42 hF
        refine r_opg (t_fa (off := 0) (k := 9) rfl tyF40_6) ⟨rfl, trivial⟩ ?_
        refine r_opg (t_l 0 1 rfl rfl rfl rfl (.one tyO29)) ⟨rfl, trivial⟩ ?_
        refine r_opg (t_lM 1 rfl rfl (.one tyO3)) ⟨rfl, trivial⟩ ?_
        obtain ⟨v43, h44, hF⟩ := bnd hF
        refine r_opg (t_call rfl (ct_energy_within h44) rfl) ⟨rfl, rfl, trivial⟩ ?_
        refine r_opg (t_not rfl) ⟨rfl, trivial⟩ ?_
        refine r_op (t_pickF rfl) ⟨rfl, rfl, trivial⟩ ?_
        refine r_nil (r_next (r_if rfl (fun h45 => ?_) (fun h45 => ?_)))
        · have hF := cnd_t h45 hF
          refine r_seq (r_reg (r_op (t_mv (.inr rfl)) ⟨k_nil (cSl cQ), trivial⟩ ?_))
          refine r_op (t_mv (.inr rfl)) ⟨k_I _ _, trivial⟩ ?_
          refine r_nil (r_next (r_ret (r_toR ?_)))
          obtain rfl := sm1 hF
          obtain rfl := sm1 hRl31
          exact r_done1 (.inl rfl) Tryz.results18 (.tmp rfl (.tmp rfl .nil)) rfl rfl
        · have hF := cnd_f h45 hF
          refine r_skip (r_next (r_seq (r_reg (r_mv ?_))))
          refine r_op (t_fa (off := 0) (k := 8) rfl tyF40_5) ⟨rfl, trivial⟩ ?_
          refine r_op (t_l 0 1 rfl rfl rfl rfl (.one tyO29)) ⟨rfl, trivial⟩ ?_
          obtain ⟨v46, h47, hF⟩ := bnd hF
          refine r_callvO (f := 77) (cs := [pM (cI.e (a0.length : Int)), pP (some b10) 0]) (pre := [.vc (pS api_Term.cod v37.j)]) (xs := [.tmp 37]) [1, 2] [0] rfl (ctO_energy_Kept_1 h47 q22) ⟨rfl, rfl, trivial⟩ rfl rfl (by decide) ?_
          rintro _ _ ⟨b50, c51, n49, q52, rfl, rfl⟩
          refine r_nil (r_next (r_seq (r_reg (r_op (t_fa (off := 0) (k := 9) rfl tyF40_6) ⟨rfl, trivial⟩ ?_))))
          refine r_op (t_l 2 1 rfl rfl rfl rfl (.one tyO29)) ⟨rfl, trivial⟩ ?_
          refine r_op (t_ln rfl tyS29) ⟨rfl, trivial⟩ ?_
          refine r_op (t_gt rfl) ⟨rfl, k_I _ _, trivial⟩ ?_
          refine r_nil (r_next (r_if rfl (fun h54 => ?_) (fun h54 => ?_)))
          · have hF := cnd_t h54 hF
            refine r_reg (r_mv ?_)
            refine r_op (t_fa (off := 0) (k := 9) rfl tyF40_6) ⟨rfl, trivial⟩ ?_
            refine r_op (t_l 2 1 rfl rfl rfl rfl (.one tyO29)) ⟨rfl, trivial⟩ ?_
            obtain ⟨v55, h56, hF⟩ := bnd hF
            refine r_callvO (f := 77) (cs := [pM (cI.e (a0.length : Int)), pP (some b10) 0]) (pre := [.vc (pS api_Term.cod v37.t)]) (xs := [.tmp 45]) [0, 1] [2] rfl (ctO_energy_Kept_1 h56 q52) ⟨rfl, rfl, trivial⟩ rfl rfl (by decide) ?_
            rintro _ _ ⟨b59, c60, n58, q61, rfl, rfl⟩
            refine r_nil (r_blkN (r_next (r_reg ?_)))
            obtain ⟨v63, h64, hF⟩ := bnd hF
            refine r_op (t_add rfl h64) ⟨rfl, k_I _ _, trivial⟩ ?_
            refine r_mv ?_
            refine r_nil ?_
            exact r_round (fun a w hh => ⟨v55, v63, b59, c60, n58, hF, q61, hs_back [0, 1] rfl (by decide) (by exact ⟨rfl, rfl, rfl, rfl, rfl, rfl, trivial⟩) hh⟩)
          · have hF := cnd_f h54 hF
            refine r_skip (r_blkN (r_next (r_reg ?_)))
            obtain ⟨v65, h66, hF⟩ := bnd hF
            refine r_op (t_add rfl h66) ⟨rfl, k_I _ _, trivial⟩ ?_
            refine r_mv ?_
            refine r_nil ?_
            exact r_round (fun a w hh => ⟨v46, v65, b50, c51, n49, hF, q52, hs_back [0, 1] rfl (by decide) (by exact ⟨rfl, rfl, rfl, rfl, rfl, rfl, trivial⟩) hh⟩)
    · have hF := cnd_f h36 hF
      refine r_brk ?_
      obtain rfl := sm1 hF
      exact r_backJ Jj32 ⟨x18, b19, c20, n21, hRl31, q22, rfl, rfl⟩ [0, 1] rfl ⟨rfl, trivial⟩

abbrev N_energy_kinetic_1 : Nat := 142
def F_energy_kinetic_1 (c0 : List Rat) (c1 : List api_Dof) (a0 : Int) : Option Rat :=
  (rdL c0 a0).bind fun v4 => (rdL c0 a0).bind fun v6 => (qmul v4 v6).bind fun v8 => (rdL c1 a0).bind fun v10 => (qdiv v8 v10.inv).bind fun v12 => some v12
set_option maxRecDepth 100000 in
theorem ct_energy_kinetic_1 {c0 : List Rat} {c1 : List api_Dof} {a0 : Int} {r : Rat} (hF : F_energy_kinetic_1 c0 c1 a0 = some r) : Ct Tryz.prog 142 [.vc (pI .i64 a0), .vc (pM ((cSl cQ).e c0)), .vc (pM ((cSl api_Dof.cod).e c1))] (.va (eQ r)) := by
  unfold F_energy_kinetic_1 at hF
  refine ctO_intro Tryz.func142 rfl (by kernel_rfl) Tryz.ntmps142 rfl (fun w0 M0 => ?_)
  refine r_seq (r_reg (r_alloc rfl tyZ35q (fun b1 => ?_)))
  refine r_nil (r_next (r_seq ?_))
  obtain ⟨v4, h5, hF⟩ := bnd hF
  obtain ⟨v6, h7, hF⟩ := bnd hF
  obtain ⟨v8, h9, hF⟩ := bnd hF
  obtain ⟨v10, h11, hF⟩ := bnd hF
  obtain ⟨v12, h13, hF⟩ := bnd hF
  refine r_draw [0, 0, 3, 7, 0, 0, 48, 112, 255, 0, 0, 1536, 3584, 7680, 16383, 32767] 15 1 [.v (.vc (pS cQ c0)), .v (.vc (pI .i64 a0)), .v (.vc (pM (cQ.e v4))), .v (.va (eQ v4)), .v (.vc (pS cQ c0)), .v (.vc (pI .i64 a0)), .v (.vc (pM (cQ.e v6))), .v (.va (eQ v6)), .v (.va (eQ v8)), .v (.vc (pS api_Dof.cod c1)), .v (.vc (pI .i64 a0)), .v (.vc (pM (api_Dof.cod.e v10))), .v (.vc (pM (api_Dof.cod.e v10))), .v (.va (eQ v10.inv)), .v (.va (eQ v12))] Tryz_mixed ⟨⟨rfl, .run (lo := 0) (n := 1) ⟨fun G2 A => t_lM 1 rfl rfl (.one tyO24), trivial⟩ (fun G2 => ⟨rfl, trivial⟩)⟩, ⟨rfl, .run (lo := 0) (n := 1) ⟨fun G2 A => t_mv (.inl rfl), trivial⟩ (fun G2 => ⟨rfl, trivial⟩)⟩, ⟨rfl, .run (lo := 0) (n := 1) ⟨fun G2 A => t_ix rfl tyS24 h5, trivial⟩ (fun G2 => ⟨rfl, rfl, trivial⟩)⟩, ⟨rfl, .run (lo := 0) (n := 1) ⟨fun G2 A => t_lM 4 rfl rfl (.agg tyA35), trivial⟩ (fun G2 => ⟨rfl, trivial⟩)⟩, ⟨rfl, .run (lo := 0) (n := 1) ⟨fun G2 A => t_lM 1 rfl rfl (.one tyO24), trivial⟩ (fun G2 => ⟨rfl, trivial⟩)⟩, ⟨rfl, .run (lo := 0) (n := 1) ⟨fun G2 A => t_mv (.inl rfl), trivial⟩ (fun G2 => ⟨rfl, trivial⟩)⟩, ⟨rfl, .run (lo := 0) (n := 1) ⟨fun G2 A => t_ix rfl tyS24 h7, trivial⟩ (fun G2 => ⟨rfl, rfl, trivial⟩)⟩, ⟨rfl, .run (lo := 0) (n := 1) ⟨fun G2 A => t_lM 4 rfl rfl (.agg tyA35), trivial⟩ (fun G2 => ⟨rfl, trivial⟩)⟩, ⟨rfl, .run (lo := 0) (n := 1) ⟨fun G2 A => t_call rfl (qc_rat_Mul h9) rfl, trivial⟩ (fun G2 => ⟨rfl, rfl, trivial⟩)⟩, ⟨rfl, .run (lo := 0) (n := 1) ⟨fun G2 A => t_lM 1 rfl rfl (.one tyO23), trivial⟩ (fun G2 => ⟨rfl, trivial⟩)⟩, ⟨rfl, .run (lo := 0) (n := 1) ⟨fun G2 A => t_mv (.inl rfl), trivial⟩ (fun G2 => ⟨rfl, trivial⟩)⟩, ⟨rfl, .run (lo := 0) (n := 1) ⟨fun G2 A => t_ix rfl tyS23 h11, trivial⟩ (fun G2 => ⟨rfl, rfl, trivial⟩)⟩, ⟨rfl, .run (lo := 0) (n := 1) ⟨fun G2 A => t_faM (ps := (api_Dof.cod.e v10)) (k := 0) rfl tyF66_0, trivial⟩ (fun G2 => ⟨rfl, trivial⟩)⟩, ⟨rfl, .run (lo := 0) (n := 1) ⟨fun G2 A => t_lM 4 rfl rfl (.agg tyA35), trivial⟩ (fun G2 => ⟨rfl, trivial⟩)⟩, ⟨rfl, .run (lo := 0) (n := 1) ⟨fun G2 A => t_call rfl (qc_rat_Div h13) rfl, trivial⟩ (fun G2 => ⟨rfl, rfl, trivial⟩)⟩, trivial⟩ (fun bs3 G2 => ?_)
  refine r_op0 (t_s 0 rfl rfl rfl tyA35.s) ⟨rfl, rfl, trivial⟩ ?_
  refine r_nil (r_next (r_ret (r_toR ?_)))
  obtain rfl := sm1 hF
  exact r_done1 (.inl rfl) Tryz.results142 (rv_cell 0 4 rfl rfl rfl rfl (.agg tyA35) .nil) rfl rfl

abbrev N_energy_kinetic : Nat := 91
def F_energy_kinetic (a0 : List api_Dof) (a1 : List Rat) : Option energy_account :=
  some (⟨(a0.length : Int), (F_energy_kinetic_1 a1 a0)⟩ : energy_account)
set_option maxRecDepth 100000 in
theorem ct_energy_kinetic {a0 : List api_Dof} {a1 : List Rat} {r : energy_account} (hF : F_energy_kinetic a0 a1 = some r) : Ct Tryz.prog 91 [.vc (pS api_Dof.cod a0), .vc (pS cQ a1)] (.va (energy_account.enc r)) := by
  unfold F_energy_kinetic at hF
  refine ctO_intro Tryz.func91 rfl (by kernel_rfl) Tryz.ntmps91 rfl (fun w0 M0 => ?_)
  refine r_seq (r_reg (r_box rfl rfl trivial (fun b1 => ?_)))
  refine r_box rfl rfl trivial (fun b2 => ?_)
  refine r_alloc rfl tyZ104q (fun b3 => ?_)
  refine r_nil (r_next (r_seq (r_reg (r_op (t_l 2 1 rfl rfl rfl rfl (.one tyO23)) ⟨rfl, trivial⟩ ?_))))
  refine r_op (t_ln rfl tyS23) ⟨rfl, trivial⟩ ?_
  refine r_fvL 1 [(3, 0)] rfl ⟨rfl, trivial⟩ rfl ?_
  refine r_fvL 1 [(2, 0)] rfl ⟨rfl, trivial⟩ rfl ?_
  refine r_op (t_fnF (φ := (F_energy_kinetic_1 a1 a0)) (pre := fun x : Int => [.vc (pI .i64 x)]) (post := fun r : Rat => .va (eQ r)) (xs := [.tmp 3, .tmp 2]) (cs := [pM ((cSl cQ).e a1), pM ((cSl api_Dof.cod).e a0)]) rfl rfl (fun x r h => ct_energy_kinetic_1 h)) ⟨rfl, rfl, trivial⟩ ?_
  refine r_op (t_bld (is := [0, 1]) (xs := [.tmp 6, .tmp 7]) (ps := [.vc (pI .i64 (a0.length : Int)), .vc (pFn Tryz.prog (fun x : Int => [.vc (pI .i64 x)]) (fun r : Rat => .va (eQ r)) (F_energy_kinetic_1 a1 a0))]) rfl tyB104q rfl rfl ⟨trivial, trivial, trivial⟩ rfl) ⟨rfl, rfl, trivial⟩ ?_
  refine r_op0 (t_s 0 rfl rfl rfl tyA104.s) ⟨rfl, rfl, trivial⟩ ?_
  refine r_nil (r_next (r_ret (r_toR ?_)))
  obtain rfl := sm1 hF
  exact r_done1 (.inl rfl) Tryz.results91 (rv_cell 0 2 rfl rfl rfl rfl (.agg tyA104) .nil) rfl rfl

abbrev N_energy_Kinetic : Nat := 29
def F_energy_Kinetic (K : Nat) (a0 : List api_Dof) (a1 : List Rat) : Option Rat :=
  (F_energy_kinetic a0 a1).bind fun v2 => (F_energy_sum K [v2]).bind fun v4 => some v4
set_option maxRecDepth 100000 in
theorem ct_energy_Kinetic {K : Nat} {a0 : List api_Dof} {a1 : List Rat} {r : Rat} (hF : F_energy_Kinetic K a0 a1 = some r) : Ct Tryz.prog 29 [.vc (pS api_Dof.cod a0), .vc (pS cQ a1)] (.va (eQ r)) := by
  unfold F_energy_Kinetic at hF
  refine ctO_intro Tryz.func29 rfl (by kernel_rfl) Tryz.ntmps29 rfl (fun w0 M0 => ?_)
  refine r_seq (r_reg (r_alloc rfl tyZ35q (fun b1 => ?_)))
  refine r_nil (r_next (r_seq (r_reg (r_mv ?_))))
  refine r_mv ?_
  obtain ⟨v2, h3, hF⟩ := bnd hF
  refine r_op (t_call rfl (ct_energy_kinetic h3) rfl) ⟨rfl, rfl, trivial⟩ ?_
  refine r_op (t_bs (C := energy_account.cod) (xs := [.tmp 7]) (ps := [.va (energy_account.enc v2)]) (zs := [v2]) rfl tyS155 rfl ⟨⟨trivial, rfl⟩, trivial⟩ rfl) ⟨rfl, trivial⟩ ?_
  obtain ⟨v4, h5, hF⟩ := bnd hF
  refine r_op (t_call rfl (ct_energy_sum h5) rfl) ⟨rfl, trivial⟩ ?_
  refine r_op0 (t_s 0 rfl rfl rfl tyA35.s) ⟨rfl, rfl, trivial⟩ ?_
  refine r_nil (r_next (r_ret (r_toR ?_)))
  obtain rfl := sm1 hF
  exact r_done1 (.inl rfl) Tryz.results29 (rv_cell 0 4 rfl rfl rfl rfl (.agg tyA35) .nil) rfl rfl

abbrev N_energy_double : Nat := 144
def F_energy_double (a0 : Rat) (a1 : Rat) : Option Rat :=
  (qof 2 1).bind fun v6 => (qmul a0 a1).bind fun v8 => (qmul v6 v8).bind fun v10 => some v10
set_option maxRecDepth 100000 in
theorem ct_energy_double {a0 : Rat} {a1 : Rat} {r : Rat} (hF : F_energy_double a0 a1 = some r) : Ct Tryz.prog 144 [.va (eQ a0), .va (eQ a1)] (.va (eQ r)) := by
  unfold F_energy_double at hF
  refine ctO_intro Tryz.func144 rfl (by kernel_rfl) Tryz.ntmps144 rfl (fun w0 M0 => ?_)
  refine r_seq (r_reg (r_box rfl rfl trivial (fun b1 => ?_)))
  refine r_box rfl rfl trivial (fun b2 => ?_)
  refine r_alloc rfl tyZ35q (fun b3 => ?_)
  refine r_nil (r_next (r_seq ?_))
  obtain ⟨v6, h7, hF⟩ := bnd hF
  obtain ⟨v8, h9, hF⟩ := bnd hF
  obtain ⟨v10, h11, hF⟩ := bnd hF
  refine r_draw [0, 0, 0, 7, 15, 31] 5 1 [.v (.va (eQ v6)), .v (.va (eQ a0)), .v (.va (eQ a1)), .v (.va (eQ v8)), .v (.va (eQ v10))] Tryz_mixed ⟨⟨rfl, .run (lo := 0) (n := 1) ⟨fun G4 A => t_call rfl (qc_rat_Of h7) rfl, trivial⟩ (fun G4 => ⟨k_I _ _, k_I _ _, trivial⟩)⟩, ⟨rfl, .run (lo := 0) (n := 1) ⟨fun G4 A => t_l 2 4 rfl rfl rfl rfl (.agg tyA35), trivial⟩ (fun G4 => ⟨rfl, trivial⟩)⟩, ⟨rfl, .run (lo := 0) (n := 1) ⟨fun G4 A => t_l 1 4 rfl rfl rfl rfl (.agg tyA35), trivial⟩ (fun G4 => ⟨rfl, trivial⟩)⟩, ⟨rfl, .run (lo := 0) (n := 1) ⟨fun G4 A => t_call rfl (qc_rat_Mul h9) rfl, trivial⟩ (fun G4 => ⟨rfl, rfl, trivial⟩)⟩, ⟨rfl, .run (lo := 0) (n := 1) ⟨fun G4 A => t_call rfl (qc_rat_Mul h11) rfl, trivial⟩ (fun G4 => ⟨rfl, rfl, trivial⟩)⟩, trivial⟩ (fun bs5 G4 => ?_)
  refine r_op0 (t_s 0 rfl rfl rfl tyA35.s) ⟨rfl, rfl, trivial⟩ ?_
  refine r_nil (r_next (r_ret (r_toR ?_)))
  obtain rfl := sm1 hF
  exact r_done1 (.inl rfl) Tryz.results144 (rv_cell 0 4 rfl rfl rfl rfl (.agg tyA35) .nil) rfl rfl

abbrev N_energy_stored_1 : Nat := 143
def F_energy_stored_1 (c0 : List api_Dof) (c1 : List Rat) (a0 : Int) : Option Rat :=
  (rdL c0 a0).bind fun v4 => (rdL c1 a0).bind fun v6 => (F_energy_double v4.load v6).bind fun v8 => (qneg v8).bind fun v10 => some v10
set_option maxRecDepth 100000 in
theorem ct_energy_stored_1 {c0 : List api_Dof} {c1 : List Rat} {a0 : Int} {r : Rat} (hF : F_energy_stored_1 c0 c1 a0 = some r) : Ct Tryz.prog 143 [.vc (pI .i64 a0), .vc (pM ((cSl api_Dof.cod).e c0)), .vc (pM ((cSl cQ).e c1))] (.va (eQ r)) := by
  unfold F_energy_stored_1 at hF
  refine ctO_intro Tryz.func143 rfl (by kernel_rfl) Tryz.ntmps143 rfl (fun w0 M0 => ?_)
  refine r_seq (r_reg (r_alloc rfl tyZ35q (fun b1 => ?_)))
  refine r_nil (r_next (r_seq ?_))
  obtain ⟨v4, h5, hF⟩ := bnd hF
  obtain ⟨v6, h7, hF⟩ := bnd hF
  obtain ⟨v8, h9, hF⟩ := bnd hF
  obtain ⟨v10, h11, hF⟩ := bnd hF
  refine r_draw [0, 0, 3, 7, 15, 0, 0, 96, 224, 511, 1023, 2047] 11 1 [.v (.vc (pS api_Dof.cod c0)), .v (.vc (pI .i64 a0)), .v (.vc (pM (api_Dof.cod.e v4))), .v (.vc (pM ((api_Dof.cod.e v4).drop 4))), .v (.va (eQ v4.load)), .v (.vc (pS cQ c1)), .v (.vc (pI .i64 a0)), .v (.vc (pM (cQ.e v6))), .v (.va (eQ v6)), .v (.va (eQ v8)), .v (.va (eQ v10))] Tryz_mixed ⟨⟨rfl, .run (lo := 0) (n := 1) ⟨fun G2 A => t_lM 1 rfl rfl (.one tyO23), trivial⟩ (fun G2 => ⟨rfl, trivial⟩)⟩, ⟨rfl, .run (lo := 0) (n := 1) ⟨fun G2 A => t_mv (.inl rfl), trivial⟩ (fun G2 => ⟨rfl, trivial⟩)⟩, ⟨rfl, .run (lo := 0) (n := 1) ⟨fun G2 A => t_ix rfl tyS23 h5, trivial⟩ (fun G2 => ⟨rfl, rfl, trivial⟩)⟩, ⟨rfl, .run (lo := 0) (n := 1) ⟨fun G2 A => t_faM (ps := (api_Dof.cod.e v4)) (k := 4) rfl tyF66_1, trivial⟩ (fun G2 => ⟨rfl, trivial⟩)⟩, ⟨rfl, .run (lo := 0) (n := 1) ⟨fun G2 A => t_lM 4 rfl rfl (.agg tyA35), trivial⟩ (fun G2 => ⟨rfl, trivial⟩)⟩, ⟨rfl, .run (lo := 0) (n := 1) ⟨fun G2 A => t_lM 1 rfl rfl (.one tyO24), trivial⟩ (fun G2 => ⟨rfl, trivial⟩)⟩, ⟨rfl, .run (lo := 0) (n := 1) ⟨fun G2 A => t_mv (.inl rfl), trivial⟩ (fun G2 => ⟨rfl, trivial⟩)⟩, ⟨rfl, .run (lo := 0) (n := 1) ⟨fun G2 A => t_ix rfl tyS24 h7, trivial⟩ (fun G2 => ⟨rfl, rfl, trivial⟩)⟩, ⟨rfl, .run (lo := 0) (n := 1) ⟨fun G2 A => t_lM 4 rfl rfl (.agg tyA35), trivial⟩ (fun G2 => ⟨rfl, trivial⟩)⟩, ⟨rfl, .run (lo := 0) (n := 1) ⟨fun G2 A => t_call rfl (ct_energy_double h9) rfl, trivial⟩ (fun G2 => ⟨rfl, rfl, trivial⟩)⟩, ⟨rfl, .run (lo := 0) (n := 1) ⟨fun G2 A => t_call rfl (qc_rat_Neg h11) rfl, trivial⟩ (fun G2 => ⟨rfl, trivial⟩)⟩, trivial⟩ (fun bs3 G2 => ?_)
  refine r_op0 (t_s 0 rfl rfl rfl tyA35.s) ⟨rfl, rfl, trivial⟩ ?_
  refine r_nil (r_next (r_ret (r_toR ?_)))
  obtain rfl := sm1 hF
  exact r_done1 (.inl rfl) Tryz.results143 (rv_cell 0 4 rfl rfl rfl rfl (.agg tyA35) .nil) rfl rfl

abbrev N_energy_stored : Nat := 92
def F_energy_stored (a0 : List api_Dof) (a1 : List Rat) : Option energy_account :=
  some (⟨(a0.length : Int), (F_energy_stored_1 a0 a1)⟩ : energy_account)
set_option maxRecDepth 100000 in
theorem ct_energy_stored {a0 : List api_Dof} {a1 : List Rat} {r : energy_account} (hF : F_energy_stored a0 a1 = some r) : Ct Tryz.prog 92 [.vc (pS api_Dof.cod a0), .vc (pS cQ a1)] (.va (energy_account.enc r)) := by
  unfold F_energy_stored at hF
  refine ctO_intro Tryz.func92 rfl (by kernel_rfl) Tryz.ntmps92 rfl (fun w0 M0 => ?_)
  refine r_seq (r_reg (r_box rfl rfl trivial (fun b1 => ?_)))
  refine r_box rfl rfl trivial (fun b2 => ?_)
  refine r_alloc rfl tyZ104q (fun b3 => ?_)
  refine r_nil (r_next (r_seq (r_reg (r_op (t_l 2 1 rfl rfl rfl rfl (.one tyO23)) ⟨rfl, trivial⟩ ?_))))
  refine r_op (t_ln rfl tyS23) ⟨rfl, trivial⟩ ?_
  refine r_fvL 2 [(2, 0)] rfl ⟨rfl, trivial⟩ rfl ?_
  refine r_fvL 1 [(3, 0)] rfl ⟨rfl, trivial⟩ rfl ?_
  refine r_op (t_fnF (φ := (F_energy_stored_1 a0 a1)) (pre := fun x : Int => [.vc (pI .i64 x)]) (post := fun r : Rat => .va (eQ r)) (xs := [.tmp 2, .tmp 3]) (cs := [pM ((cSl api_Dof.cod).e a0), pM ((cSl cQ).e a1)]) rfl rfl (fun x r h => ct_energy_stored_1 h)) ⟨rfl, rfl, trivial⟩ ?_
  refine r_op (t_bld (is := [0, 1]) (xs := [.tmp 6, .tmp 7]) (ps := [.vc (pI .i64 (a0.length : Int)), .vc (pFn Tryz.prog (fun x : Int => [.vc (pI .i64 x)]) (fun r : Rat => .va (eQ r)) (F_energy_stored_1 a0 a1))]) rfl tyB104q rfl rfl ⟨trivial, trivial, trivial⟩ rfl) ⟨rfl, rfl, trivial⟩ ?_
  refine r_op0 (t_s 0 rfl rfl rfl tyA104.s) ⟨rfl, rfl, trivial⟩ ?_
  refine r_nil (r_next (r_ret (r_toR ?_)))
  obtain rfl := sm1 hF
  exact r_done1 (.inl rfl) Tryz.results92 (rv_cell 0 2 rfl rfl rfl rfl (.agg tyA104) .nil) rfl rfl

abbrev N_energy_Stored : Nat := 31
def F_energy_Stored (K : Nat) (a0 : List api_Dof) (a1 : List Rat) : Option Rat :=
  (F_energy_stored a0 a1).bind fun v2 => (F_energy_sum K [v2]).bind fun v4 => some v4
set_option maxRecDepth 100000 in
theorem ct_energy_Stored {K : Nat} {a0 : List api_Dof} {a1 : List Rat} {r : Rat} (hF : F_energy_Stored K a0 a1 = some r) : Ct Tryz.prog 31 [.vc (pS api_Dof.cod a0), .vc (pS cQ a1)] (.va (eQ r)) := by
  unfold F_energy_Stored at hF
  refine ctO_intro Tryz.func31 rfl (by kernel_rfl) Tryz.ntmps31 rfl (fun w0 M0 => ?_)
  refine r_seq (r_reg (r_alloc rfl tyZ35q (fun b1 => ?_)))
  refine r_nil (r_next (r_seq (r_reg (r_mv ?_))))
  refine r_mv ?_
  obtain ⟨v2, h3, hF⟩ := bnd hF
  refine r_op (t_call rfl (ct_energy_stored h3) rfl) ⟨rfl, rfl, trivial⟩ ?_
  refine r_op (t_bs (C := energy_account.cod) (xs := [.tmp 7]) (ps := [.va (energy_account.enc v2)]) (zs := [v2]) rfl tyS155 rfl ⟨⟨trivial, rfl⟩, trivial⟩ rfl) ⟨rfl, trivial⟩ ?_
  obtain ⟨v4, h5, hF⟩ := bnd hF
  refine r_op (t_call rfl (ct_energy_sum h5) rfl) ⟨rfl, trivial⟩ ?_
  refine r_op0 (t_s 0 rfl rfl rfl tyA35.s) ⟨rfl, rfl, trivial⟩ ?_
  refine r_nil (r_next (r_ret (r_toR ?_)))
  obtain rfl := sm1 hF
  exact r_done1 (.inl rfl) Tryz.results31 (rv_cell 0 4 rfl rfl rfl rfl (.agg tyA35) .nil) rfl rfl

abbrev N_gantryref09_SameRow : Nat := 52
def F_gantryref09_SameRow_j5 (K : Nat) : Option Bool :=
  some true
def F_gantryref09_SameRow_l4 (K : Nat) (a0 : List Rat) (a1 : List Rat) : Nat → Int → Option (LR Bool Unit)
  | 0, _ => none
  | k + 1, x3 => bif (decide (x3 < (a0.length : Int))) then ((rdL a0 x3).bind fun v9 => (rdL a1 x3).bind fun v11 => (qsame v9 v11).bind fun v13 => bif (!v13) then (some (.ret false)) else ((chk (x3 + 1)).bind fun v16 => F_gantryref09_SameRow_l4 K a0 a1 k v16)) else (some (.go ()))
def F_gantryref09_SameRow (K : Nat) (a0 : List Rat) (a1 : List Rat) : Option Bool :=
  bif ((a0.length : Int) != (a1.length : Int)) then (some false) else ((F_gantryref09_SameRow_l4 K a0 a1 K 0).bind fun o => match o with | .ret r => some r | .go _ => F_gantryref09_SameRow_j5 K )
set_option maxRecDepth 100000 in
theorem ct_gantryref09_SameRow {K : Nat} {a0 : List Rat} {a1 : List Rat} {r : Bool} (hF : F_gantryref09_SameRow K a0 a1 = some r) : Ct Tryz.prog 52 [.vc (pS cQ a0), .vc (pS cQ a1)] (.vc (pB r)) := by
  unfold F_gantryref09_SameRow at hF
  refine ctO_intro Tryz.func52 rfl (by kernel_rfl) Tryz.ntmps52 rfl (fun w0 M0 => ?_)
  refine r_seq (r_reg (r_op (t_mv (.inr rfl)) ⟨k_B _, trivial⟩ ?_))
  refine r_nil (r_next (r_seq (r_seq (r_reg (r_mv ?_)))))
  refine r_op (t_ln rfl tyS24) ⟨rfl, trivial⟩ ?_
  refine r_mv ?_
  refine r_op (t_ln rfl tyS24) ⟨rfl, trivial⟩ ?_
  refine r_op (t_ne rfl) ⟨rfl, rfl, trivial⟩ ?_
  refine r_nil (r_next (r_if rfl (fun h1 => ?_) (fun h1 => ?_)))
  · have hF := cnd_t h1 hF
    refine r_seq (r_reg (r_op (t_mv (.inr rfl)) ⟨k_B _, trivial⟩ ?_))
    refine r_nil (r_next (r_ret (r_toR ?_)))
    obtain rfl := sm1 hF
    exact r_done1 (.inl rfl) Tryz.results52 (.tmp rfl .nil) rfl rfl
  · have hF := cnd_f h1 hF
    refine r_skip (r_next (r_seq (r_seq (r_reg (r_op (t_mv (.inr rfl)) ⟨k_I _ _, trivial⟩ ?_)))))
    refine r_nil (r_next (r_blk (r_cutN (fun H E => F_gantryref09_SameRow_j5 K = some r ∧ H = [] ∧ E = []) ?_ (fun Jj5 => ?_))))
    · rintro _ _ ⟨hF, rfl, rfl⟩
      unfold F_gantryref09_SameRow_j5 at hF
      refine r_next (r_seq (r_reg (r_op (t_mv (.inr rfl)) ⟨k_B _, trivial⟩ ?_)))
      refine r_nil (r_next (r_ret (r_toR ?_)))
      obtain rfl := sm1 hF
      exact r_done1 (.inl rfl) Tryz.results52 (.tmp rfl .nil) rfl rfl
    · skip
      obtain ⟨ol4, hL, hRl4⟩ := bnd hF
      refine r_lp (fun k a w => ∃ (x3 : Int), F_gantryref09_SameRow_l4 K a0 a1 k x3 = some ol4 ∧ hs _ [] [(0, .vc (pS cQ a0)), (1, .vc (pS cQ a1)), (5, .vc (pI .i64 x3))] a w) K (fun a w ⟨_, hF, _⟩ => by cases hF) (fun k a w ⟨x3, hF, hh⟩ => r_at ?_ hh) (fun a w hh => ⟨0, hL, hs_back [] rfl (by decide) (by exact ⟨rfl, rfl, rfl, trivial⟩) hh⟩)
      rw [F_gantryref09_SameRow_l4.eq_2] at hF
      refine r_seq (r_seq (r_reg (r_mv ?_)))
      refine r_mv ?_
      refine r_op (t_ln rfl tyS24) ⟨rfl, trivial⟩ ?_
      refine r_op (t_lt rfl) ⟨rfl, rfl, trivial⟩ ?_
      refine r_nil (r_next (r_if rfl (fun h6 => ?_) (fun h6 => ?_)))
      · have hF := cnd_t h6 hF
        refine r_skip (r_next (r_seq (r_blk (r_seq ?_))))
        obtain ⟨v9, h10, hF⟩ := bnd hF
        obtain ⟨v11, h12, hF⟩ := bnd hF
        obtain ⟨v13, h14, hF⟩ := bnd hF
        refine r_draw [0, 0, 3, 7, 0, 0, 48, 112, 255, 511] 10 0 [.v (.vc (pS cQ a0)), .v (.vc (pI .i64 x3)), .v (.vc (pM (cQ.e v9))), .v (.va (eQ v9)), .v (.vc (pS cQ a1)), .v (.vc (pI .i64 x3)), .v (.vc (pM (cQ.e v11))), .v (.va (eQ v11)), .v (.vc (pB v13)), .v (.vc (pB (!v13)))] Tryz_mixed ⟨⟨rfl, .run (lo := 0) (n := 1) ⟨fun G7 A => t_mv (.inl rfl), trivial⟩ (fun G7 => ⟨rfl, trivial⟩)⟩, ⟨rfl, .run (lo := 0) (n := 1) ⟨fun G7 A => t_mv (.inl rfl), trivial⟩ (fun G7 => ⟨rfl, trivial⟩)⟩, ⟨rfl, .run (lo := 0) (n := 1) ⟨fun G7 A => t_ix rfl tyS24 h10, trivial⟩ (fun G7 => ⟨rfl, rfl, trivial⟩)⟩, ⟨rfl, .run (lo := 0) (n := 1) ⟨fun G7 A => t_lM 4 rfl rfl (.agg tyA35), trivial⟩ (fun G7 => ⟨rfl, trivial⟩)⟩, ⟨rfl, .run (lo := 0) (n := 1) ⟨fun G7 A => t_mv (.inl rfl), trivial⟩ (fun G7 => ⟨rfl, trivial⟩)⟩, ⟨rfl, .run (lo := 0) (n := 1) ⟨fun G7 A => t_mv (.inl rfl), trivial⟩ (fun G7 => ⟨rfl, trivial⟩)⟩, ⟨rfl, .run (lo := 0) (n := 1) ⟨fun G7 A => t_ix rfl tyS24 h12, trivial⟩ (fun G7 => ⟨rfl, rfl, trivial⟩)⟩, ⟨rfl, .run (lo := 0) (n := 1) ⟨fun G7 A => t_lM 4 rfl rfl (.agg tyA35), trivial⟩ (fun G7 => ⟨rfl, trivial⟩)⟩, ⟨rfl, .run (lo := 0) (n := 1) ⟨fun G7 A => t_call rfl (qc_gantryref05_Same h14) rfl, trivial⟩ (fun G7 => ⟨rfl, rfl, trivial⟩)⟩, ⟨rfl, .run (lo := 0) (n := 1) ⟨fun G7 A => t_not rfl, trivial⟩ (fun G7 => ⟨rfl, trivial⟩)⟩, trivial⟩ (fun bs8 G7 => ?_)
        refine r_nil (r_next (r_if rfl (fun h15 => ?_) (fun h15 => ?_)))
        · have hF := cnd_t h15 hF
          refine r_seq (r_reg (r_op (t_mv (.inr rfl)) ⟨k_B _, trivial⟩ ?_))
          refine r_nil (r_next (r_ret (r_toR ?_)))
          obtain rfl := sm1 hF
          obtain rfl := sm1 hRl4
          exact r_done1 (.inl rfl) Tryz.results52 (.tmp rfl .nil) rfl rfl
        · have hF := cnd_f h15 hF
          refine r_skip (r_blkN (r_next (r_reg (r_mv ?_))))
          obtain ⟨v16, h17, hF⟩ := bnd hF
          refine r_op (t_add rfl h17) ⟨rfl, k_I _ _, trivial⟩ ?_
          refine r_as ?_
          refine r_nil ?_
          exact r_round (fun a w hh => ⟨v16, hF, hs_back [] rfl (by decide) (by exact ⟨rfl, rfl, rfl, trivial⟩) hh⟩)
      · have hF := cnd_f h6 hF
        refine r_brk ?_
        obtain rfl := sm1 hF
        exact r_backJ Jj5 ⟨hRl4, rfl, rfl⟩ [] rfl trivial

abbrev N_gantryref21_Terms : Nat := 80
def F_gantryref21_Terms_j24 (K : Nat) (x17 : List api_Term) : Option (List api_Term) :=
  some x17
def F_gantryref21_Terms_l23 (K : Nat) (a0 : List Rat) : Nat → (List api_Term) → Int → Option (List api_Term)
  | 0, _, _ => none
  | k + 1, x10, x16 => bif (decide (x16 < (a0.length : Int))) then ((rdL a0 x16).bind fun v26 => (apL x10 [(⟨x16, v26⟩ : api_Term)]).bind fun x28 => (chk (x16 + 1)).bind fun v35 => F_gantryref21_Terms_l23 K a0 k x28 v35) else (some x10)
def F_gantryref21_Terms (K : Nat) (a0 : List Rat) : Option (List api_Term) :=
  (F_gantryref21_Terms_l23 K a0 K ([] : List api_Term) 0).bind fun x17 => F_gantryref21_Terms_j24 K x17
set_option maxRecDepth 100000 in
theorem ct_gantryref21_Terms {K : Nat} {a0 : List Rat} {r : List api_Term} (hF : F_gantryref21_Terms K a0 = some r) : Ct Tryz.prog 80 [.vc (pS cQ a0)] (.vc (pS api_Term.cod r)) := by
  unfold F_gantryref21_Terms at hF
  refine ctO_intro Tryz.func80 rfl (by kernel_rfl) Tryz.ntmps80 rfl (fun w0 M0 => ?_)
  refine r_seq (r_reg (r_op (t_mv (.inr rfl)) ⟨k_nil api_Term.cod, trivial⟩ ?_))
  refine r_nil (r_next (r_seq (r_reg (r_nilO api_Term.cod 38 rfl ?_))))
  refine r_nil (r_next (r_seq (r_seq (r_reg (r_op (t_mv (.inr rfl)) ⟨k_I _ _, trivial⟩ ?_)))))
  refine r_nil (r_next (r_blk (r_cutN (fun H E => ∃ (x17 : List api_Term), ∃ (b18 : Option Nat), ∃ (c19 : Nat), ∃ (n20 : Nat), F_gantryref21_Terms_j24 K x17 = some r ∧ x17.length = n20 ∧ H = [hO api_Term.cod b18 c19 38 n20 x17] ∧ E = [(3, .vc (pO b18 n20 c19))]) ?_ (fun Jj24 => ?_))))
  · rintro _ _ ⟨x17, b18, c19, n20, hF, q21, rfl, rfl⟩
    unfold F_gantryref21_Terms_j24 at hF
    refine r_next (r_seq (r_reg (r_mv ?_)))
    refine r_as ?_
    refine r_nil (r_next (r_ret (r_toR (r_fzX 0 [2, 3, 20] rfl q21 ⟨rfl, rfl, rfl, trivial⟩ rfl ?_))))
    obtain rfl := sm1 hF
    exact r_done1 (.inl rfl) Tryz.results80 (.tmp rfl .nil) rfl rfl
  · skip
    obtain ⟨x17', hL, hRl23⟩ := bnd hF
    refine r_lp (fun k a w => ∃ (x10 : List api_Term), ∃ (x16 : Int), ∃ (b11 : Option Nat), ∃ (c12 : Nat), ∃ (n13 : Nat), F_gantryref21_Terms_l23 K a0 k x10 x16 = some x17' ∧ x10.length = n13 ∧ hs _ [hO api_Term.cod b11 c12 38 n13 x10] [(0, .vc (pS cQ a0)), (3, .vc (pO b11 n13 c12)), (4, .vc (pI .i64 x16))] a w) K (fun a w ⟨_, _, _, _, _, hF, _, _⟩ => by cases hF) (fun k a w ⟨x10, x16, b11, c12, n13, hF, q14, hh⟩ => r_at ?_ hh) (fun a w hh => ⟨([] : List api_Term), 0, none, 0, 0, hL, rfl, hs_back [0] rfl (by decide) (by exact ⟨rfl, rfl, rfl, trivial⟩) hh⟩)
    rw [F_gantryref21_Terms_l23.eq_2] at hF
    refine r_seq (r_seq (r_reg (r_mv ?_)))
    refine r_mv ?_
    refine r_op (t_ln rfl tyS24) ⟨rfl, trivial⟩ ?_
    refine r_op (t_lt rfl) ⟨rfl, rfl, trivial⟩ ?_
    refine r_nil (r_next (r_if rfl (fun h25 => ?_) (fun h25 => ?_)))
    · have hF := cnd_t h25 hF
      refine r_skip (r_next (r_seq (r_blk (r_reg (r_mv ?_)))))
      refine r_mv ?_
      refine r_mv ?_
      refine r_mv ?_
      obtain ⟨v26, h27, hF⟩ := bnd hF
      refine r_op (t_ix rfl tyS24 h27) ⟨rfl, rfl, trivial⟩ ?_
      refine r_op (t_lM 4 rfl rfl (.agg tyA35)) ⟨rfl, trivial⟩ ?_
      refine r_op (t_bld (is := [0, 1]) (xs := [.tmp 12, .tmp 16]) (ps := [.vc (pI .i64 x16), .va (eQ v26)]) rfl tyB38q rfl rfl ⟨trivial, trivial, trivial⟩ rfl) ⟨rfl, rfl, trivial⟩ ?_
      refine r_op (t_bs (C := api_Term.cod) (xs := [.tmp 17]) (ps := [.va ([pI .i64 x16] ++ (eQ v26))]) (zs := [(⟨x16, v26⟩ : api_Term)]) rfl tyS29 rfl ⟨⟨trivial, rfl⟩, trivial⟩ rfl) ⟨rfl, trivial⟩ ?_
      obtain ⟨x28, h29, hF⟩ := bnd hF
      refine r_app 0 rfl tyS29 rfl rfl q14 rfl rfl h29 (fun b30 c31 H32 e33 => ?_)
      cases e33
      refine r_as ?_
      refine r_nil (r_blkN (r_next (r_reg (r_mv ?_))))
      obtain ⟨v35, h36, hF⟩ := bnd hF
      refine r_op (t_add rfl h36) ⟨rfl, k_I _ _, trivial⟩ ?_
      refine r_as ?_
      refine r_nil ?_
      exact r_round (fun a w hh => ⟨x28, v35, b30, c31, (n13 + [(⟨x16, v26⟩ : api_Term)].length), hF, (apL_len h29 q14), hs_back [0] rfl (by decide) (by exact ⟨rfl, rfl, rfl, trivial⟩) hh⟩)
    · have hF := cnd_f h25 hF
      refine r_brk ?_
      obtain rfl := sm1 hF
      exact r_backJ Jj24 ⟨x10, b11, c12, n13, hRl23, q14, rfl, rfl⟩ [0] rfl ⟨rfl, trivial⟩

abbrev N_gantrylaw21_lives : Nat := 21
def F_gantrylaw21_lives (K : Nat) : Option Bool :=
  (qof 1 2).bind fun v1 => (qof 1 1).bind fun v3 => (qof (-3) 1).bind fun v5 => (qof 1 1).bind fun v7 => (qof 2 1).bind fun v9 => (qof 1 1).bind fun v11 => (qof (-1) 1).bind fun v13 => (F_energy_Kept K [(⟨v1, 0, false, 0, 0⟩ : api_Dof), (⟨v3, v5, false, 0, 0⟩ : api_Dof)] [(⟨0, 0, 0, 0, 0, [(⟨0, v11⟩ : api_Term), (⟨1, v13⟩ : api_Term)], ([] : List api_Term), 0, 0⟩ : api_Row)]).bind fun v16 => bif (v16.2 != 0) then (some false) else (bif ((v16.1.length : Int) != 1) then (some false) else ((rdL v16.1 0).bind fun v20 => (F_gantryref21_Terms K v20).bind fun v22 => (F_energy_Momentum K [(⟨v1, 0, false, 0, 0⟩ : api_Dof), (⟨v3, v5, false, 0, 0⟩ : api_Dof)] [v7, v9] v22).bind fun v24 => (F_energy_Momentum K [(⟨v1, 0, false, 0, 0⟩ : api_Dof), (⟨v3, v5, false, 0, 0⟩ : api_Dof)] [v7, v9] [(⟨2, 0⟩ : api_Term)]).bind fun v27 => (F_energy_Kinetic K [(⟨v1, 0, false, 0, 0⟩ : api_Dof), (⟨v3, v5, false, 0, 0⟩ : api_Dof)] [v7, v9]).bind fun v30 => (qof 6 1).bind fun v32 => (qsame v30 v32).bind fun v34 => bif v34 then ((qof 5 1).bind fun v37 => (qof 4 1).bind fun v39 => (F_energy_Stored K [(⟨v1, 0, false, 0, 0⟩ : api_Dof), (⟨v3, v5, false, 0, 0⟩ : api_Dof)] [v37, v39]).bind fun v41 => (qof 24 1).bind fun v43 => (qsame v41 v43).bind fun v45 => bif v45 then ((rdL v16.1 0).bind fun v50 => (qof 1 1).bind fun v52 => (qof 1 1).bind fun v54 => (F_gantryref09_SameRow K v50 [v52, v54]).bind fun v56 => bif v56 then (bif (v24.2 == 0) then ((qof 4 1).bind fun v60 => (qsame v24.1 v60).bind fun v62 => bif v62 then (some (v27.2 == 1)) else (some false)) else (some false)) else (some false)) else (some false)) else (some false)))
set_option maxRecDepth 100000 in
theorem ct_gantrylaw21_lives {K : Nat} {r : Bool} (hF : F_gantrylaw21_lives K = some r) : Ct Tryz.prog 21 [] (.vc (pB r)) := by
  unfold F_gantrylaw21_lives at hF
  refine ctO_intro Tryz.func21 rfl (by kernel_rfl) Tryz.ntmps21 rfl (fun w0 M0 => ?_)
  refine r_seq (r_reg (r_op (t_mv (.inr rfl)) ⟨k_B _, trivial⟩ ?_))
  refine r_nil (r_next (r_seq (r_reg (r_op (t_mv (.inr rfl)) ⟨k_F _, trivial⟩ ?_))))
  refine r_nil (r_next (r_seq (r_reg (r_mv ?_))))
  obtain ⟨v1, h2, hF⟩ := bnd hF
  refine r_op (t_callv (cs := []) (pre := [.vc (pI .i64 1), .vc (pI .i64 2)]) rfl (qc_gantryref05_Of h2) rfl) ⟨rfl, k_I _ _, k_I _ _, trivial⟩ ?_
  refine r_op (t_bld (is := [0]) (xs := [.tmp 13]) (ps := [.va (eQ v1)]) rfl tyB66q rfl rfl ⟨trivial, trivial⟩ rfl) ⟨rfl, trivial⟩ ?_
  refine r_mv ?_
  obtain ⟨v3, h4, hF⟩ := bnd hF
  refine r_op (t_callv (cs := []) (pre := [.vc (pI .i64 1), .vc (pI .i64 1)]) rfl (qc_gantryref05_Of h4) rfl) ⟨rfl, k_I _ _, k_I _ _, trivial⟩ ?_
  refine r_mv ?_
  obtain ⟨v5, h6, hF⟩ := bnd hF
  refine r_op (t_callv (cs := []) (pre := [.vc (pI .i64 (-3)), .vc (pI .i64 1)]) rfl (qc_gantryref05_Of h6) rfl) ⟨rfl, k_I _ _, k_I _ _, trivial⟩ ?_
  refine r_op (t_bld (is := [0, 1]) (xs := [.tmp 16, .tmp 18]) (ps := [.va (eQ v3), .va (eQ v5)]) rfl tyB66q rfl rfl ⟨trivial, trivial, trivial⟩ rfl) ⟨rfl, rfl, trivial⟩ ?_
  refine r_op (t_bs (C := api_Dof.cod) (xs := [.tmp 14, .tmp 19]) (ps := [.va ((eQ v1) ++ (eQ 0) ++ [pB false] ++ (eQ 0) ++ (eQ 0)), .va ((eQ v3) ++ (eQ v5) ++ [pB false] ++ (eQ 0) ++ (eQ 0))]) (zs := [(⟨v1, 0, false, 0, 0⟩ : api_Dof), (⟨v3, v5, false, 0, 0⟩ : api_Dof)]) rfl tyS23 rfl ⟨⟨trivial, rfl⟩, ⟨trivial, rfl⟩, trivial⟩ rfl) ⟨rfl, rfl, trivial⟩ ?_
  refine r_as ?_
  refine r_nil (r_next (r_seq (r_reg (r_mv ?_))))
  obtain ⟨v7, h8, hF⟩ := bnd hF
  refine r_op (t_callv (cs := []) (pre := [.vc (pI .i64 1), .vc (pI .i64 1)]) rfl (qc_gantryref05_Of h8) rfl) ⟨rfl, k_I _ _, k_I _ _, trivial⟩ ?_
  refine r_mv ?_
  obtain ⟨v9, h10, hF⟩ := bnd hF
  refine r_op (t_callv (cs := []) (pre := [.vc (pI .i64 2), .vc (pI .i64 1)]) rfl (qc_gantryref05_Of h10) rfl) ⟨rfl, k_I _ _, k_I _ _, trivial⟩ ?_
  refine r_op (t_bs (C := cQ) (xs := [.tmp 22, .tmp 24]) (ps := [.va (eQ v7), .va (eQ v9)]) (zs := [v7, v9]) rfl tyS24 rfl ⟨⟨trivial, rfl⟩, ⟨trivial, rfl⟩, trivial⟩ rfl) ⟨rfl, rfl, trivial⟩ ?_
  refine r_as ?_
  refine r_nil (r_next (r_seq (r_reg (r_mv ?_))))
  obtain ⟨v11, h12, hF⟩ := bnd hF
  refine r_op (t_callv (cs := []) (pre := [.vc (pI .i64 1), .vc (pI .i64 1)]) rfl (qc_gantryref05_Of h12) rfl) ⟨rfl, k_I _ _, k_I _ _, trivial⟩ ?_
  refine r_op (t_bld (is := [0, 1]) (xs := [.const (.int .i64 (0)), .tmp 27]) (ps := [.vc (pI .i64 0), .va (eQ v11)]) rfl tyB38q rfl rfl ⟨trivial, trivial, trivial⟩ rfl) ⟨k_I _ _, rfl, trivial⟩ ?_
  refine r_mv ?_
  obtain ⟨v13, h14, hF⟩ := bnd hF
  refine r_op (t_callv (cs := []) (pre := [.vc (pI .i64 (-1)), .vc (pI .i64 1)]) rfl (qc_gantryref05_Of h14) rfl) ⟨rfl, k_I _ _, k_I _ _, trivial⟩ ?_
  refine r_op (t_bld (is := [0, 1]) (xs := [.const (.int .i64 (1)), .tmp 30]) (ps := [.vc (pI .i64 1), .va (eQ v13)]) rfl tyB38q rfl rfl ⟨trivial, trivial, trivial⟩ rfl) ⟨k_I _ _, rfl, trivial⟩ ?_
  refine r_op (t_bs (C := api_Term.cod) (xs := [.tmp 28, .tmp 31]) (ps := [.va ([pI .i64 0] ++ (eQ v11)), .va ([pI .i64 1] ++ (eQ v13))]) (zs := [(⟨0, v11⟩ : api_Term), (⟨1, v13⟩ : api_Term)]) rfl tyS29 rfl ⟨⟨trivial, rfl⟩, ⟨trivial, rfl⟩, trivial⟩ rfl) ⟨rfl, rfl, trivial⟩ ?_
  refine r_op (t_bld (is := [5]) (xs := [.tmp 32]) (ps := [.vc (pS api_Term.cod [(⟨0, v11⟩ : api_Term), (⟨1, v13⟩ : api_Term)])]) rfl tyB40q rfl rfl ⟨trivial, trivial⟩ rfl) ⟨rfl, trivial⟩ ?_
  refine r_alloc rfl tyZ40q (fun b15 => ?_)
  refine r_op0 (t_s 0 rfl rfl rfl tyA40.s) ⟨rfl, rfl, trivial⟩ ?_
  refine r_nil (r_next (r_seq (r_reg (r_mv ?_))))
  refine r_op (t_l 0 18 rfl rfl rfl rfl (.agg tyA40)) ⟨rfl, trivial⟩ ?_
  refine r_op (t_bs (C := api_Row.cod) (xs := [.tmp 36]) (ps := [.va ([pI .i64 0] ++ [pI .i64 0] ++ [pI .i64 0] ++ [pI .i64 0] ++ (eQ 0) ++ [pS api_Term.cod [(⟨0, v11⟩ : api_Term), (⟨1, v13⟩ : api_Term)]] ++ [pS api_Term.cod ([] : List api_Term)] ++ (eQ 0) ++ (eQ 0))]) (zs := [(⟨0, 0, 0, 0, 0, [(⟨0, v11⟩ : api_Term), (⟨1, v13⟩ : api_Term)], ([] : List api_Term), 0, 0⟩ : api_Row)]) rfl tyS25 rfl ⟨⟨trivial, rfl⟩, trivial⟩ rfl) ⟨rfl, trivial⟩ ?_
  obtain ⟨v16, h17, hF⟩ := bnd hF
  refine r_op (t_call rfl (ct_energy_Kept h17) rfl) ⟨rfl, rfl, trivial⟩ ?_
  refine r_mv ?_
  refine r_op (t_ext2a rfl) ⟨rfl, trivial⟩ ?_
  refine r_op (t_ext2b rfl) ⟨rfl, trivial⟩ ?_
  refine r_as ?_
  refine r_as ?_
  refine r_nil (r_next (r_seq (r_seq (r_reg (r_mv ?_)))))
  refine r_op (t_ne rfl) ⟨rfl, k_I _ _, trivial⟩ ?_
  refine r_mv ?_
  refine r_bool (fun h18 => ?_) (fun h18 => ?_)
  · have hF := cnd_t h18 hF
    refine r_opn ?_
    refine r_opn ?_
    refine r_opn ?_
    refine r_op (t_pickT rfl) ⟨rfl, k_B _, trivial⟩ ?_
    refine r_nil (r_next (r_ifT rfl ?_))
    refine r_seq (r_reg (r_op (t_mv (.inr rfl)) ⟨k_B _, trivial⟩ ?_))
    refine r_nil (r_next (r_ret (r_toR ?_)))
    obtain rfl := sm1 hF
    exact r_done1 (.inl rfl) Tryz.results21 (.tmp rfl .nil) rfl rfl
  · have hF := cnd_f h18 hF
    refine r_opg (t_mv (.inl rfl)) ⟨rfl, trivial⟩ ?_
    refine r_opg (t_ln rfl tyS47) ⟨rfl, trivial⟩ ?_
    refine r_opg (t_ne rfl) ⟨rfl, k_I _ _, trivial⟩ ?_
    refine r_op (t_pickF rfl) ⟨rfl, rfl, trivial⟩ ?_
    refine r_nil (r_next (r_if rfl (fun h19 => ?_) (fun h19 => ?_)))
    · have hF := cnd_t h19 hF
      refine r_seq (r_reg (r_op (t_mv (.inr rfl)) ⟨k_B _, trivial⟩ ?_))
      refine r_nil (r_next (r_ret (r_toR ?_)))
      obtain rfl := sm1 hF
      exact r_done1 (.inl rfl) Tryz.results21 (.tmp rfl .nil) rfl rfl
    · have hF := cnd_f h19 hF
      refine r_skip (r_next (r_seq (r_reg (r_mv ?_))))
      refine r_mv ?_
      refine r_mv ?_
      obtain ⟨v20, h21, hF⟩ := bnd hF
      refine r_op (t_ix rfl tyS47 h21) ⟨rfl, k_I _ _, trivial⟩ ?_
      refine r_op (t_lM 1 rfl rfl (.one tyO24)) ⟨rfl, trivial⟩ ?_
      obtain ⟨v22, h23, hF⟩ := bnd hF
      refine r_op (t_call rfl (ct_gantryref21_Terms h23) rfl) ⟨rfl, trivial⟩ ?_
      obtain ⟨v24, h25, hF⟩ := bnd hF
      refine r_op (t_call rfl (ct_energy_Momentum h25) rfl) ⟨rfl, rfl, rfl, trivial⟩ ?_
      refine r_mv ?_
      refine r_op (t_ext2a rfl) ⟨rfl, trivial⟩ ?_
      refine r_op (t_ext2b rfl) ⟨rfl, trivial⟩ ?_
      refine r_alloc rfl tyZ35q (fun b26 => ?_)
      refine r_op0 (t_s 0 rfl rfl rfl tyA35.s) ⟨rfl, rfl, trivial⟩ ?_
      refine r_as ?_
      refine r_nil (r_next (r_seq (r_reg (r_mv ?_))))
      refine r_mv ?_
      refine r_op (t_bld (is := [0]) (xs := [.const (.int .i64 (2))]) (ps := [.vc (pI .i64 2)]) rfl tyB38q rfl rfl ⟨trivial, trivial⟩ rfl) ⟨k_I _ _, trivial⟩ ?_
      refine r_op (t_bs (C := api_Term.cod) (xs := [.tmp 61]) (ps := [.va ([pI .i64 2] ++ (eQ 0))]) (zs := [(⟨2, 0⟩ : api_Term)]) rfl tyS29 rfl ⟨⟨trivial, rfl⟩, trivial⟩ rfl) ⟨rfl, trivial⟩ ?_
      obtain ⟨v27, h28, hF⟩ := bnd hF
      refine r_op (t_call rfl (ct_energy_Momentum h28) rfl) ⟨rfl, rfl, rfl, trivial⟩ ?_
      refine r_mv ?_
      refine r_op (t_ext2a rfl) ⟨rfl, trivial⟩ ?_
      refine r_op (t_ext2b rfl) ⟨rfl, trivial⟩ ?_
      refine r_alloc rfl tyZ35q (fun b29 => ?_)
      refine r_op0 (t_s 0 rfl rfl rfl tyA35.s) ⟨rfl, rfl, trivial⟩ ?_
      refine r_as ?_
      refine r_nil (r_next (r_seq (r_reg (r_mv ?_))))
      refine r_mv ?_
      obtain ⟨v30, h31, hF⟩ := bnd hF
      refine r_op (t_call rfl (ct_energy_Kinetic h31) rfl) ⟨rfl, rfl, trivial⟩ ?_
      refine r_mv ?_
      obtain ⟨v32, h33, hF⟩ := bnd hF
      refine r_op (t_callv (cs := []) (pre := [.vc (pI .i64 6), .vc (pI .i64 1)]) rfl (qc_gantryref05_Of h33) rfl) ⟨rfl, k_I _ _, k_I _ _, trivial⟩ ?_
      obtain ⟨v34, h35, hF⟩ := bnd hF
      refine r_op (t_call rfl (qc_rat_Same h35) rfl) ⟨rfl, rfl, trivial⟩ ?_
      refine r_mv ?_
      refine r_bool (fun h36 => ?_) (fun h36 => ?_)
      · have hF := cnd_t h36 hF
        refine r_opg (t_mv (.inl rfl)) ⟨rfl, trivial⟩ ?_
        refine r_opg (t_mv (.inl rfl)) ⟨rfl, trivial⟩ ?_
        obtain ⟨v37, h38, hF⟩ := bnd hF
        refine r_opg (t_callv (cs := []) (pre := [.vc (pI .i64 5), .vc (pI .i64 1)]) rfl (qc_gantryref05_Of h38) rfl) ⟨rfl, k_I _ _, k_I _ _, trivial⟩ ?_
        refine r_opg (t_mv (.inl rfl)) ⟨rfl, trivial⟩ ?_
        obtain ⟨v39, h40, hF⟩ := bnd hF
        refine r_opg (t_callv (cs := []) (pre := [.vc (pI .i64 4), .vc (pI .i64 1)]) rfl (qc_gantryref05_Of h40) rfl) ⟨rfl, k_I _ _, k_I _ _, trivial⟩ ?_
        refine r_opg (t_bs (C := cQ) (xs := [.tmp 75, .tmp 77]) (ps := [.va (eQ v37), .va (eQ v39)]) (zs := [v37, v39]) rfl tyS24 rfl ⟨⟨trivial, rfl⟩, ⟨trivial, rfl⟩, trivial⟩ rfl) ⟨rfl, rfl, trivial⟩ ?_
        obtain ⟨v41, h42, hF⟩ := bnd hF
        refine r_opg (t_call rfl (ct_energy_Stored h42) rfl) ⟨rfl, rfl, trivial⟩ ?_
        refine r_opg (t_mv (.inl rfl)) ⟨rfl, trivial⟩ ?_
        obtain ⟨v43, h44, hF⟩ := bnd hF
        refine r_opg (t_callv (cs := []) (pre := [.vc (pI .i64 24), .vc (pI .i64 1)]) rfl (qc_gantryref05_Of h44) rfl) ⟨rfl, k_I _ _, k_I _ _, trivial⟩ ?_
        obtain ⟨v45, h46, hF⟩ := bnd hF
        refine r_opg (t_call rfl (qc_rat_Same h46) rfl) ⟨rfl, rfl, trivial⟩ ?_
        refine r_op (t_pickT rfl) ⟨rfl, rfl, trivial⟩ ?_
        refine r_as ?_
        refine r_nil (r_next (r_seq ?_))
        rcases Bool.eq_false_or_eq_true v45 with h49 | h49
        · have hF := cnd_t h49 hF
          obtain ⟨v50, h51, hF⟩ := bnd hF
          obtain ⟨v52, h53, hF⟩ := bnd hF
          obtain ⟨v54, h55, hF⟩ := bnd hF
          obtain ⟨v56, h57, hF⟩ := bnd hF
          rcases Bool.eq_false_or_eq_true v56 with h58 | h58
          · have hF := cnd_t h58 hF
            rcases Bool.eq_false_or_eq_true (v24.2 == 0) with h59 | h59
            · have hF := cnd_t h59 hF
              obtain ⟨v60, h61, hF⟩ := bnd hF
              obtain ⟨v62, h63, hF⟩ := bnd hF
              rcases Bool.eq_false_or_eq_true v62 with h64 | h64
              · have hF := cnd_t h64 hF
                refine r_draw (0 :: 1 :: 3 :: 7 :: 15 :: 3 :: 35 :: 3 :: 227 :: 483 :: 1023 :: 2047 :: 4095 :: 8191 :: 16383 :: 32767 :: 65535 :: 131071 :: 131071 :: 393215 :: 1048575 :: 2097151 :: 4194303 :: 8388607 :: 16777215 :: 33554431 :: 67108863 :: []) 27 0 (.v (.vc (pB v45)) :: .v (.vc (pB true)) :: .v (.vc (pS (cSl cQ) v16.1)) :: .v (.vc (pM ((cSl cQ).e v50))) :: .v (.vc (pS cQ v50)) :: .v (.vc (pF 14 [])) :: .v (.va (eQ v52)) :: .v (.vc (pF 14 [])) :: .v (.va (eQ v54)) :: .v (.vc (pS cQ [v52, v54])) :: .v (.vc (pB v56)) :: .v (.vc (pB v56)) :: .v (.vc (pB true)) :: .v (.vc (pI .i64 v24.2)) :: .v (.vc (pB (v24.2 == 0))) :: .v (.vc (pB (v24.2 == 0))) :: .v (.vc (pB true)) :: .v (.va (eQ v24.1)) :: .v (.vc (pF 14 [])) :: .v (.va (eQ v60)) :: .v (.vc (pB v62)) :: .v (.vc (pB v62)) :: .v (.vc (pB true)) :: .v (.vc (pI .i64 v27.2)) :: .v (.vc (pB (v27.2 == 1))) :: .v (.vc (pB (v27.2 == 1))) :: .v (.vc (pB (v27.2 == 1))) :: []) Tryz_mixed ⟨⟨rfl, .run (lo := 0) (n := 1) ⟨fun G47 A => t_mv (.inl rfl), trivial⟩ (fun G47 => ⟨rfl, trivial⟩)⟩, ⟨rfl, .run (lo := 0) (n := 1) ⟨fun G47 A => tr_bool (t_mv (.inl rfl)) h49, trivial⟩ (fun G47 => ⟨rfl, trivial⟩)⟩, ⟨rfl, .runG (lo := 0) (n := 1) ⟨fun G47 A => t_mv (.inl rfl), trivial⟩ (fun G47 => ⟨rfl, trivial⟩)⟩, ⟨rfl, .runG (lo := 0) (n := 1) ⟨fun G47 A => t_ix rfl tyS47 h51, trivial⟩ (fun G47 => ⟨rfl, k_I _ _, trivial⟩)⟩, ⟨rfl, .runG (lo := 0) (n := 1) ⟨fun G47 A => t_lM 1 rfl rfl (.one tyO24), trivial⟩ (fun G47 => ⟨rfl, trivial⟩)⟩, ⟨rfl, .runG (lo := 0) (n := 1) ⟨fun G47 A => t_mv (.inl rfl), trivial⟩ (fun G47 => ⟨rfl, trivial⟩)⟩, ⟨rfl, .runG (lo := 0) (n := 1) ⟨fun G47 A => t_callv (cs := []) (pre := [.vc (pI .i64 1), .vc (pI .i64 1)]) rfl (qc_gantryref05_Of h53) rfl, trivial⟩ (fun G47 => ⟨rfl, k_I _ _, k_I _ _, trivial⟩)⟩, ⟨rfl, .runG (lo := 0) (n := 1) ⟨fun G47 A => t_mv (.inl rfl), trivial⟩ (fun G47 => ⟨rfl, trivial⟩)⟩, ⟨rfl, .runG (lo := 0) (n := 1) ⟨fun G47 A => t_callv (cs := []) (pre := [.vc (pI .i64 1), .vc (pI .i64 1)]) rfl (qc_gantryref05_Of h55) rfl, trivial⟩ (fun G47 => ⟨rfl, k_I _ _, k_I _ _, trivial⟩)⟩, ⟨rfl, .runG (lo := 0) (n := 1) ⟨fun G47 A => t_bs (C := cQ) (xs := [.tmp 90, .tmp 92]) (ps := [.va (eQ v52), .va (eQ v54)]) (zs := [v52, v54]) rfl tyS24 rfl ⟨⟨trivial, rfl⟩, ⟨trivial, rfl⟩, trivial⟩ rfl, trivial⟩ (fun G47 => ⟨rfl, rfl, trivial⟩)⟩, ⟨rfl, .runG (lo := 0) (n := 1) ⟨fun G47 A => t_call rfl (ct_gantryref09_SameRow h57) rfl, trivial⟩ (fun G47 => ⟨rfl, rfl, trivial⟩)⟩, ⟨rfl, .run (lo := 0) (n := 1) ⟨fun G47 A => t_pickT rfl, trivial⟩ (fun G47 => ⟨rfl, rfl, trivial⟩)⟩, ⟨rfl, .run (lo := 0) (n := 1) ⟨fun G47 A => tr_bool (t_mv (.inl rfl)) h58, trivial⟩ (fun G47 => ⟨rfl, trivial⟩)⟩, ⟨rfl, .runG (lo := 0) (n := 1) ⟨fun G47 A => t_mv (.inl rfl), trivial⟩ (fun G47 => ⟨rfl, trivial⟩)⟩, ⟨rfl, .runG (lo := 0) (n := 1) ⟨fun G47 A => t_eq rfl, trivial⟩ (fun G47 => ⟨rfl, k_I _ _, trivial⟩)⟩, ⟨rfl, .run (lo := 0) (n := 1) ⟨fun G47 A => t_pickT rfl, trivial⟩ (fun G47 => ⟨rfl, rfl, trivial⟩)⟩, ⟨rfl, .run (lo := 0) (n := 1) ⟨fun G47 A => tr_bool (t_mv (.inl rfl)) h59, trivial⟩ (fun G47 => ⟨rfl, trivial⟩)⟩, ⟨rfl, .runG (lo := 0) (n := 1) ⟨fun G47 A => t_l 1 4 rfl rfl rfl rfl (.agg tyA35), trivial⟩ (fun G47 => ⟨rfl, trivial⟩)⟩, ⟨rfl, .runG (lo := 0) (n := 1) ⟨fun G47 A => t_mv (.inl rfl), trivial⟩ (fun G47 => ⟨rfl, trivial⟩)⟩, ⟨rfl, .runG (lo := 0) (n := 1) ⟨fun G47 A => t_callv (cs := []) (pre := [.vc (pI .i64 4), .vc (pI .i64 1)]) rfl (qc_gantryref05_Of h61) rfl, trivial⟩ (fun G47 => ⟨rfl, k_I _ _, k_I _ _, trivial⟩)⟩, ⟨rfl, .runG (lo := 0) (n := 1) ⟨fun G47 A => t_call rfl (qc_rat_Same h63) rfl, trivial⟩ (fun G47 => ⟨rfl, rfl, trivial⟩)⟩, ⟨rfl, .run (lo := 0) (n := 1) ⟨fun G47 A => t_pickT rfl, trivial⟩ (fun G47 => ⟨rfl, rfl, trivial⟩)⟩, ⟨rfl, .run (lo := 0) (n := 1) ⟨fun G47 A => tr_bool (t_mv (.inl rfl)) h64, trivial⟩ (fun G47 => ⟨rfl, trivial⟩)⟩, ⟨rfl, .runG (lo := 0) (n := 1) ⟨fun G47 A => t_mv (.inl rfl), trivial⟩ (fun G47 => ⟨rfl, trivial⟩)⟩, ⟨rfl, .runG (lo := 0) (n := 1) ⟨fun G47 A => t_eq rfl, trivial⟩ (fun G47 => ⟨rfl, k_I _ _, trivial⟩)⟩, ⟨rfl, .run (lo := 0) (n := 1) ⟨fun G47 A => t_pickT rfl, trivial⟩ (fun G47 => ⟨rfl, rfl, trivial⟩)⟩, ⟨rfl, .run (lo := 0) (n := 1) ⟨fun G47 A => t_mv (.inr rfl), trivial⟩ (fun G47 => ⟨rfl, trivial⟩)⟩, trivial⟩ (fun bs48 G47 => ?_)
                refine r_nil (r_next (r_ret (r_toR ?_)))
                obtain rfl := sm1 hF
                exact r_done1 (.inl rfl) Tryz.results21 (.tmp rfl .nil) rfl rfl
              · have hF := cnd_f h64 hF
                refine r_draw (0 :: 1 :: 3 :: 7 :: 15 :: 3 :: 35 :: 3 :: 227 :: 483 :: 1023 :: 2047 :: 4095 :: 8191 :: 16383 :: 32767 :: 65535 :: 131071 :: 131071 :: 393215 :: 1048575 :: 2097151 :: 4194303 :: 8388607 :: 16777215 :: 33554431 :: 67108863 :: []) 27 0 (.v (.vc (pB v45)) :: .v (.vc (pB true)) :: .v (.vc (pS (cSl cQ) v16.1)) :: .v (.vc (pM ((cSl cQ).e v50))) :: .v (.vc (pS cQ v50)) :: .v (.vc (pF 14 [])) :: .v (.va (eQ v52)) :: .v (.vc (pF 14 [])) :: .v (.va (eQ v54)) :: .v (.vc (pS cQ [v52, v54])) :: .v (.vc (pB v56)) :: .v (.vc (pB v56)) :: .v (.vc (pB true)) :: .v (.vc (pI .i64 v24.2)) :: .v (.vc (pB (v24.2 == 0))) :: .v (.vc (pB (v24.2 == 0))) :: .v (.vc (pB true)) :: .v (.va (eQ v24.1)) :: .v (.vc (pF 14 [])) :: .v (.va (eQ v60)) :: .v (.vc (pB v62)) :: .v (.vc (pB v62)) :: .v (.vc (pB false)) :: .v .any :: .v .any :: .v (.vc (pB false)) :: .v (.vc (pB false)) :: []) Tryz_mixed ⟨⟨rfl, .run (lo := 0) (n := 1) ⟨fun G47 A => t_mv (.inl rfl), trivial⟩ (fun G47 => ⟨rfl, trivial⟩)⟩, ⟨rfl, .run (lo := 0) (n := 1) ⟨fun G47 A => tr_bool (t_mv (.inl rfl)) h49, trivial⟩ (fun G47 => ⟨rfl, trivial⟩)⟩, ⟨rfl, .runG (lo := 0) (n := 1) ⟨fun G47 A => t_mv (.inl rfl), trivial⟩ (fun G47 => ⟨rfl, trivial⟩)⟩, ⟨rfl, .runG (lo := 0) (n := 1) ⟨fun G47 A => t_ix rfl tyS47 h51, trivial⟩ (fun G47 => ⟨rfl, k_I _ _, trivial⟩)⟩, ⟨rfl, .runG (lo := 0) (n := 1) ⟨fun G47 A => t_lM 1 rfl rfl (.one tyO24), trivial⟩ (fun G47 => ⟨rfl, trivial⟩)⟩, ⟨rfl, .runG (lo := 0) (n := 1) ⟨fun G47 A => t_mv (.inl rfl), trivial⟩ (fun G47 => ⟨rfl, trivial⟩)⟩, ⟨rfl, .runG (lo := 0) (n := 1) ⟨fun G47 A => t_callv (cs := []) (pre := [.vc (pI .i64 1), .vc (pI .i64 1)]) rfl (qc_gantryref05_Of h53) rfl, trivial⟩ (fun G47 => ⟨rfl, k_I _ _, k_I _ _, trivial⟩)⟩, ⟨rfl, .runG (lo := 0) (n := 1) ⟨fun G47 A => t_mv (.inl rfl), trivial⟩ (fun G47 => ⟨rfl, trivial⟩)⟩, ⟨rfl, .runG (lo := 0) (n := 1) ⟨fun G47 A => t_callv (cs := []) (pre := [.vc (pI .i64 1), .vc (pI .i64 1)]) rfl (qc_gantryref05_Of h55) rfl, trivial⟩ (fun G47 => ⟨rfl, k_I _ _, k_I _ _, trivial⟩)⟩, ⟨rfl, .runG (lo := 0) (n := 1) ⟨fun G47 A => t_bs (C := cQ) (xs := [.tmp 90, .tmp 92]) (ps := [.va (eQ v52), .va (eQ v54)]) (zs := [v52, v54]) rfl tyS24 rfl ⟨⟨trivial, rfl⟩, ⟨trivial, rfl⟩, trivial⟩ rfl, trivial⟩ (fun G47 => ⟨rfl, rfl, trivial⟩)⟩, ⟨rfl, .runG (lo := 0) (n := 1) ⟨fun G47 A => t_call rfl (ct_gantryref09_SameRow h57) rfl, trivial⟩ (fun G47 => ⟨rfl, rfl, trivial⟩)⟩, ⟨rfl, .run (lo := 0) (n := 1) ⟨fun G47 A => t_pickT rfl, trivial⟩ (fun G47 => ⟨rfl, rfl, trivial⟩)⟩, ⟨rfl, .run (lo := 0) (n := 1) ⟨fun G47 A => tr_bool (t_mv (.inl rfl)) h58, trivial⟩ (fun G47 => ⟨rfl, trivial⟩)⟩, ⟨rfl, .runG (lo := 0) (n := 1) ⟨fun G47 A => t_mv (.inl rfl), trivial⟩ (fun G47 => ⟨rfl, trivial⟩)⟩, ⟨rfl, .runG (lo := 0) (n := 1) ⟨fun G47 A => t_eq rfl, trivial⟩ (fun G47 => ⟨rfl, k_I _ _, trivial⟩)⟩, ⟨rfl, .run (lo := 0) (n := 1) ⟨fun G47 A => t_pickT rfl, trivial⟩ (fun G47 => ⟨rfl, rfl, trivial⟩)⟩, ⟨rfl, .run (lo := 0) (n := 1) ⟨fun G47 A => tr_bool (t_mv (.inl rfl)) h59, trivial⟩ (fun G47 => ⟨rfl, trivial⟩)⟩, ⟨rfl, .runG (lo := 0) (n := 1) ⟨fun G47 A => t_l 1 4 rfl rfl rfl rfl (.agg tyA35), trivial⟩ (fun G47 => ⟨rfl, trivial⟩)⟩, ⟨rfl, .runG (lo := 0) (n := 1) ⟨fun G47 A => t_mv (.inl rfl), trivial⟩ (fun G47 => ⟨rfl, trivial⟩)⟩, ⟨rfl, .runG (lo := 0) (n := 1) ⟨fun G47 A => t_callv (cs := []) (pre := [.vc (pI .i64 4), .vc (pI .i64 1)]) rfl (qc_gantryref05_Of h61) rfl, trivial⟩ (fun G47 => ⟨rfl, k_I _ _, k_I _ _, trivial⟩)⟩, ⟨rfl, .runG (lo := 0) (n := 1) ⟨fun G47 A => t_call rfl (qc_rat_Same h63) rfl, trivial⟩ (fun G47 => ⟨rfl, rfl, trivial⟩)⟩, ⟨rfl, .run (lo := 0) (n := 1) ⟨fun G47 A => t_pickT rfl, trivial⟩ (fun G47 => ⟨rfl, rfl, trivial⟩)⟩, ⟨rfl, .run (lo := 0) (n := 1) ⟨fun G47 A => tr_bool (t_mv (.inl rfl)) h64, trivial⟩ (fun G47 => ⟨rfl, trivial⟩)⟩, ⟨rfl, .skip⟩, ⟨rfl, .skip⟩, ⟨rfl, .run (lo := 0) (n := 1) ⟨fun G47 A => t_pickF rfl, trivial⟩ (fun G47 => ⟨rfl, k_B _, trivial⟩)⟩, ⟨rfl, .run (lo := 0) (n := 1) ⟨fun G47 A => t_mv (.inr rfl), trivial⟩ (fun G47 => ⟨rfl, trivial⟩)⟩, trivial⟩ (fun bs48 G47 => ?_)
                refine r_nil (r_next (r_ret (r_toR ?_)))
                obtain rfl := sm1 hF
                exact r_done1 (.inl rfl) Tryz.results21 (.tmp rfl .nil) rfl rfl
            · have hF := cnd_f h59 hF
              refine r_draw (0 :: 1 :: 3 :: 7 :: 15 :: 3 :: 35 :: 3 :: 227 :: 483 :: 1023 :: 2047 :: 4095 :: 8191 :: 16383 :: 32767 :: 65535 :: 131071 :: 131071 :: 393215 :: 1048575 :: 2097151 :: 4194303 :: 8388607 :: 16777215 :: 33554431 :: 67108863 :: []) 27 0 (.v (.vc (pB v45)) :: .v (.vc (pB true)) :: .v (.vc (pS (cSl cQ) v16.1)) :: .v (.vc (pM ((cSl cQ).e v50))) :: .v (.vc (pS cQ v50)) :: .v (.vc (pF 14 [])) :: .v (.va (eQ v52)) :: .v (.vc (pF 14 [])) :: .v (.va (eQ v54)) :: .v (.vc (pS cQ [v52, v54])) :: .v (.vc (pB v56)) :: .v (.vc (pB v56)) :: .v (.vc (pB true)) :: .v (.vc (pI .i64 v24.2)) :: .v (.vc (pB (v24.2 == 0))) :: .v (.vc (pB (v24.2 == 0))) :: .v (.vc (pB false)) :: .v .any :: .v .any :: .v .any :: .v .any :: .v (.vc (pB false)) :: .v (.vc (pB false)) :: .v .any :: .v .any :: .v (.vc (pB false)) :: .v (.vc (pB false)) :: []) Tryz_mixed ⟨⟨rfl, .run (lo := 0) (n := 1) ⟨fun G47 A => t_mv (.inl rfl), trivial⟩ (fun G47 => ⟨rfl, trivial⟩)⟩, ⟨rfl, .run (lo := 0) (n := 1) ⟨fun G47 A => tr_bool (t_mv (.inl rfl)) h49, trivial⟩ (fun G47 => ⟨rfl, trivial⟩)⟩, ⟨rfl, .runG (lo := 0) (n := 1) ⟨fun G47 A => t_mv (.inl rfl), trivial⟩ (fun G47 => ⟨rfl, trivial⟩)⟩, ⟨rfl, .runG (lo := 0) (n := 1) ⟨fun G47 A => t_ix rfl tyS47 h51, trivial⟩ (fun G47 => ⟨rfl, k_I _ _, trivial⟩)⟩, ⟨rfl, .runG (lo := 0) (n := 1) ⟨fun G47 A => t_lM 1 rfl rfl (.one tyO24), trivial⟩ (fun G47 => ⟨rfl, trivial⟩)⟩, ⟨rfl, .runG (lo := 0) (n := 1) ⟨fun G47 A => t_mv (.inl rfl), trivial⟩ (fun G47 => ⟨rfl, trivial⟩)⟩, ⟨rfl, .runG (lo := 0) (n := 1) ⟨fun G47 A => t_callv (cs := []) (pre := [.vc (pI .i64 1), .vc (pI .i64 1)]) rfl (qc_gantryref05_Of h53) rfl, trivial⟩ (fun G47 => ⟨rfl, k_I _ _, k_I _ _, trivial⟩)⟩, ⟨rfl, .runG (lo := 0) (n := 1) ⟨fun G47 A => t_mv (.inl rfl), trivial⟩ (fun G47 => ⟨rfl, trivial⟩)⟩, ⟨rfl, .runG (lo := 0) (n := 1) ⟨fun G47 A => t_callv (cs := []) (pre := [.vc (pI .i64 1), .vc (pI .i64 1)]) rfl (qc_gantryref05_Of h55) rfl, trivial⟩ (fun G47 => ⟨rfl, k_I _ _, k_I _ _, trivial⟩)⟩, ⟨rfl, .runG (lo := 0) (n := 1) ⟨fun G47 A => t_bs (C := cQ) (xs := [.tmp 90, .tmp 92]) (ps := [.va (eQ v52), .va (eQ v54)]) (zs := [v52, v54]) rfl tyS24 rfl ⟨⟨trivial, rfl⟩, ⟨trivial, rfl⟩, trivial⟩ rfl, trivial⟩ (fun G47 => ⟨rfl, rfl, trivial⟩)⟩, ⟨rfl, .runG (lo := 0) (n := 1) ⟨fun G47 A => t_call rfl (ct_gantryref09_SameRow h57) rfl, trivial⟩ (fun G47 => ⟨rfl, rfl, trivial⟩)⟩, ⟨rfl, .run (lo := 0) (n := 1) ⟨fun G47 A => t_pickT rfl, trivial⟩ (fun G47 => ⟨rfl, rfl, trivial⟩)⟩, ⟨rfl, .run (lo := 0) (n := 1) ⟨fun G47 A => tr_bool (t_mv (.inl rfl)) h58, trivial⟩ (fun G47 => ⟨rfl, trivial⟩)⟩, ⟨rfl, .runG (lo := 0) (n := 1) ⟨fun G47 A => t_mv (.inl rfl), trivial⟩ (fun G47 => ⟨rfl, trivial⟩)⟩, ⟨rfl, .runG (lo := 0) (n := 1) ⟨fun G47 A => t_eq rfl, trivial⟩ (fun G47 => ⟨rfl, k_I _ _, trivial⟩)⟩, ⟨rfl, .run (lo := 0) (n := 1) ⟨fun G47 A => t_pickT rfl, trivial⟩ (fun G47 => ⟨rfl, rfl, trivial⟩)⟩, ⟨rfl, .run (lo := 0) (n := 1) ⟨fun G47 A => tr_bool (t_mv (.inl rfl)) h59, trivial⟩ (fun G47 => ⟨rfl, trivial⟩)⟩, ⟨rfl, .skip⟩, ⟨rfl, .skip⟩, ⟨rfl, .skip⟩, ⟨rfl, .skip⟩, ⟨rfl, .run (lo := 0) (n := 1) ⟨fun G47 A => t_pickF rfl, trivial⟩ (fun G47 => ⟨rfl, k_B _, trivial⟩)⟩, ⟨rfl, .run (lo := 0) (n := 1) ⟨fun G47 A => t_mv (.inl rfl), trivial⟩ (fun G47 => ⟨rfl, trivial⟩)⟩, ⟨rfl, .skip⟩, ⟨rfl, .skip⟩, ⟨rfl, .run (lo := 0) (n := 1) ⟨fun G47 A => t_pickF rfl, trivial⟩ (fun G47 => ⟨rfl, k_B _, trivial⟩)⟩, ⟨rfl, .run (lo := 0) (n := 1) ⟨fun G47 A => t_mv (.inr rfl), trivial⟩ (fun G47 => ⟨rfl, trivial⟩)⟩, trivial⟩ (fun bs48 G47 => ?_)
              refine r_nil (r_next (r_ret (r_toR ?_)))
              obtain rfl := sm1 hF
              exact r_done1 (.inl rfl) Tryz.results21 (.tmp rfl .nil) rfl rfl
          · have hF := cnd_f h58 hF
            refine r_draw (0 :: 1 :: 3 :: 7 :: 15 :: 3 :: 35 :: 3 :: 227 :: 483 :: 1023 :: 2047 :: 4095 :: 8191 :: 16383 :: 32767 :: 65535 :: 131071 :: 131071 :: 393215 :: 1048575 :: 2097151 :: 4194303 :: 8388607 :: 16777215 :: 33554431 :: 67108863 :: []) 27 0 (.v (.vc (pB v45)) :: .v (.vc (pB true)) :: .v (.vc (pS (cSl cQ) v16.1)) :: .v (.vc (pM ((cSl cQ).e v50))) :: .v (.vc (pS cQ v50)) :: .v (.vc (pF 14 [])) :: .v (.va (eQ v52)) :: .v (.vc (pF 14 [])) :: .v (.va (eQ v54)) :: .v (.vc (pS cQ [v52, v54])) :: .v (.vc (pB v56)) :: .v (.vc (pB v56)) :: .v (.vc (pB false)) :: .v .any :: .v .any :: .v (.vc (pB false)) :: .v (.vc (pB false)) :: .v .any :: .v .any :: .v .any :: .v .any :: .v (.vc (pB false)) :: .v (.vc (pB false)) :: .v .any :: .v .any :: .v (.vc (pB false)) :: .v (.vc (pB false)) :: []) Tryz_mixed ⟨⟨rfl, .run (lo := 0) (n := 1) ⟨fun G47 A => t_mv (.inl rfl), trivial⟩ (fun G47 => ⟨rfl, trivial⟩)⟩, ⟨rfl, .run (lo := 0) (n := 1) ⟨fun G47 A => tr_bool (t_mv (.inl rfl)) h49, trivial⟩ (fun G47 => ⟨rfl, trivial⟩)⟩, ⟨rfl, .runG (lo := 0) (n := 1) ⟨fun G47 A => t_mv (.inl rfl), trivial⟩ (fun G47 => ⟨rfl, trivial⟩)⟩, ⟨rfl, .runG (lo := 0) (n := 1) ⟨fun G47 A => t_ix rfl tyS47 h51, trivial⟩ (fun G47 => ⟨rfl, k_I _ _, trivial⟩)⟩, ⟨rfl, .runG (lo := 0) (n := 1) ⟨fun G47 A => t_lM 1 rfl rfl (.one tyO24), trivial⟩ (fun G47 => ⟨rfl, trivial⟩)⟩, ⟨rfl, .runG (lo := 0) (n := 1) ⟨fun G47 A => t_mv (.inl rfl), trivial⟩ (fun G47 => ⟨rfl, trivial⟩)⟩, ⟨rfl, .runG (lo := 0) (n := 1) ⟨fun G47 A => t_callv (cs := []) (pre := [.vc (pI .i64 1), .vc (pI .i64 1)]) rfl (qc_gantryref05_Of h53) rfl, trivial⟩ (fun G47 => ⟨rfl, k_I _ _, k_I _ _, trivial⟩)⟩, ⟨rfl, .runG (lo := 0) (n := 1) ⟨fun G47 A => t_mv (.inl rfl), trivial⟩ (fun G47 => ⟨rfl, trivial⟩)⟩, ⟨rfl, .runG (lo := 0) (n := 1) ⟨fun G47 A => t_callv (cs := []) (pre := [.vc (pI .i64 1), .vc (pI .i64 1)]) rfl (qc_gantryref05_Of h55) rfl, trivial⟩ (fun G47 => ⟨rfl, k_I _ _, k_I _ _, trivial⟩)⟩, ⟨rfl, .runG (lo := 0) (n := 1) ⟨fun G47 A => t_bs (C := cQ) (xs := [.tmp 90, .tmp 92]) (ps := [.va (eQ v52), .va (eQ v54)]) (zs := [v52, v54]) rfl tyS24 rfl ⟨⟨trivial, rfl⟩, ⟨trivial, rfl⟩, trivial⟩ rfl, trivial⟩ (fun G47 => ⟨rfl, rfl, trivial⟩)⟩, ⟨rfl, .runG (lo := 0) (n := 1) ⟨fun G47 A => t_call rfl (ct_gantryref09_SameRow h57) rfl, trivial⟩ (fun G47 => ⟨rfl, rfl, trivial⟩)⟩, ⟨rfl, .run (lo := 0) (n := 1) ⟨fun G47 A => t_pickT rfl, trivial⟩ (fun G47 => ⟨rfl, rfl, trivial⟩)⟩, ⟨rfl, .run (lo := 0) (n := 1) ⟨fun G47 A => tr_bool (t_mv (.inl rfl)) h58, trivial⟩ (fun G47 => ⟨rfl, trivial⟩)⟩, ⟨rfl, .skip⟩, ⟨rfl, .skip⟩, ⟨rfl, .run (lo := 0) (n := 1) ⟨fun G47 A => t_pickF rfl, trivial⟩ (fun G47 => ⟨rfl, k_B _, trivial⟩)⟩, ⟨rfl, .run (lo := 0) (n := 1) ⟨fun G47 A => t_mv (.inl rfl), trivial⟩ (fun G47 => ⟨rfl, trivial⟩)⟩, ⟨rfl, .skip⟩, ⟨rfl, .skip⟩, ⟨rfl, .skip⟩, ⟨rfl, .skip⟩, ⟨rfl, .run (lo := 0) (n := 1) ⟨fun G47 A => t_pickF rfl, trivial⟩ (fun G47 => ⟨rfl, k_B _, trivial⟩)⟩, ⟨rfl, .run (lo := 0) (n := 1) ⟨fun G47 A => t_mv (.inl rfl), trivial⟩ (fun G47 => ⟨rfl, trivial⟩)⟩, ⟨rfl, .skip⟩, ⟨rfl, .skip⟩, ⟨rfl, .run (lo := 0) (n := 1) ⟨fun G47 A => t_pickF rfl, trivial⟩ (fun G47 => ⟨rfl, k_B _, trivial⟩)⟩, ⟨rfl, .run (lo := 0) (n := 1) ⟨fun G47 A => t_mv (.inr rfl), trivial⟩ (fun G47 => ⟨rfl, trivial⟩)⟩, trivial⟩ (fun bs48 G47 => ?_)
            refine r_nil (r_next (r_ret (r_toR ?_)))
            obtain rfl := sm1 hF
            exact r_done1 (.inl rfl) Tryz.results21 (.tmp rfl .nil) rfl rfl
        · have hF := cnd_f h49 hF
          refine r_draw (0 :: 1 :: 3 :: 7 :: 15 :: 3 :: 35 :: 3 :: 227 :: 483 :: 1023 :: 2047 :: 4095 :: 8191 :: 16383 :: 32767 :: 65535 :: 131071 :: 131071 :: 393215 :: 1048575 :: 2097151 :: 4194303 :: 8388607 :: 16777215 :: 33554431 :: 67108863 :: []) 27 0 (.v (.vc (pB v45)) :: .v (.vc (pB false)) :: .v .any :: .v .any :: .v .any :: .v .any :: .v .any :: .v .any :: .v .any :: .v .any :: .v .any :: .v (.vc (pB false)) :: .v (.vc (pB false)) :: .v .any :: .v .any :: .v (.vc (pB false)) :: .v (.vc (pB false)) :: .v .any :: .v .any :: .v .any :: .v .any :: .v (.vc (pB false)) :: .v (.vc (pB false)) :: .v .any :: .v .any :: .v (.vc (pB false)) :: .v (.vc (pB false)) :: []) Tryz_mixed ⟨⟨rfl, .run (lo := 0) (n := 1) ⟨fun G47 A => t_mv (.inl rfl), trivial⟩ (fun G47 => ⟨rfl, trivial⟩)⟩, ⟨rfl, .run (lo := 0) (n := 1) ⟨fun G47 A => tr_bool (t_mv (.inl rfl)) h49, trivial⟩ (fun G47 => ⟨rfl, trivial⟩)⟩, ⟨rfl, .skip⟩, ⟨rfl, .skip⟩, ⟨rfl, .skip⟩, ⟨rfl, .skip⟩, ⟨rfl, .skip⟩, ⟨rfl, .skip⟩, ⟨rfl, .skip⟩, ⟨rfl, .skip⟩, ⟨rfl, .skip⟩, ⟨rfl, .run (lo := 0) (n := 1) ⟨fun G47 A => t_pickF rfl, trivial⟩ (fun G47 => ⟨rfl, k_B _, trivial⟩)⟩, ⟨rfl, .run (lo := 0) (n := 1) ⟨fun G47 A => t_mv (.inl rfl), trivial⟩ (fun G47 => ⟨rfl, trivial⟩)⟩, ⟨rfl, .skip⟩, ⟨rfl, .skip⟩, ⟨rfl, .run (lo := 0) (n := 1) ⟨fun G47 A => t_pickF rfl, trivial⟩ (fun G47 => ⟨rfl, k_B _, trivial⟩)⟩, ⟨rfl, .run (lo := 0) (n := 1) ⟨fun G47 A => t_mv (.inl rfl), trivial⟩ (fun G47 => ⟨rfl, trivial⟩)⟩, ⟨rfl, .skip⟩, ⟨rfl, .skip⟩, ⟨rfl, .skip⟩, ⟨rfl, .skip⟩, ⟨rfl, .run (lo := 0) (n := 1) ⟨fun G47 A => t_pickF rfl, trivial⟩ (fun G47 => ⟨rfl, k_B _, trivial⟩)⟩, ⟨rfl, .run (lo := 0) (n := 1) ⟨fun G47 A => t_mv (.inl rfl), trivial⟩ (fun G47 => ⟨rfl, trivial⟩)⟩, ⟨rfl, .skip⟩, ⟨rfl, .skip⟩, ⟨rfl, .run (lo := 0) (n := 1) ⟨fun G47 A => t_pickF rfl, trivial⟩ (fun G47 => ⟨rfl, k_B _, trivial⟩)⟩, ⟨rfl, .run (lo := 0) (n := 1) ⟨fun G47 A => t_mv (.inr rfl), trivial⟩ (fun G47 => ⟨rfl, trivial⟩)⟩, trivial⟩ (fun bs48 G47 => ?_)
          refine r_nil (r_next (r_ret (r_toR ?_)))
          obtain rfl := sm1 hF
          exact r_done1 (.inl rfl) Tryz.results21 (.tmp rfl .nil) rfl rfl
      · have hF := cnd_f h36 hF
        refine r_opn ?_
        refine r_opn ?_
        refine r_opn ?_
        refine r_opn ?_
        refine r_opn ?_
        refine r_opn ?_
        refine r_opn ?_
        refine r_opn ?_
        refine r_opn ?_
        refine r_opn ?_
        refine r_op (t_pickF rfl) ⟨rfl, k_B _, trivial⟩ ?_
        refine r_as ?_
        refine r_nil (r_next (r_seq (r_draw (0 :: 1 :: 3 :: 7 :: 15 :: 3 :: 35 :: 3 :: 227 :: 483 :: 1023 :: 2047 :: 4095 :: 8191 :: 16383 :: 32767 :: 65535 :: 131071 :: 131071 :: 393215 :: 1048575 :: 2097151 :: 4194303 :: 8388607 :: 16777215 :: 33554431 :: 67108863 :: []) 27 0 (.v (.vc (pB false)) :: .v (.vc (pB false)) :: .v .any :: .v .any :: .v .any :: .v .any :: .v .any :: .v .any :: .v .any :: .v .any :: .v .any :: .v (.vc (pB false)) :: .v (.vc (pB false)) :: .v .any :: .v .any :: .v (.vc (pB false)) :: .v (.vc (pB false)) :: .v .any :: .v .any :: .v .any :: .v .any :: .v (.vc (pB false)) :: .v (.vc (pB false)) :: .v .any :: .v .any :: .v (.vc (pB false)) :: .v (.vc (pB false)) :: []) Tryz_mixed ⟨⟨rfl, .run (lo := 0) (n := 1) ⟨fun G65 A => t_mv (.inl rfl), trivial⟩ (fun G65 => ⟨rfl, trivial⟩)⟩, ⟨rfl, .run (lo := 0) (n := 1) ⟨fun G65 A => t_mv (.inl rfl), trivial⟩ (fun G65 => ⟨rfl, trivial⟩)⟩, ⟨rfl, .skip⟩, ⟨rfl, .skip⟩, ⟨rfl, .skip⟩, ⟨rfl, .skip⟩, ⟨rfl, .skip⟩, ⟨rfl, .skip⟩, ⟨rfl, .skip⟩, ⟨rfl, .skip⟩, ⟨rfl, .skip⟩, ⟨rfl, .run (lo := 0) (n := 1) ⟨fun G65 A => t_pickF rfl, trivial⟩ (fun G65 => ⟨rfl, k_B _, trivial⟩)⟩, ⟨rfl, .run (lo := 0) (n := 1) ⟨fun G65 A => t_mv (.inl rfl), trivial⟩ (fun G65 => ⟨rfl, trivial⟩)⟩, ⟨rfl, .skip⟩, ⟨rfl, .skip⟩, ⟨rfl, .run (lo := 0) (n := 1) ⟨fun G65 A => t_pickF rfl, trivial⟩ (fun G65 => ⟨rfl, k_B _, trivial⟩)⟩, ⟨rfl, .run (lo := 0) (n := 1) ⟨fun G65 A => t_mv (.inl rfl), trivial⟩ (fun G65 => ⟨rfl, trivial⟩)⟩, ⟨rfl, .skip⟩, ⟨rfl, .skip⟩, ⟨rfl, .skip⟩, ⟨rfl, .skip⟩, ⟨rfl, .run (lo := 0) (n := 1) ⟨fun G65 A => t_pickF rfl, trivial⟩ (fun G65 => ⟨rfl, k_B _, trivial⟩)⟩, ⟨rfl, .run (lo := 0) (n := 1) ⟨fun G65 A => t_mv (.inl rfl), trivial⟩ (fun G65 => ⟨rfl, trivial⟩)⟩, ⟨rfl, .skip⟩, ⟨rfl, .skip⟩, ⟨rfl, .run (lo := 0) (n := 1) ⟨fun G65 A => t_pickF rfl, trivial⟩ (fun G65 => ⟨rfl, k_B _, trivial⟩)⟩, ⟨rfl, .run (lo := 0) (n := 1) ⟨fun G65 A => t_mv (.inr rfl), trivial⟩ (fun G65 => ⟨rfl, trivial⟩)⟩, trivial⟩ (fun bs66 G65 => ?_))))
        refine r_nil (r_next (r_ret (r_toR ?_)))
        obtain rfl := sm1 hF
        exact r_done1 (.inl rfl) Tryz.results21 (.tmp rfl .nil) rfl rfl

abbrev N_gantryref01_Around : Nat := 11
def F_gantryref01_Around (a0 : Int) (a1 : Int) : Option Int :=
  bif (decide (a0 < 0)) then ((chk (a0 + 1)).bind fun v2 => (chk (-v2)).bind fun v4 => (chr v4 a1).bind fun v6 => some v6) else ((chr a0 a1).bind fun v8 => some v8)
set_option maxRecDepth 100000 in
theorem ct_gantryref01_Around {a0 : Int} {a1 : Int} {r : Int} (hF : F_gantryref01_Around a0 a1 = some r) : Ct Tryz.prog 11 [.vc (pI .i64 a0), .vc (pI .i64 a1)] (.vc (pI .i64 r)) := by
  unfold F_gantryref01_Around at hF
  refine ctO_intro Tryz.func11 rfl (by kernel_rfl) Tryz.ntmps11 rfl (fun w0 M0 => ?_)
  refine r_seq (r_reg (r_op (t_mv (.inr rfl)) ⟨k_I _ _, trivial⟩ ?_))
  refine r_nil (r_next (r_seq (r_seq (r_reg (r_mv ?_)))))
  refine r_op (t_lt rfl) ⟨rfl, k_I _ _, trivial⟩ ?_
  refine r_nil (r_next (r_if rfl (fun h1 => ?_) (fun h1 => ?_)))
  · have hF := cnd_t h1 hF
    refine r_reg (r_mv ?_)
    obtain ⟨v2, h3, hF⟩ := bnd hF
    refine r_op (t_add rfl h3) ⟨rfl, k_I _ _, trivial⟩ ?_
    obtain ⟨v4, h5, hF⟩ := bnd hF
    refine r_op (t_neg rfl h5) ⟨rfl, trivial⟩ ?_
    refine r_as ?_
    refine r_nil (r_next (r_seq (r_reg (r_mv ?_))))
    refine r_mv ?_
    obtain ⟨v6, h7, hF⟩ := bnd hF
    refine r_op (t_rem rfl h7) ⟨rfl, rfl, trivial⟩ ?_
    refine r_as ?_
    refine r_nil (r_next (r_ret (r_toR ?_)))
    obtain rfl := sm1 hF
    exact r_done1 (.inl rfl) Tryz.results11 (.tmp rfl .nil) rfl rfl
  · have hF := cnd_f h1 hF
    refine r_skip (r_next (r_seq (r_reg (r_mv ?_))))
    refine r_mv ?_
    obtain ⟨v8, h9, hF⟩ := bnd hF
    refine r_op (t_rem rfl h9) ⟨rfl, rfl, trivial⟩ ?_
    refine r_as ?_
    refine r_nil (r_next (r_ret (r_toR ?_)))
    obtain rfl := sm1 hF
    exact r_done1 (.inl rfl) Tryz.results11 (.tmp rfl .nil) rfl rfl

abbrev N_gantryref01_At : Nat := 12
def F_gantryref01_At (a0 : List Int) (a1 : Int) (a2 : Int) : Option Int :=
  bif (decide (a1 < 0)) then (some 0) else (bif (decide ((a0.length : Int) ≤ a1)) then (some 0) else ((rdL a0 a1).bind fun v3 => (F_gantryref01_Around v3 a2).bind fun v5 => some v5))
set_option maxRecDepth 100000 in
theorem ct_gantryref01_At {a0 : List Int} {a1 : Int} {a2 : Int} {r : Int} (hF : F_gantryref01_At a0 a1 a2 = some r) : Ct Tryz.prog 12 [.vc (pS cI a0), .vc (pI .i64 a1), .vc (pI .i64 a2)] (.vc (pI .i64 r)) := by
  unfold F_gantryref01_At at hF
  refine ctO_intro Tryz.func12 rfl (by kernel_rfl) Tryz.ntmps12 rfl (fun w0 M0 => ?_)
  refine r_seq (r_reg (r_op (t_mv (.inr rfl)) ⟨k_I _ _, trivial⟩ ?_))
  refine r_nil (r_next (r_seq (r_seq (r_reg (r_mv ?_)))))
  refine r_op (t_lt rfl) ⟨rfl, k_I _ _, trivial⟩ ?_
  refine r_mv ?_
  refine r_bool (fun h1 => ?_) (fun h1 => ?_)
  · have hF := cnd_t h1 hF
    refine r_opn ?_
    refine r_opn ?_
    refine r_opn ?_
    refine r_opn ?_
    refine r_op (t_pickT rfl) ⟨rfl, k_B _, trivial⟩ ?_
    refine r_nil (r_next (r_ifT rfl ?_))
    refine r_seq (r_reg (r_op (t_mv (.inr rfl)) ⟨k_I _ _, trivial⟩ ?_))
    refine r_nil (r_next (r_ret (r_toR ?_)))
    obtain rfl := sm1 hF
    exact r_done1 (.inl rfl) Tryz.results12 (.tmp rfl .nil) rfl rfl
  · have hF := cnd_f h1 hF
    refine r_opg (t_mv (.inl rfl)) ⟨rfl, trivial⟩ ?_
    refine r_opg (t_mv (.inl rfl)) ⟨rfl, trivial⟩ ?_
    refine r_opg (t_ln rfl tyS22) ⟨rfl, trivial⟩ ?_
    refine r_opg (t_ge rfl) ⟨rfl, rfl, trivial⟩ ?_
    refine r_op (t_pickF rfl) ⟨rfl, rfl, trivial⟩ ?_
    refine r_nil (r_next (r_if rfl (fun h2 => ?_) (fun h2 => ?_)))
    · have hF := cnd_t h2 hF
      refine r_seq (r_reg (r_op (t_mv (.inr rfl)) ⟨k_I _ _, trivial⟩ ?_))
      refine r_nil (r_next (r_ret (r_toR ?_)))
      obtain rfl := sm1 hF
      exact r_done1 (.inl rfl) Tryz.results12 (.tmp rfl .nil) rfl rfl
    · have hF := cnd_f h2 hF
      refine r_skip (r_next (r_seq (r_reg (r_mv ?_))))
      refine r_mv ?_
      obtain ⟨v3, h4, hF⟩ := bnd hF
      refine r_op (t_ix rfl tyS22 h4) ⟨rfl, rfl, trivial⟩ ?_
      refine r_op (t_lM 1 rfl rfl (.one tyO3)) ⟨rfl, trivial⟩ ?_
      refine r_mv ?_
      obtain ⟨v5, h6, hF⟩ := bnd hF
      refine r_op (t_call rfl (ct_gantryref01_Around h6) rfl) ⟨rfl, rfl, trivial⟩ ?_
      refine r_as ?_
      refine r_nil (r_next (r_ret (r_toR ?_)))
      obtain rfl := sm1 hF
      exact r_done1 (.inl rfl) Tryz.results12 (.tmp rfl .nil) rfl rfl

abbrev N_gantryref15_shape : Nat := 81
def F_gantryref15_shape (a0 : Int) : Option ((List api_Point) × Int) :=
  (F_gantryref01_Around a0 6).bind fun v1 => bif (v1 == 0) then (some ([(⟨0, 0⟩ : api_Point), (⟨4, 0⟩ : api_Point), (⟨4, 2⟩ : api_Point), (⟨0, 2⟩ : api_Point)], 2)) else (bif (v1 == 1) then (some ([(⟨0, 0⟩ : api_Point), (⟨2, 0⟩ : api_Point), (⟨2, 2⟩ : api_Point), (⟨0, 2⟩ : api_Point)], 2)) else (bif (v1 == 2) then (some ([(⟨0, 0⟩ : api_Point), (⟨4, 0⟩ : api_Point), (⟨0, 3⟩ : api_Point)], 0)) else (bif (v1 == 3) then (some ([(⟨0, 0⟩ : api_Point), (⟨6, 0⟩ : api_Point), (⟨3, 4⟩ : api_Point)], 0)) else (bif (v1 == 4) then (some ([(⟨0, 0⟩ : api_Point), (⟨8, 0⟩ : api_Point), (⟨8, 1⟩ : api_Point), (⟨4, 4⟩ : api_Point), (⟨0, 1⟩ : api_Point)], 0)) else (some ([(⟨0, 0⟩ : api_Point), (⟨6, 0⟩ : api_Point), (⟨6, 1⟩ : api_Point), (⟨0, 1⟩ : api_Point)], 1))))))
set_option maxRecDepth 100000 in
theorem ct_gantryref15_shape {a0 : Int} {r : (List api_Point) × Int} (hF : F_gantryref15_shape a0 = some r) : Ct Tryz.prog 81 [.vc (pI .i64 a0)] (.t2 (.vc (pS api_Point.cod r.1)) (.vc (pI .i64 r.2))) := by
  unfold F_gantryref15_shape at hF
  refine ctO_intro Tryz.func81 rfl (by kernel_rfl) Tryz.ntmps81 rfl (fun w0 M0 => ?_)
  refine r_seq (r_reg (r_op (t_mv (.inr rfl)) ⟨k_nil api_Point.cod, trivial⟩ ?_))
  refine r_op (t_mv (.inr rfl)) ⟨k_I _ _, trivial⟩ ?_
  refine r_nil (r_next (r_seq (r_seq (r_reg (r_mv ?_)))))
  obtain ⟨v1, h2, hF⟩ := bnd hF
  refine r_op (t_call rfl (ct_gantryref01_Around h2) rfl) ⟨rfl, k_I _ _, trivial⟩ ?_
  refine r_nil (r_next (r_blk (r_seq (r_reg (r_op (t_eq rfl) ⟨rfl, k_I _ _, trivial⟩ ?_)))))
  refine r_as ?_
  refine r_nil (r_next (r_if rfl (fun h3 => ?_) (fun h3 => ?_)))
  · have hF := cnd_t h3 hF
    refine r_seq (r_reg (r_op (t_bld (is := []) (xs := []) (ps := []) rfl tyB110q rfl rfl trivial rfl) trivial ?_))
    refine r_op (t_bld (is := [0]) (xs := [.const (.int .i64 (4))]) (ps := [.vc (pI .i64 4)]) rfl tyB110q rfl rfl ⟨trivial, trivial⟩ rfl) ⟨k_I _ _, trivial⟩ ?_
    refine r_op (t_bld (is := [0, 1]) (xs := [.const (.int .i64 (4)), .const (.int .i64 (2))]) (ps := [.vc (pI .i64 4), .vc (pI .i64 2)]) rfl tyB110q rfl rfl ⟨trivial, trivial, trivial⟩ rfl) ⟨k_I _ _, k_I _ _, trivial⟩ ?_
    refine r_op (t_bld (is := [1]) (xs := [.const (.int .i64 (2))]) (ps := [.vc (pI .i64 2)]) rfl tyB110q rfl rfl ⟨trivial, trivial⟩ rfl) ⟨k_I _ _, trivial⟩ ?_
    refine r_op (t_bs (C := api_Point.cod) (xs := [.tmp 8, .tmp 9, .tmp 10, .tmp 11]) (ps := [.va ([pI .i64 0] ++ [pI .i64 0]), .va ([pI .i64 4] ++ [pI .i64 0]), .va ([pI .i64 4] ++ [pI .i64 2]), .va ([pI .i64 0] ++ [pI .i64 2])]) (zs := [(⟨0, 0⟩ : api_Point), (⟨4, 0⟩ : api_Point), (⟨4, 2⟩ : api_Point), (⟨0, 2⟩ : api_Point)]) rfl tyS111 rfl ⟨⟨trivial, rfl⟩, ⟨trivial, rfl⟩, ⟨trivial, rfl⟩, ⟨trivial, rfl⟩, trivial⟩ rfl) ⟨rfl, rfl, rfl, rfl, trivial⟩ ?_
    refine r_as ?_
    refine r_op (t_mv (.inr rfl)) ⟨k_I _ _, trivial⟩ ?_
    refine r_nil (r_next (r_ret (r_toR ?_)))
    obtain rfl := sm1 hF
    exact r_done1 (.inl rfl) Tryz.results81 (.tmp rfl (.tmp rfl .nil)) rfl rfl
  · have hF := cnd_f h3 hF
    refine r_seq (r_reg (r_op (t_eq rfl) ⟨rfl, k_I _ _, trivial⟩ ?_))
    refine r_as ?_
    refine r_nil (r_next (r_if rfl (fun h4 => ?_) (fun h4 => ?_)))
    · have hF := cnd_t h4 hF
      refine r_seq (r_reg (r_op (t_bld (is := []) (xs := []) (ps := []) rfl tyB110q rfl rfl trivial rfl) trivial ?_))
      refine r_op (t_bld (is := [0]) (xs := [.const (.int .i64 (2))]) (ps := [.vc (pI .i64 2)]) rfl tyB110q rfl rfl ⟨trivial, trivial⟩ rfl) ⟨k_I _ _, trivial⟩ ?_
      refine r_op (t_bld (is := [0, 1]) (xs := [.const (.int .i64 (2)), .const (.int .i64 (2))]) (ps := [.vc (pI .i64 2), .vc (pI .i64 2)]) rfl tyB110q rfl rfl ⟨trivial, trivial, trivial⟩ rfl) ⟨k_I _ _, k_I _ _, trivial⟩ ?_
      refine r_op (t_bld (is := [1]) (xs := [.const (.int .i64 (2))]) (ps := [.vc (pI .i64 2)]) rfl tyB110q rfl rfl ⟨trivial, trivial⟩ rfl) ⟨k_I _ _, trivial⟩ ?_
      refine r_op (t_bs (C := api_Point.cod) (xs := [.tmp 15, .tmp 16, .tmp 17, .tmp 18]) (ps := [.va ([pI .i64 0] ++ [pI .i64 0]), .va ([pI .i64 2] ++ [pI .i64 0]), .va ([pI .i64 2] ++ [pI .i64 2]), .va ([pI .i64 0] ++ [pI .i64 2])]) (zs := [(⟨0, 0⟩ : api_Point), (⟨2, 0⟩ : api_Point), (⟨2, 2⟩ : api_Point), (⟨0, 2⟩ : api_Point)]) rfl tyS111 rfl ⟨⟨trivial, rfl⟩, ⟨trivial, rfl⟩, ⟨trivial, rfl⟩, ⟨trivial, rfl⟩, trivial⟩ rfl) ⟨rfl, rfl, rfl, rfl, trivial⟩ ?_
      refine r_as ?_
      refine r_op (t_mv (.inr rfl)) ⟨k_I _ _, trivial⟩ ?_
      refine r_nil (r_next (r_ret (r_toR ?_)))
      obtain rfl := sm1 hF
      exact r_done1 (.inl rfl) Tryz.results81 (.tmp rfl (.tmp rfl .nil)) rfl rfl
    · have hF := cnd_f h4 hF
      refine r_seq (r_reg (r_op (t_eq rfl) ⟨rfl, k_I _ _, trivial⟩ ?_))
      refine r_as ?_
      refine r_nil (r_next (r_if rfl (fun h5 => ?_) (fun h5 => ?_)))
      · have hF := cnd_t h5 hF
        refine r_seq (r_reg (r_op (t_bld (is := []) (xs := []) (ps := []) rfl tyB110q rfl rfl trivial rfl) trivial ?_))
        refine r_op (t_bld (is := [0]) (xs := [.const (.int .i64 (4))]) (ps := [.vc (pI .i64 4)]) rfl tyB110q rfl rfl ⟨trivial, trivial⟩ rfl) ⟨k_I _ _, trivial⟩ ?_
        refine r_op (t_bld (is := [1]) (xs := [.const (.int .i64 (3))]) (ps := [.vc (pI .i64 3)]) rfl tyB110q rfl rfl ⟨trivial, trivial⟩ rfl) ⟨k_I _ _, trivial⟩ ?_
        refine r_op (t_bs (C := api_Point.cod) (xs := [.tmp 22, .tmp 23, .tmp 24]) (ps := [.va ([pI .i64 0] ++ [pI .i64 0]), .va ([pI .i64 4] ++ [pI .i64 0]), .va ([pI .i64 0] ++ [pI .i64 3])]) (zs := [(⟨0, 0⟩ : api_Point), (⟨4, 0⟩ : api_Point), (⟨0, 3⟩ : api_Point)]) rfl tyS111 rfl ⟨⟨trivial, rfl⟩, ⟨trivial, rfl⟩, ⟨trivial, rfl⟩, trivial⟩ rfl) ⟨rfl, rfl, rfl, trivial⟩ ?_
        refine r_as ?_
        refine r_op (t_mv (.inr rfl)) ⟨k_I _ _, trivial⟩ ?_
        refine r_nil (r_next (r_ret (r_toR ?_)))
        obtain rfl := sm1 hF
        exact r_done1 (.inl rfl) Tryz.results81 (.tmp rfl (.tmp rfl .nil)) rfl rfl
      · have hF := cnd_f h5 hF
        refine r_seq (r_reg (r_op (t_eq rfl) ⟨rfl, k_I _ _, trivial⟩ ?_))
        refine r_as ?_
        refine r_nil (r_next (r_if rfl (fun h6 => ?_) (fun h6 => ?_)))
        · have hF := cnd_t h6 hF
          refine r_seq (r_reg (r_op (t_bld (is := []) (xs := []) (ps := []) rfl tyB110q rfl rfl trivial rfl) trivial ?_))
          refine r_op (t_bld (is := [0]) (xs := [.const (.int .i64 (6))]) (ps := [.vc (pI .i64 6)]) rfl tyB110q rfl rfl ⟨trivial, trivial⟩ rfl) ⟨k_I _ _, trivial⟩ ?_
          refine r_op (t_bld (is := [0, 1]) (xs := [.const (.int .i64 (3)), .const (.int .i64 (4))]) (ps := [.vc (pI .i64 3), .vc (pI .i64 4)]) rfl tyB110q rfl rfl ⟨trivial, trivial, trivial⟩ rfl) ⟨k_I _ _, k_I _ _, trivial⟩ ?_
          refine r_op (t_bs (C := api_Point.cod) (xs := [.tmp 28, .tmp 29, .tmp 30]) (ps := [.va ([pI .i64 0] ++ [pI .i64 0]), .va ([pI .i64 6] ++ [pI .i64 0]), .va ([pI .i64 3] ++ [pI .i64 4])]) (zs := [(⟨0, 0⟩ : api_Point), (⟨6, 0⟩ : api_Point), (⟨3, 4⟩ : api_Point)]) rfl tyS111 rfl ⟨⟨trivial, rfl⟩, ⟨trivial, rfl⟩, ⟨trivial, rfl⟩, trivial⟩ rfl) ⟨rfl, rfl, rfl, trivial⟩ ?_
          refine r_as ?_
          refine r_op (t_mv (.inr rfl)) ⟨k_I _ _, trivial⟩ ?_
          refine r_nil (r_next (r_ret (r_toR ?_)))
          obtain rfl := sm1 hF
          exact r_done1 (.inl rfl) Tryz.results81 (.tmp rfl (.tmp rfl .nil)) rfl rfl
        · have hF := cnd_f h6 hF
          refine r_seq (r_reg (r_op (t_eq rfl) ⟨rfl, k_I _ _, trivial⟩ ?_))
          refine r_as ?_
          refine r_nil (r_next (r_if rfl (fun h7 => ?_) (fun h7 => ?_)))
          · have hF := cnd_t h7 hF
            refine r_seq (r_reg (r_op (t_bld (is := []) (xs := []) (ps := []) rfl tyB110q rfl rfl trivial rfl) trivial ?_))
            refine r_op (t_bld (is := [0]) (xs := [.const (.int .i64 (8))]) (ps := [.vc (pI .i64 8)]) rfl tyB110q rfl rfl ⟨trivial, trivial⟩ rfl) ⟨k_I _ _, trivial⟩ ?_
            refine r_op (t_bld (is := [0, 1]) (xs := [.const (.int .i64 (8)), .const (.int .i64 (1))]) (ps := [.vc (pI .i64 8), .vc (pI .i64 1)]) rfl tyB110q rfl rfl ⟨trivial, trivial, trivial⟩ rfl) ⟨k_I _ _, k_I _ _, trivial⟩ ?_
            refine r_op (t_bld (is := [0, 1]) (xs := [.const (.int .i64 (4)), .const (.int .i64 (4))]) (ps := [.vc (pI .i64 4), .vc (pI .i64 4)]) rfl tyB110q rfl rfl ⟨trivial, trivial, trivial⟩ rfl) ⟨k_I _ _, k_I _ _, trivial⟩ ?_
            refine r_op (t_bld (is := [1]) (xs := [.const (.int .i64 (1))]) (ps := [.vc (pI .i64 1)]) rfl tyB110q rfl rfl ⟨trivial, trivial⟩ rfl) ⟨k_I _ _, trivial⟩ ?_
            refine r_op (t_bs (C := api_Point.cod) (xs := [.tmp 34, .tmp 35, .tmp 36, .tmp 37, .tmp 38]) (ps := [.va ([pI .i64 0] ++ [pI .i64 0]), .va ([pI .i64 8] ++ [pI .i64 0]), .va ([pI .i64 8] ++ [pI .i64 1]), .va ([pI .i64 4] ++ [pI .i64 4]), .va ([pI .i64 0] ++ [pI .i64 1])]) (zs := [(⟨0, 0⟩ : api_Point), (⟨8, 0⟩ : api_Point), (⟨8, 1⟩ : api_Point), (⟨4, 4⟩ : api_Point), (⟨0, 1⟩ : api_Point)]) rfl tyS111 rfl ⟨⟨trivial, rfl⟩, ⟨trivial, rfl⟩, ⟨trivial, rfl⟩, ⟨trivial, rfl⟩, ⟨trivial, rfl⟩, trivial⟩ rfl) ⟨rfl, rfl, rfl, rfl, rfl, trivial⟩ ?_
            refine r_as ?_
            refine r_op (t_mv (.inr rfl)) ⟨k_I _ _, trivial⟩ ?_
            refine r_nil (r_next (r_ret (r_toR ?_)))
            obtain rfl := sm1 hF
            exact r_done1 (.inl rfl) Tryz.results81 (.tmp rfl (.tmp rfl .nil)) rfl rfl
          · have hF := cnd_f h7 hF
            refine r_skip (r_blkN (r_next (r_seq (r_reg (r_op (t_bld (is := []) (xs := []) (ps := []) rfl tyB110q rfl rfl trivial rfl) trivial ?_)))))
            refine r_op (t_bld (is := [0]) (xs := [.const (.int .i64 (6))]) (ps := [.vc (pI .i64 6)]) rfl tyB110q rfl rfl ⟨trivial, trivial⟩ rfl) ⟨k_I _ _, trivial⟩ ?_
            refine r_op (t_bld (is := [0, 1]) (xs := [.const (.int .i64 (6)), .const (.int .i64 (1))]) (ps := [.vc (pI .i64 6), .vc (pI .i64 1)]) rfl tyB110q rfl rfl ⟨trivial, trivial, trivial⟩ rfl) ⟨k_I _ _, k_I _ _, trivial⟩ ?_
            refine r_op (t_bld (is := [1]) (xs := [.const (.int .i64 (1))]) (ps := [.vc (pI .i64 1)]) rfl tyB110q rfl rfl ⟨trivial, trivial⟩ rfl) ⟨k_I _ _, trivial⟩ ?_
            refine r_op (t_bs (C := api_Point.cod) (xs := [.tmp 40, .tmp 41, .tmp 42, .tmp 43]) (ps := [.va ([pI .i64 0] ++ [pI .i64 0]), .va ([pI .i64 6] ++ [pI .i64 0]), .va ([pI .i64 6] ++ [pI .i64 1]), .va ([pI .i64 0] ++ [pI .i64 1])]) (zs := [(⟨0, 0⟩ : api_Point), (⟨6, 0⟩ : api_Point), (⟨6, 1⟩ : api_Point), (⟨0, 1⟩ : api_Point)]) rfl tyS111 rfl ⟨⟨trivial, rfl⟩, ⟨trivial, rfl⟩, ⟨trivial, rfl⟩, ⟨trivial, rfl⟩, trivial⟩ rfl) ⟨rfl, rfl, rfl, rfl, trivial⟩ ?_
            refine r_as ?_
            refine r_op (t_mv (.inr rfl)) ⟨k_I _ _, trivial⟩ ?_
            refine r_nil (r_next (r_ret (r_toR ?_)))
            obtain rfl := sm1 hF
            exact r_done1 (.inl rfl) Tryz.results81 (.tmp rfl (.tmp rfl .nil)) rfl rfl

abbrev N_gantryref15_num : Nat := 84
def F_gantryref15_num (a0 : Int) : Option Rat :=
  (qof a0 1).bind fun v2 => some v2
set_option maxRecDepth 100000 in
theorem ct_gantryref15_num {a0 : Int} {r : Rat} (hF : F_gantryref15_num a0 = some r) : Ct Tryz.prog 84 [.vc (pI .i64 a0)] (.va (eQ r)) := by
  unfold F_gantryref15_num at hF
  refine ctO_intro Tryz.func84 rfl (by kernel_rfl) Tryz.ntmps84 rfl (fun w0 M0 => ?_)
  refine r_seq (r_reg (r_alloc rfl tyZ35q (fun b1 => ?_)))
  refine r_nil (r_next (r_seq (r_reg (r_mv ?_))))
  obtain ⟨v2, h3, hF⟩ := bnd hF
  refine r_op (t_call rfl (qc_gantryref05_Of h3) rfl) ⟨rfl, k_I _ _, trivial⟩ ?_
  refine r_op0 (t_s 0 rfl rfl rfl tyA35.s) ⟨rfl, rfl, trivial⟩ ?_
  refine r_nil (r_next (r_ret (r_toR ?_)))
  obtain rfl := sm1 hF
  exact r_done1 (.inl rfl) Tryz.results84 (rv_cell 0 4 rfl rfl rfl rfl (.agg tyA35) .nil) rfl rfl

abbrev N_gantryref15_block : Nat := 82
def F_gantryref15_block (a0 : api_Model) (a1 : List api_Point) (a2 : Int) (a3 : Int) (a4 : Int) (a5 : Bool) : Option api_Model :=
  (chr a4 3).bind fun v39 => (chk (1 + v39)).bind fun v41 => (qof 1 v41).bind fun v43 => (chq a4 3).bind fun v46 => (chr v46 3).bind fun v48 => (chk (1 + v48)).bind fun v50 => (chk (-v50)).bind fun v52 => (qof v52 8).bind fun v54 => (F_gantryref15_num a2).bind fun v57 => (F_gantryref15_num a3).bind fun v59 => (chq a4 9).bind fun v61 => (chr v61 4).bind fun v63 => (qof v63 2).bind fun v65 => (chq a4 36).bind fun v67 => (chr v67 3).bind fun v69 => (qof v69 2).bind fun v71 => (apL a0.dofs [(⟨v43, 0, false, 0, 0⟩ : api_Dof), (⟨v43, v54, false, 0, 0⟩ : api_Dof)]).bind fun x80 => (F_gantryref15_num 1).bind fun v87 => (chk ((a0.dofs.length : Int) + 1)).bind fun v89 => (F_gantryref15_num 1).bind fun v91 => bif a5 then ((qof 2 1).bind fun v99 => (apL x80 [(⟨v99, 0, false, 0, 0⟩ : api_Dof)]).bind fun x101 => (chk ((a0.dofs.length : Int) + 2)).bind fun v110 => (F_gantryref15_num 1).bind fun v112 => (apL [(⟨(a0.dofs.length : Int), v87, 0, 0⟩ : api_Column), (⟨v89, 0, v91, 0⟩ : api_Column)] [(⟨v110, 0, 0, v112⟩ : api_Column)]).bind fun x114 => (apL a0.parts [(⟨a1, (⟨v57, v59⟩ : api_Vec), x114, v65, v71⟩ : api_Part)]).bind fun x121 => some (⟨x101, x121, a0.ropes, a0.skip⟩ : api_Model)) else ((apL a0.parts [(⟨a1, (⟨v57, v59⟩ : api_Vec), [(⟨(a0.dofs.length : Int), v87, 0, 0⟩ : api_Column), (⟨v89, 0, v91, 0⟩ : api_Column)], v65, v71⟩ : api_Part)]).bind fun x128 => some (⟨x80, x128, a0.ropes, a0.skip⟩ : api_Model))
set_option maxRecDepth 100000 in
theorem ctO_gantryref15_block {a0 : api_Model} {a1 : List api_Point} {a2 : Int} {a3 : Int} {a4 : Int} {a5 : Bool} {r : api_Model} (hF : F_gantryref15_block a0 a1 a2 a3 a4 a5 = some r) {b3 : Option Nat} {c4 n2 : Nat} (q5 : a0.dofs.length = n2) {b9 : Option Nat} {c10 n8 : Nat} (q11 : a0.parts.length = n8) {b15 : Option Nat} {c16 n14 : Nat} (q17 : a0.ropes.length = n14) : CtO Tryz.prog 82 [hO api_Dof.cod b3 c4 66 n2 a0.dofs, hO api_Part.cod b9 c10 116 n8 a0.parts, hO api_Rope.cod b15 c16 125 n14 a0.ropes] [.va ([pO b3 n2 c4] ++ [pO b9 n8 c10] ++ [pO b15 n14 c16] ++ [pS cA2 a0.skip]), .vc (pS api_Point.cod a1), .vc (pI .i64 a2), .vc (pI .i64 a3), .vc (pI .i64 a4), .vc (pB a5)] (fun Ho q => ∃ b137 c138 n136, ∃ b143 c144 n142, ∃ b149 c150 n148, r.dofs.length = n136 ∧ r.parts.length = n142 ∧ r.ropes.length = n148 ∧ Ho = [hO api_Dof.cod b137 c138 66 n136 r.dofs, hO api_Part.cod b143 c144 116 n142 r.parts, hO api_Rope.cod b149 c150 125 n148 r.ropes] ∧ q = .va ([pO b137 n136 c138] ++ [pO b143 n142 c144] ++ [pO b149 n148 c150] ++ [pS cA2 r.skip])) := by
  unfold F_gantryref15_block at hF
  refine ctO_intro Tryz.func82 rfl (by kernel_rfl) Tryz.ntmps82 rfl (fun w0 M0 => ?_)
  refine r_seq (r_reg (r_box rfl rfl trivial (fun b19 => ?_)))
  refine r_newL api_Dof.cod 66 ?_
  refine r_newL api_Part.cod 116 ?_
  refine r_newL api_Rope.cod 125 ?_
  refine r_alloc rfl tyZ57_o0_o1_o2q (fun b38 => ?_)
  refine r_nil (r_next (r_seq (r_reg (r_mv ?_))))
  obtain ⟨v39, h40, hF⟩ := bnd hF
  refine r_op (t_rem rfl h40) ⟨rfl, k_I _ _, trivial⟩ ?_
  obtain ⟨v41, h42, hF⟩ := bnd hF
  refine r_op (t_add rfl h42) ⟨k_I _ _, rfl, trivial⟩ ?_
  obtain ⟨v43, h44, hF⟩ := bnd hF
  refine r_op (t_call rfl (qc_gantryref05_Of h44) rfl) ⟨k_I _ _, rfl, trivial⟩ ?_
  refine r_alloc rfl tyZ35q (fun b45 => ?_)
  refine r_op0 (t_s 0 rfl rfl rfl tyA35.s) ⟨rfl, rfl, trivial⟩ ?_
  refine r_nil (r_next (r_seq (r_reg (r_mv ?_))))
  obtain ⟨v46, h47, hF⟩ := bnd hF
  refine r_op (t_quo rfl h47) ⟨rfl, k_I _ _, trivial⟩ ?_
  obtain ⟨v48, h49, hF⟩ := bnd hF
  refine r_op (t_rem rfl h49) ⟨rfl, k_I _ _, trivial⟩ ?_
  obtain ⟨v50, h51, hF⟩ := bnd hF
  refine r_op (t_add rfl h51) ⟨k_I _ _, rfl, trivial⟩ ?_
  obtain ⟨v52, h53, hF⟩ := bnd hF
  refine r_op (t_neg rfl h53) ⟨rfl, trivial⟩ ?_
  obtain ⟨v54, h55, hF⟩ := bnd hF
  refine r_op (t_call rfl (qc_gantryref05_Of h55) rfl) ⟨rfl, k_I _ _, trivial⟩ ?_
  refine r_alloc rfl tyZ35q (fun b56 => ?_)
  refine r_op0 (t_s 0 rfl rfl rfl tyA35.s) ⟨rfl, rfl, trivial⟩ ?_
  refine r_nil (r_next (r_seq (r_reg (r_op (t_fa (off := 0) (k := 0) rfl tyF57_0) ⟨rfl, trivial⟩ ?_))))
  refine r_op (t_l 6 1 rfl rfl rfl rfl (.one tyO23)) ⟨rfl, trivial⟩ ?_
  refine r_op (t_lnE (C := api_Dof.cod) (xs := a0.dofs) (T := 66) rfl tyS23 q5) ⟨rfl, trivial⟩ ?_
  refine r_as ?_
  refine r_nil (r_next (r_seq (r_reg (r_mv ?_))))
  refine r_mv ?_
  obtain ⟨v57, h58, hF⟩ := bnd hF
  refine r_op (t_call rfl (ct_gantryref15_num h58) rfl) ⟨rfl, trivial⟩ ?_
  refine r_mv ?_
  obtain ⟨v59, h60, hF⟩ := bnd hF
  refine r_op (t_call rfl (ct_gantryref15_num h60) rfl) ⟨rfl, trivial⟩ ?_
  refine r_op (t_bld (is := [0, 1]) (xs := [.tmp 32, .tmp 34]) (ps := [.va (eQ v57), .va (eQ v59)]) rfl tyB113q rfl rfl ⟨trivial, trivial, trivial⟩ rfl) ⟨rfl, rfl, trivial⟩ ?_
  refine r_mv ?_
  obtain ⟨v61, h62, hF⟩ := bnd hF
  refine r_op (t_quo rfl h62) ⟨rfl, k_I _ _, trivial⟩ ?_
  obtain ⟨v63, h64, hF⟩ := bnd hF
  refine r_op (t_rem rfl h64) ⟨rfl, k_I _ _, trivial⟩ ?_
  obtain ⟨v65, h66, hF⟩ := bnd hF
  refine r_op (t_call rfl (qc_gantryref05_Of h66) rfl) ⟨rfl, k_I _ _, trivial⟩ ?_
  refine r_mv ?_
  obtain ⟨v67, h68, hF⟩ := bnd hF
  refine r_op (t_quo rfl h68) ⟨rfl, k_I _ _, trivial⟩ ?_
  obtain ⟨v69, h70, hF⟩ := bnd hF
  refine r_op (t_rem rfl h70) ⟨rfl, k_I _ _, trivial⟩ ?_
  obtain ⟨v71, h72, hF⟩ := bnd hF
  refine r_op (t_call rfl (qc_gantryref05_Of h72) rfl) ⟨rfl, k_I _ _, trivial⟩ ?_
  refine r_newL api_Column.cod 158 ?_
  refine r_op (t_bld (is := [0, 1, 3, 4]) (xs := [.tmp 30, .tmp 35, .tmp 39, .tmp 43]) (ps := [.vc (pS api_Point.cod a1), .va ((eQ v57) ++ (eQ v59)), .va (eQ v65), .va (eQ v71)]) rfl tyB116_o2q rfl rfl ⟨trivial, trivial, trivial, trivial, trivial⟩ rfl) ⟨rfl, rfl, rfl, rfl, trivial⟩ ?_
  refine r_alloc rfl tyZ116q (fun b79 => ?_)
  refine r_op0 (t_s 0 rfl rfl rfl tyA116.s) ⟨rfl, rfl, trivial⟩ ?_
  refine r_nil (r_next (r_seq (r_reg (r_op (t_fa (off := 0) (k := 0) rfl tyF57_0) ⟨rfl, trivial⟩ ?_))))
  refine r_op (t_l 8 1 rfl rfl rfl rfl (.one tyO23)) ⟨rfl, trivial⟩ ?_
  refine r_op (t_l 3 4 rfl rfl rfl rfl (.agg tyA35)) ⟨rfl, trivial⟩ ?_
  refine r_op (t_bld (is := [0]) (xs := [.tmp 47]) (ps := [.va (eQ v43)]) rfl tyB66q rfl rfl ⟨trivial, trivial⟩ rfl) ⟨rfl, trivial⟩ ?_
  refine r_op (t_l 3 4 rfl rfl rfl rfl (.agg tyA35)) ⟨rfl, trivial⟩ ?_
  refine r_op (t_l 2 4 rfl rfl rfl rfl (.agg tyA35)) ⟨rfl, trivial⟩ ?_
  refine r_op (t_bld (is := [0, 1]) (xs := [.tmp 49, .tmp 50]) (ps := [.va (eQ v43), .va (eQ v54)]) rfl tyB66q rfl rfl ⟨trivial, trivial, trivial⟩ rfl) ⟨rfl, rfl, trivial⟩ ?_
  refine r_op (t_bs (C := api_Dof.cod) (xs := [.tmp 48, .tmp 51]) (ps := [.va ((eQ v43) ++ (eQ 0) ++ [pB false] ++ (eQ 0) ++ (eQ 0)), .va ((eQ v43) ++ (eQ v54) ++ [pB false] ++ (eQ 0) ++ (eQ 0))]) (zs := [(⟨v43, 0, false, 0, 0⟩ : api_Dof), (⟨v43, v54, false, 0, 0⟩ : api_Dof)]) rfl tyS23 rfl ⟨⟨trivial, rfl⟩, ⟨trivial, rfl⟩, trivial⟩ rfl) ⟨rfl, rfl, trivial⟩ ?_
  obtain ⟨x80, h81, hF⟩ := bnd hF
  refine r_app 9 rfl tyS23 rfl rfl q5 rfl rfl h81 (fun b82 c83 H84 e85 => ?_)
  cases e85
  refine r_op (t_fa (off := 0) (k := 0) rfl tyF57_0) ⟨rfl, trivial⟩ ?_
  refine r_op0 (t_s 8 rfl rfl rfl tyO23.s) ⟨rfl, rfl, trivial⟩ ?_
  refine r_nil (r_next (r_seq (r_reg (r_mv ?_))))
  obtain ⟨v87, h88, hF⟩ := bnd hF
  refine r_op (t_call rfl (ct_gantryref15_num h88) rfl) ⟨k_I _ _, trivial⟩ ?_
  refine r_op (t_bld (is := [0, 1]) (xs := [.tmp 55, .tmp 56]) (ps := [.vc (pI .i64 (a0.dofs.length : Int)), .va (eQ v87)]) rfl tyB158q rfl rfl ⟨trivial, trivial, trivial⟩ rfl) ⟨rfl, rfl, trivial⟩ ?_
  refine r_mv ?_
  obtain ⟨v89, h90, hF⟩ := bnd hF
  refine r_op (t_add rfl h90) ⟨rfl, k_I _ _, trivial⟩ ?_
  obtain ⟨v91, h92, hF⟩ := bnd hF
  refine r_op (t_call rfl (ct_gantryref15_num h92) rfl) ⟨k_I _ _, trivial⟩ ?_
  refine r_op (t_bld (is := [0, 2]) (xs := [.tmp 59, .tmp 60]) (ps := [.vc (pI .i64 v89), .va (eQ v91)]) rfl tyB158q rfl rfl ⟨trivial, trivial, trivial⟩ rfl) ⟨rfl, rfl, trivial⟩ ?_
  refine r_hv (hv_bs (C := api_Column.cod) (xs := [.tmp 57, .tmp 61]) (ps := [.va ([pI .i64 (a0.dofs.length : Int)] ++ (eQ v87) ++ (eQ 0) ++ (eQ 0)), .va ([pI .i64 v89] ++ (eQ 0) ++ (eQ v91) ++ (eQ 0))]) (zs := [(⟨(a0.dofs.length : Int), v87, 0, 0⟩ : api_Column), (⟨v89, 0, v91, 0⟩ : api_Column)]) rfl tyS114 rfl ⟨⟨trivial, rfl⟩, ⟨trivial, rfl⟩, trivial⟩ rfl) ⟨rfl, rfl, trivial⟩ (fun b93 _ => ?_)
  refine r_op (t_fa (off := 0) (k := 9) rfl tyF116_2) ⟨rfl, trivial⟩ ?_
  refine r_op0 (t_s 1 rfl rfl rfl tyO114.s) ⟨rfl, rfl, trivial⟩ ?_
  refine r_nil (r_next (r_seq (r_seq (r_reg (r_mv ?_)))))
  refine r_nil (r_next (r_if rfl (fun h96 => ?_) (fun h96 => ?_)))
  · have hF := cnd_t h96 hF
    refine r_seq ?_
    obtain ⟨v99, h100, hF⟩ := bnd hF
    refine r_draw [0, 1, 0, 4, 12, 31, 63, 127] 5 3 [.v (.vc (pP (some b19) 0)), .v (.vc (pO b82 (n2 + [(⟨v43, 0, false, 0, 0⟩ : api_Dof), (⟨v43, v54, false, 0, 0⟩ : api_Dof)].length) c83)), .v (.va (eQ v99)), .v (.va ((eQ v99) ++ (eQ 0) ++ [pB false] ++ (eQ 0) ++ (eQ 0))), .v (.vc (pS api_Dof.cod [(⟨v99, 0, false, 0, 0⟩ : api_Dof)]))] Tryz_mixed ⟨⟨rfl, .run (lo := 0) (n := 1) ⟨fun G97 A => t_fa (off := 0) (k := 0) rfl tyF57_0, trivial⟩ (fun G97 => ⟨rfl, trivial⟩)⟩, ⟨rfl, .run (lo := 0) (n := 1) ⟨fun G97 A => t_l 9 1 rfl rfl rfl rfl (.one tyO23), trivial⟩ (fun G97 => ⟨rfl, trivial⟩)⟩, ⟨rfl, .run (lo := 0) (n := 1) ⟨fun G97 A => t_call rfl (qc_gantryref05_Of h100) rfl, trivial⟩ (fun G97 => ⟨k_I _ _, k_I _ _, trivial⟩)⟩, ⟨rfl, .run (lo := 0) (n := 1) ⟨fun G97 A => t_bld (is := [0]) (xs := [.tmp 67]) (ps := [.va (eQ v99)]) rfl tyB66q rfl rfl ⟨trivial, trivial⟩ rfl, trivial⟩ (fun G97 => ⟨rfl, trivial⟩)⟩, ⟨rfl, .run (lo := 0) (n := 1) ⟨fun G97 A => t_bs (C := api_Dof.cod) (xs := [.tmp 68]) (ps := [.va ((eQ v99) ++ (eQ 0) ++ [pB false] ++ (eQ 0) ++ (eQ 0))]) (zs := [(⟨v99, 0, false, 0, 0⟩ : api_Dof)]) rfl tyS23 rfl ⟨⟨trivial, rfl⟩, trivial⟩ rfl, trivial⟩ (fun G97 => ⟨rfl, trivial⟩)⟩, trivial⟩ (fun bs98 G97 => ?_)
    obtain ⟨x101, h102, hF⟩ := bnd hF
    refine r_app 10 rfl tyS23 rfl rfl (apL_len h81 q5) rfl rfl h102 (fun b103 c104 H105 e106 => ?_)
    cases e106
    refine r_op (t_fa (off := 0) (k := 0) rfl tyF57_0) ⟨rfl, trivial⟩ ?_
    refine r_op0 (t_s 9 rfl rfl rfl tyO23.s) ⟨rfl, rfl, trivial⟩ ?_
    refine r_nil (r_next ?_)
    obtain ⟨v110, h111, hF⟩ := bnd hF
    obtain ⟨v112, h113, hF⟩ := bnd hF
    refine r_draw [0, 1, 0, 4, 0, 28, 60, 127, 255, 511] 7 3 [.v (.vc (pP (some b79) 9)), .v (.vc (pO b93 2 2)), .v (.vc (pI .i64 (a0.dofs.length : Int))), .v (.vc (pI .i64 v110)), .v (.va (eQ v112)), .v (.va ([pI .i64 v110] ++ (eQ 0) ++ (eQ 0) ++ (eQ v112))), .v (.vc (pS api_Column.cod [(⟨v110, 0, 0, v112⟩ : api_Column)]))] Tryz_mixed ⟨⟨rfl, .run (lo := 0) (n := 1) ⟨fun G108 A => t_fa (off := 0) (k := 9) rfl tyF116_2, trivial⟩ (fun G108 => ⟨rfl, trivial⟩)⟩, ⟨rfl, .run (lo := 0) (n := 1) ⟨fun G108 A => t_l 1 1 rfl rfl rfl rfl (.one tyO114), trivial⟩ (fun G108 => ⟨rfl, trivial⟩)⟩, ⟨rfl, .run (lo := 0) (n := 1) ⟨fun G108 A => t_mv (.inl rfl), trivial⟩ (fun G108 => ⟨rfl, trivial⟩)⟩, ⟨rfl, .run (lo := 0) (n := 1) ⟨fun G108 A => t_add rfl h111, trivial⟩ (fun G108 => ⟨rfl, k_I _ _, trivial⟩)⟩, ⟨rfl, .run (lo := 0) (n := 1) ⟨fun G108 A => t_call rfl (ct_gantryref15_num h113) rfl, trivial⟩ (fun G108 => ⟨k_I _ _, trivial⟩)⟩, ⟨rfl, .run (lo := 0) (n := 1) ⟨fun G108 A => t_bld (is := [0, 3]) (xs := [.tmp 75, .tmp 76]) (ps := [.vc (pI .i64 v110), .va (eQ v112)]) rfl tyB158q rfl rfl ⟨trivial, trivial, trivial⟩ rfl, trivial⟩ (fun G108 => ⟨rfl, rfl, trivial⟩)⟩, ⟨rfl, .run (lo := 0) (n := 1) ⟨fun G108 A => t_bs (C := api_Column.cod) (xs := [.tmp 77]) (ps := [.va ([pI .i64 v110] ++ (eQ 0) ++ (eQ 0) ++ (eQ v112))]) (zs := [(⟨v110, 0, 0, v112⟩ : api_Column)]) rfl tyS114 rfl ⟨⟨trivial, rfl⟩, trivial⟩ rfl, trivial⟩ (fun G108 => ⟨rfl, trivial⟩)⟩, trivial⟩ (fun bs109 G108 => ?_)
    obtain ⟨x114, h115, hF⟩ := bnd hF
    refine r_app 0 rfl tyS114 rfl rfl rfl rfl rfl h115 (fun b116 c117 H118 e119 => ?_)
    cases e119
    refine r_op (t_fa (off := 0) (k := 9) rfl tyF116_2) ⟨rfl, trivial⟩ ?_
    refine r_op0 (t_s 1 rfl rfl rfl tyO114.s) ⟨rfl, rfl, trivial⟩ ?_
    refine r_nil (r_next (r_seq (r_reg (r_op (t_fa (off := 0) (k := 1) rfl tyF57_1) ⟨rfl, trivial⟩ ?_))))
    refine r_op (t_l 9 1 rfl rfl rfl rfl (.one tyO53)) ⟨rfl, trivial⟩ ?_
    refine r_fbL 0 1 9 rfl (apL_len h115 rfl) rfl rfl rfl rfl rfl ?_
    refine r_op (t_l 0 18 rfl rfl rfl rfl (.agg tyA116)) ⟨rfl, trivial⟩ ?_
    refine r_op (t_bs (C := api_Part.cod) (xs := [.tmp 83]) (ps := [.va ([pS api_Point.cod a1] ++ ((eQ v57) ++ (eQ v59)) ++ [pS api_Column.cod x114] ++ (eQ v65) ++ (eQ v71))]) (zs := [(⟨a1, (⟨v57, v59⟩ : api_Vec), x114, v65, v71⟩ : api_Part)]) rfl tyS53 rfl ⟨⟨trivial, rfl⟩, trivial⟩ rfl) ⟨rfl, trivial⟩ ?_
    obtain ⟨x121, h122, hF⟩ := bnd hF
    refine r_app 10 rfl tyS53 rfl rfl q11 rfl rfl h122 (fun b123 c124 H125 e126 => ?_)
    cases e126
    refine r_op (t_fa (off := 0) (k := 1) rfl tyF57_1) ⟨rfl, trivial⟩ ?_
    refine r_op0 (t_s 8 rfl rfl rfl tyO53.s) ⟨rfl, rfl, trivial⟩ ?_
    refine r_nil (r_next (r_seq (r_reg (r_op (t_l 8 4 rfl rfl rfl rfl (.agg tyA57)) ⟨rfl, trivial⟩ ?_))))
    refine r_op0 (t_s 4 rfl rfl rfl tyA57.s) ⟨rfl, rfl, trivial⟩ ?_
    refine r_nil (r_next (r_ret (r_toR ?_)))
    obtain rfl := sm1 hF
    exact r_done (.inl rfl) Tryz.results82 (rv_cell 4 4 rfl rfl rfl rfl (.agg tyA57) .nil) rfl [9, 10, 11] rfl (by decide) ⟨b103, c104, ((n2 + [(⟨v43, 0, false, 0, 0⟩ : api_Dof), (⟨v43, v54, false, 0, 0⟩ : api_Dof)].length) + [(⟨v99, 0, false, 0, 0⟩ : api_Dof)].length), b123, c124, (n8 + [(⟨a1, (⟨v57, v59⟩ : api_Vec), x114, v65, v71⟩ : api_Part)].length), b15, c16, n14, (apL_len h102 (apL_len h81 q5)), (apL_len h122 q11), q17, rfl, rfl⟩
  · have hF := cnd_f h96 hF
    refine r_skip (r_next (r_seq (r_reg (r_op (t_fa (off := 0) (k := 1) rfl tyF57_1) ⟨rfl, trivial⟩ ?_))))
    refine r_op (t_l 9 1 rfl rfl rfl rfl (.one tyO53)) ⟨rfl, trivial⟩ ?_
    refine r_fbL 0 1 9 rfl rfl rfl rfl rfl rfl rfl ?_
    refine r_op (t_l 0 18 rfl rfl rfl rfl (.agg tyA116)) ⟨rfl, trivial⟩ ?_
    refine r_op (t_bs (C := api_Part.cod) (xs := [.tmp 83]) (ps := [.va ([pS api_Point.cod a1] ++ ((eQ v57) ++ (eQ v59)) ++ [pS api_Column.cod [(⟨(a0.dofs.length : Int), v87, 0, 0⟩ : api_Column), (⟨v89, 0, v91, 0⟩ : api_Column)]] ++ (eQ v65) ++ (eQ v71))]) (zs := [(⟨a1, (⟨v57, v59⟩ : api_Vec), [(⟨(a0.dofs.length : Int), v87, 0, 0⟩ : api_Column), (⟨v89, 0, v91, 0⟩ : api_Column)], v65, v71⟩ : api_Part)]) rfl tyS53 rfl ⟨⟨trivial, rfl⟩, trivial⟩ rfl) ⟨rfl, trivial⟩ ?_
    obtain ⟨x128, h129, hF⟩ := bnd hF
    refine r_app 10 rfl tyS53 rfl rfl q11 rfl rfl h129 (fun b130 c131 H132 e133 => ?_)
    cases e133
    refine r_op (t_fa (off := 0) (k := 1) rfl tyF57_1) ⟨rfl, trivial⟩ ?_
    refine r_op0 (t_s 8 rfl rfl rfl tyO53.s) ⟨rfl, rfl, trivial⟩ ?_
    refine r_nil (r_next (r_seq (r_reg (r_op (t_l 8 4 rfl rfl rfl rfl (.agg tyA57)) ⟨rfl, trivial⟩ ?_))))
    refine r_op0 (t_s 4 rfl rfl rfl tyA57.s) ⟨rfl, rfl, trivial⟩ ?_
    refine r_nil (r_next (r_ret (r_toR ?_)))
    obtain rfl := sm1 hF
    exact r_done (.inl rfl) Tryz.results82 (rv_cell 4 4 rfl rfl rfl rfl (.agg tyA57) .nil) rfl [9, 10, 11] rfl (by decide) ⟨b82, c83, (n2 + [(⟨v43, 0, false, 0, 0⟩ : api_Dof), (⟨v43, v54, false, 0, 0⟩ : api_Dof)].length), b130, c131, (n8 + [(⟨a1, (⟨v57, v59⟩ : api_Vec), [(⟨(a0.dofs.length : Int), v87, 0, 0⟩ : api_Column), (⟨v89, 0, v91, 0⟩ : api_Column)], v65, v71⟩ : api_Part)].length), b15, c16, n14, (apL_len h81 q5), (apL_len h129 q11), q17, rfl, rfl⟩

end Go.Proofs.YtkjnngaceacmdaaGreat
