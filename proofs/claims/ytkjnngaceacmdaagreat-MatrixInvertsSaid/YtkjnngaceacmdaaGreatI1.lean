import Derived.Test.YtkjnngaceacmdaaGreatD2
import Derived.Test.YtkjnngaceacmdaaGreatProg
import Derived.KernelRfl
set_option linter.unusedVariables false
set_option maxRecDepth 100000
namespace Go.Proofs.YtkjnngaceacmdaaGreat
theorem Tryz_mixed : Tryz.prog.follows .mixedOrders = true := by kernel_rfl
theorem tyA33 : TyA Tryz.prog 33 2 := mkA Tryz.underlying33 rfl (by kernel_rfl)
theorem tyB33 : TyB Tryz.prog 33 [(0, 1), (1, 1)] ([pB false] ++ [pS cI ([] : List Int)]) := mkB (z := .agg #[.bool false, .slice none 0 0]) (by kernel_rfl) Tryz.underlying33 (by kernel_rfl) (fun M => All2.app (show All2 M [pB false] [.bool false] from ⟨rfl, trivial⟩) (show All2 M [pS cI ([] : List Int)] [.slice none 0 0] from ⟨k_nil cI M, trivial⟩))
theorem tyF33_0 : TyF Tryz.prog 33 0 0 := mkF (ft := 4) (k := 0) Tryz.underlying33 rfl rfl rfl (by kernel_rfl)
theorem tyF33_1 : TyF Tryz.prog 33 1 1 := mkF (ft := 22) (k := 0) Tryz.underlying33 rfl rfl rfl (by kernel_rfl)
theorem tyO22 : Ty1 Tryz.prog 22 := mk1 Tryz.underlying22 rfl (by kernel_rfl)
theorem tyO3 : Ty1 Tryz.prog 3 := mk1 Tryz.underlying3 rfl (by kernel_rfl)
theorem tyO4 : Ty1 Tryz.prog 4 := mk1 Tryz.underlying4 rfl (by kernel_rfl)
theorem tyS22 : TyS Tryz.prog 22 3 1 8 := mkS (z := .int .i64 0) (k := 0) Tryz.underlying22 (by kernel_rfl) rfl
theorem tyZ3 : TyZ Tryz.prog 3 [pI .i64 0] := mkZ (z := .int .i64 0) (k := 1) (by kernel_rfl) rfl (fun M => show All2 M [pI .i64 0] [.int .i64 0] from ⟨rfl, trivial⟩)
theorem tyZ33 : TyZ Tryz.prog 33 ([pB false] ++ [pS cI ([] : List Int)]) := mkZ (z := .agg #[.bool false, .slice none 0 0]) (k := 2) (by kernel_rfl) rfl (fun M => All2.app (show All2 M [pB false] [.bool false] from ⟨rfl, trivial⟩) (show All2 M [pS cI ([] : List Int)] [.slice none 0 0] from ⟨k_nil cI M, trivial⟩))
def F_gantryref04_normal_j6 (K : Nat) (a0 : Bool) (a1 : List Int) (x4 : Int) : Option GInt :=
  bif (x4 == 0) then (some (⟨false, ([] : List Int)⟩ : GInt)) else ((slL a1 0 x4).bind fun x8 => some (⟨a0, x8⟩ : GInt))
def F_gantryref04_normal_l5 (K : Nat) (a1 : List Int) : Nat → Int → Option Int
  | 0, _ => none
  | k + 1, x3 => bif (decide (0 < x3)) then ((chk (x3 - 1)).bind fun v11 => (rdL a1 (max v11 0)).bind fun v13 => bif (v13 == 0) then ((chk (x3 - 1)).bind fun v16 => F_gantryref04_normal_l5 K a1 k v16) else (some x3)) else (some x3)
def F_gantryref04_normal (K : Nat) (a0 : Bool) (a1 : List Int) : Option GInt :=
  (F_gantryref04_normal_l5 K a1 K (a1.length : Int)).bind fun x4 => F_gantryref04_normal_j6 K a0 a1 x4
theorem ct_gantryref04_normal {K : Nat} {a0 : Bool} {a1 : List Int} {r : GInt} (hF : F_gantryref04_normal K a0 a1 = some r) : Ct Tryz.prog 130 [.vc (pB a0), .vc (pS cI a1)] (.va (GInt.e r)) := by
  unfold F_gantryref04_normal at hF
  refine ctO_intro Tryz.func130 rfl (by kernel_rfl) Tryz.ntmps130 rfl (fun w0 M0 => ?_)
  refine r_seq (r_reg (r_alloc rfl tyZ33 (fun b1 => ?_)))
  refine r_nil (r_next (r_seq (r_reg (r_mv ?_))))
  refine r_op (t_ln rfl tyS22) ⟨rfl, trivial⟩ ?_
  refine r_as ?_
  refine r_nil (r_next (r_seq (r_blk (r_cutN (fun H E => ∃ (x4 : Int), F_gantryref04_normal_j6 K a0 a1 x4 = some r ∧ H = [⟨some b1, 1, 33, 2, 1, ([pB false] ++ [pS cI ([] : List Int)])⟩] ∧ E = [(0, .vc (pB a0)), (1, .vc (pS cI a1)), (4, .vc (pP (some b1) 0)), (5, .vc (pI .i64 x4))]) ?_ (fun Jj6 => ?_)))))
  · rintro _ _ ⟨x4, hF, rfl, rfl⟩
    unfold F_gantryref04_normal_j6 at hF
    refine r_next (r_seq (r_seq (r_reg (r_mv ?_))))
    refine r_op (t_eq rfl) ⟨rfl, k_I _ _, trivial⟩ ?_
    refine r_nil (r_next (r_if rfl (fun h7 => ?_) (fun h7 => ?_)))
    · have hF := cnd_t h7 hF
      refine r_seq (r_reg (r_op (t_bld (is := []) (xs := []) (ps := []) rfl tyB33 rfl rfl trivial rfl) trivial ?_))
      refine r_op0 (t_s 0 rfl rfl rfl tyA33.s) ⟨rfl, rfl, trivial⟩ ?_
      refine r_nil (r_next (r_ret (r_toR ?_)))
      obtain rfl := sm1 hF
      exact r_done1 (.inl rfl) Tryz.results130 (rv_cell 0 2 rfl rfl rfl rfl (.agg tyA33) .nil) rfl rfl
    have hF := cnd_f h7 hF
    refine r_skip (r_next (r_seq (r_reg (r_mv ?_))))
    refine r_mv ?_
    refine r_mv ?_
    obtain ⟨x8, h9, hF⟩ := bnd hF
    refine r_op (t_cutH rfl tyS22 h9) ⟨rfl, rfl, trivial⟩ ?_
    refine r_op (t_bld (is := [0, 1]) (xs := [.tmp 24, .tmp 27]) (ps := [.vc (pB a0), .vc (pS cI x8)]) rfl tyB33 rfl rfl ⟨trivial, trivial, trivial⟩ rfl) ⟨rfl, rfl, trivial⟩ ?_
    refine r_op0 (t_s 0 rfl rfl rfl tyA33.s) ⟨rfl, rfl, trivial⟩ ?_
    refine r_nil (r_next (r_ret (r_toR ?_)))
    obtain rfl := sm1 hF
    exact r_done1 (.inl rfl) Tryz.results130 (rv_cell 0 2 rfl rfl rfl rfl (.agg tyA33) .nil) rfl rfl
  obtain ⟨x4', hL, hRl5⟩ := bnd hF
  refine r_lp (fun k a w => ∃ (x3 : Int), F_gantryref04_normal_l5 K a1 k x3 = some x4' ∧ hs _ [⟨some b1, 1, 33, 2, 1, ([pB false] ++ [pS cI ([] : List Int)])⟩] [(0, .vc (pB a0)), (1, .vc (pS cI a1)), (4, .vc (pP (some b1) 0)), (5, .vc (pI .i64 x3))] a w) K (fun a w ⟨_, hF, _⟩ => by cases hF) (fun k a w ⟨x3, hF, hh⟩ => r_at ?_ hh) (fun a w hh => ⟨(a1.length : Int), hL, hs_back [0] rfl (by decide) (by exact ⟨rfl, rfl, rfl, rfl, trivial⟩) hh⟩)
  rw [F_gantryref04_normal_l5.eq_2] at hF
  refine r_seq (r_seq (r_reg (r_mv ?_)))
  refine r_op (t_gt rfl) ⟨rfl, k_I _ _, trivial⟩ ?_
  refine r_mv ?_
  refine r_bool (fun h10 => ?_) (fun h10 => ?_)
  · have hF := cnd_t h10 hF
    refine r_opg (t_mv (.inl rfl)) ⟨rfl, trivial⟩ ?_
    refine r_opg (t_mv (.inl rfl)) ⟨rfl, trivial⟩ ?_
    obtain ⟨v11, h12, hF⟩ := bnd hF
    refine r_opg (t_sub rfl h12) ⟨rfl, k_I _ _, trivial⟩ ?_
    refine r_opg (t_max rfl) ⟨rfl, k_I _ _, trivial⟩ ?_
    obtain ⟨v13, h14, hF⟩ := bnd hF
    refine r_opg (t_ix rfl tyS22 h14) ⟨rfl, rfl, trivial⟩ ?_
    refine r_opg (t_lM 1 rfl rfl (.one tyO3)) ⟨rfl, trivial⟩ ?_
    refine r_opg (t_eq rfl) ⟨rfl, k_I _ _, trivial⟩ ?_
    refine r_op (t_pickT rfl) ⟨rfl, rfl, trivial⟩ ?_
    refine r_nil (r_next (r_if rfl (fun h15 => ?_) (fun h15 => ?_)))
    · have hF := cnd_t h15 hF
      refine r_skip (r_next (r_blk (r_reg (r_mv ?_))))
      obtain ⟨v16, h17, hF⟩ := bnd hF
      refine r_op (t_sub rfl h17) ⟨rfl, k_I _ _, trivial⟩ ?_
      refine r_as ?_
      refine r_nil (r_blkN ?_)
      exact r_round (fun a w hh => ⟨v16, hF, hs_back [0] rfl (by decide) (by exact ⟨rfl, rfl, rfl, rfl, trivial⟩) hh⟩)
    have hF := cnd_f h15 hF
    refine r_brk ?_
    obtain rfl := sm1 hF
    exact r_backJ Jj6 ⟨x3, hRl5, rfl, rfl⟩ [0] rfl ⟨rfl, rfl, rfl, rfl, trivial⟩
  have hF := cnd_f h10 hF
  refine r_opn ?_
  refine r_opn ?_
  refine r_opn ?_
  refine r_opn ?_
  refine r_opn ?_
  refine r_opn ?_
  refine r_opn ?_
  refine r_op (t_pickF rfl) ⟨rfl, k_B _, trivial⟩ ?_
  refine r_nil (r_next (r_ifF rfl ?_))
  refine r_brk ?_
  obtain rfl := sm1 hF
  exact r_backJ Jj6 ⟨x3, hRl5, rfl, rfl⟩ [0] rfl ⟨rfl, rfl, rfl, rfl, trivial⟩
def F_gantryref04_Of_j25 (K : Nat) (a0 : Int) (x18 : List Int) : Option GInt :=
  (F_gantryref04_normal K (decide (a0 < 0)) x18).bind fun v26 => some v26
def F_gantryref04_Of_l24 (K : Nat) : Nat → (List Int) → Int → Option (List Int)
  | 0, _, _ => none
  | k + 1, x11, x17 => bif (x17 != 0) then ((chr x17 1000000000).bind fun v29 => bif (decide (v29 < 0)) then ((chk (-v29)).bind fun v32 => (apL x11 [v32]).bind fun x34 => (chq x17 1000000000).bind fun v41 => F_gantryref04_Of_l24 K k x34 v41) else ((apL x11 [v29]).bind fun x43 => (chq x17 1000000000).bind fun v50 => F_gantryref04_Of_l24 K k x43 v50)) else (some x11)
def F_gantryref04_Of (K : Nat) (a0 : Int) : Option GInt :=
  (F_gantryref04_Of_l24 K K ([] : List Int) a0).bind fun x18 => F_gantryref04_Of_j25 K a0 x18
theorem ct_gantryref04_Of {K : Nat} {a0 : Int} {r : GInt} (hF : F_gantryref04_Of K a0 = some r) : Ct Tryz.prog 67 [.vc (pI .i64 a0)] (.va (GInt.e r)) := by
  unfold F_gantryref04_Of at hF
  refine ctO_intro Tryz.func67 rfl (by kernel_rfl) Tryz.ntmps67 rfl (fun w0 M0 => ?_)
  refine r_seq (r_reg (r_alloc rfl tyZ33 (fun b1 => ?_)))
  refine r_nil (r_next (r_seq (r_reg (r_nilO cI 3 rfl ?_))))
  refine r_nil (r_next (r_seq (r_reg (r_mv ?_))))
  refine r_op (t_lt rfl) ⟨rfl, k_I _ _, trivial⟩ ?_
  refine r_as ?_
  refine r_nil (r_next (r_seq (r_blk (r_cutN (fun H E => ∃ (x18 : List Int), ∃ (b19 : Option Nat), ∃ (c20 : Nat), ∃ (n21 : Nat), F_gantryref04_Of_j25 K a0 x18 = some r ∧ x18.length = n21 ∧ H = [hO cI b19 c20 3 n21 x18, ⟨some b1, 1, 33, 2, 1, ([pB false] ++ [pS cI ([] : List Int)])⟩] ∧ E = [(2, .vc (pP (some b1) 0)), (3, .vc (pO b19 n21 c20)), (4, .vc (pB (decide (a0 < 0))))]) ?_ (fun Jj25 => ?_)))))
  · rintro _ _ ⟨x18, b19, c20, n21, hF, q22, rfl, rfl⟩
    unfold F_gantryref04_Of_j25 at hF
    refine r_next (r_seq (r_reg (r_mv ?_)))
    refine r_mv ?_
    refine r_fzL 0 [3, 23] rfl q22 ⟨rfl, rfl, trivial⟩ rfl ?_
    obtain ⟨v26, h27, hF⟩ := bnd hF
    refine r_op (t_call rfl (ct_gantryref04_normal h27) rfl) ⟨rfl, rfl, trivial⟩ ?_
    refine r_op0 (t_s 0 rfl rfl rfl tyA33.s) ⟨rfl, rfl, trivial⟩ ?_
    refine r_nil (r_next (r_ret (r_toR ?_)))
    obtain rfl := sm1 hF
    exact r_done1 (.inl rfl) Tryz.results67 (rv_cell 0 2 rfl rfl rfl rfl (.agg tyA33) .nil) rfl rfl
  obtain ⟨x18', hL, hRl24⟩ := bnd hF
  refine r_lp (fun k a w => ∃ (x11 : List Int), ∃ (x17 : Int), ∃ (b12 : Option Nat), ∃ (c13 : Nat), ∃ (n14 : Nat), F_gantryref04_Of_l24 K k x11 x17 = some x18' ∧ x11.length = n14 ∧ hs _ [hO cI b12 c13 3 n14 x11, ⟨some b1, 1, 33, 2, 1, ([pB false] ++ [pS cI ([] : List Int)])⟩] [(0, .vc (pI .i64 x17)), (2, .vc (pP (some b1) 0)), (3, .vc (pO b12 n14 c13)), (4, .vc (pB (decide (a0 < 0))))] a w) K (fun a w ⟨_, _, _, _, _, hF, _, _⟩ => by cases hF) (fun k a w ⟨x11, x17, b12, c13, n14, hF, q15, hh⟩ => r_at ?_ hh) (fun a w hh => ⟨([] : List Int), a0, none, 0, 0, hL, rfl, hs_back [0, 1] rfl (by decide) (by exact ⟨rfl, rfl, rfl, rfl, trivial⟩) hh⟩)
  rw [F_gantryref04_Of_l24.eq_2] at hF
  refine r_seq (r_seq (r_reg (r_mv ?_)))
  refine r_op (t_ne rfl) ⟨rfl, k_I _ _, trivial⟩ ?_
  refine r_nil (r_next (r_if rfl (fun h28 => ?_) (fun h28 => ?_)))
  · have hF := cnd_t h28 hF
    refine r_skip (r_next (r_blk (r_seq (r_reg (r_mv ?_)))))
    obtain ⟨v29, h30, hF⟩ := bnd hF
    refine r_op (t_rem rfl h30) ⟨rfl, k_I _ _, trivial⟩ ?_
    refine r_as ?_
    refine r_nil (r_next (r_seq (r_seq (r_reg (r_mv ?_)))))
    refine r_op (t_lt rfl) ⟨rfl, k_I _ _, trivial⟩ ?_
    refine r_nil (r_next (r_if rfl (fun h31 => ?_) (fun h31 => ?_)))
    · have hF := cnd_t h31 hF
      refine r_reg (r_mv ?_)
      obtain ⟨v32, h33, hF⟩ := bnd hF
      refine r_op (t_neg rfl h33) ⟨rfl, trivial⟩ ?_
      refine r_as ?_
      refine r_nil (r_next (r_seq (r_reg (r_mv ?_))))
      refine r_mv ?_
      refine r_op (t_bs (C := cI) (xs := [.tmp 17]) (ps := [.vc (pI .i64 v32)]) (zs := [v32]) rfl tyS22 rfl ⟨⟨trivial, rfl⟩, trivial⟩ rfl) ⟨rfl, trivial⟩ ?_
      obtain ⟨x34, h35, hF⟩ := bnd hF
      refine r_app 0 rfl tyS22 rfl rfl q15 rfl rfl h35 (fun b36 c37 H38 e39 => ?_)
      cases e39
      refine r_as ?_
      refine r_nil (r_next (r_reg (r_mv ?_)))
      obtain ⟨v41, h42, hF⟩ := bnd hF
      refine r_op (t_quo rfl h42) ⟨rfl, k_I _ _, trivial⟩ ?_
      refine r_as ?_
      refine r_nil (r_blkN ?_)
      exact r_round (fun a w hh => ⟨x34, v41, b36, c37, (n14 + [v32].length), hF, (apL_len h35 q15), hs_back [0, 1] rfl (by decide) (by exact ⟨rfl, rfl, rfl, rfl, trivial⟩) hh⟩)
    have hF := cnd_f h31 hF
    refine r_skip (r_next (r_seq (r_reg (r_mv ?_))))
    refine r_mv ?_
    refine r_op (t_bs (C := cI) (xs := [.tmp 17]) (ps := [.vc (pI .i64 v29)]) (zs := [v29]) rfl tyS22 rfl ⟨⟨trivial, rfl⟩, trivial⟩ rfl) ⟨rfl, trivial⟩ ?_
    obtain ⟨x43, h44, hF⟩ := bnd hF
    refine r_app 0 rfl tyS22 rfl rfl q15 rfl rfl h44 (fun b45 c46 H47 e48 => ?_)
    cases e48
    refine r_as ?_
    refine r_nil (r_next (r_reg (r_mv ?_)))
    obtain ⟨v50, h51, hF⟩ := bnd hF
    refine r_op (t_quo rfl h51) ⟨rfl, k_I _ _, trivial⟩ ?_
    refine r_as ?_
    refine r_nil (r_blkN ?_)
    exact r_round (fun a w hh => ⟨x43, v50, b45, c46, (n14 + [v29].length), hF, (apL_len h44 q15), hs_back [0, 1] rfl (by decide) (by exact ⟨rfl, rfl, rfl, rfl, trivial⟩) hh⟩)
  have hF := cnd_f h28 hF
  refine r_brk ?_
  obtain rfl := sm1 hF
  exact r_backJ Jj25 ⟨x11, b12, c13, n14, hRl24, q15, rfl, rfl⟩ [0, 1] rfl ⟨rfl, rfl, rfl, trivial⟩
def F_integer_unsigned (a0 : Bool) (a1 : Int) : Option GInt :=
  bif (a1 == 0) then (some (⟨false, ([] : List Int)⟩ : GInt)) else (bif (decide (a1 < 1000000000)) then (some (⟨a0, [(IntKind.i64.wrap a1)]⟩ : GInt)) else (bif (decide (a1 < 1000000000000000000)) then ((chr a1 1000000000).bind fun v5 => (uq a1 1000000000).bind fun v7 => some (⟨a0, [(IntKind.i64.wrap v5), (IntKind.i64.wrap v7)]⟩ : GInt)) else ((chr a1 1000000000).bind fun v9 => (uq a1 1000000000).bind fun v11 => (chr v11 1000000000).bind fun v13 => (uq a1 1000000000).bind fun v15 => (uq v15 1000000000).bind fun v17 => some (⟨a0, [(IntKind.i64.wrap v9), (IntKind.i64.wrap v13), (IntKind.i64.wrap v17)]⟩ : GInt))))
theorem ct_integer_unsigned {a0 : Bool} {a1 : Int} {r : GInt} (hF : F_integer_unsigned a0 a1 = some r) : Ct Tryz.prog 135 [.vc (pB a0), .vc (pI .u64 a1)] (.va (GInt.e r)) := by
  unfold F_integer_unsigned at hF
  refine ctO_intro Tryz.func135 rfl (by kernel_rfl) Tryz.ntmps135 rfl (fun w0 M0 => ?_)
  refine r_seq (r_reg (r_alloc rfl tyZ33 (fun b1 => ?_)))
  refine r_nil (r_next (r_seq (r_blk (r_seq (r_reg (r_mv ?_))))))
  refine r_op (t_eq rfl) ⟨rfl, k_I _ _, trivial⟩ ?_
  refine r_as ?_
  refine r_nil (r_next (r_if rfl (fun h2 => ?_) (fun h2 => ?_)))
  · have hF := cnd_t h2 hF
    refine r_seq (r_reg (r_op (t_bld (is := []) (xs := []) (ps := []) rfl tyB33 rfl rfl trivial rfl) trivial ?_))
    refine r_op0 (t_s 0 rfl rfl rfl tyA33.s) ⟨rfl, rfl, trivial⟩ ?_
    refine r_nil (r_next (r_ret (r_toR ?_)))
    obtain rfl := sm1 hF
    exact r_done1 (.inl rfl) Tryz.results135 (rv_cell 0 2 rfl rfl rfl rfl (.agg tyA33) .nil) rfl rfl
  have hF := cnd_f h2 hF
  refine r_seq (r_reg (r_mv ?_))
  refine r_op (t_lt rfl) ⟨rfl, k_I _ _, trivial⟩ ?_
  refine r_as ?_
  refine r_nil (r_next (r_if rfl (fun h3 => ?_) (fun h3 => ?_)))
  · have hF := cnd_t h3 hF
    refine r_seq (r_reg (r_mv ?_))
    refine r_mv ?_
    refine r_op (t_cv rfl ⟨_, Tryz.underlying160⟩ Tryz.underlying3) ⟨rfl, trivial⟩ ?_
    refine r_op (t_bs (C := cI) (xs := [.tmp 14]) (ps := [.vc (pI .i64 (IntKind.i64.wrap a1))]) (zs := [(IntKind.i64.wrap a1)]) rfl tyS22 rfl ⟨⟨trivial, rfl⟩, trivial⟩ rfl) ⟨rfl, trivial⟩ ?_
    refine r_op (t_bld (is := [0, 1]) (xs := [.tmp 12, .tmp 15]) (ps := [.vc (pB a0), .vc (pS cI [(IntKind.i64.wrap a1)])]) rfl tyB33 rfl rfl ⟨trivial, trivial, trivial⟩ rfl) ⟨rfl, rfl, trivial⟩ ?_
    refine r_op0 (t_s 0 rfl rfl rfl tyA33.s) ⟨rfl, rfl, trivial⟩ ?_
    refine r_nil (r_next (r_ret (r_toR ?_)))
    obtain rfl := sm1 hF
    exact r_done1 (.inl rfl) Tryz.results135 (rv_cell 0 2 rfl rfl rfl rfl (.agg tyA33) .nil) rfl rfl
  have hF := cnd_f h3 hF
  refine r_seq (r_reg (r_mv ?_))
  refine r_op (t_lt rfl) ⟨rfl, k_I _ _, trivial⟩ ?_
  refine r_as ?_
  refine r_nil (r_next (r_if rfl (fun h4 => ?_) (fun h4 => ?_)))
  · have hF := cnd_t h4 hF
    refine r_seq (r_reg (r_mv ?_))
    refine r_mv ?_
    obtain ⟨v5, h6, hF⟩ := bnd hF
    refine r_op (t_rem rfl h6) ⟨rfl, k_I _ _, trivial⟩ ?_
    refine r_op (t_cv rfl ⟨_, Tryz.underlying160⟩ Tryz.underlying3) ⟨rfl, trivial⟩ ?_
    refine r_mv ?_
    obtain ⟨v7, h8, hF⟩ := bnd hF
    refine r_op (t_uquo rfl h8) ⟨rfl, k_I _ _, trivial⟩ ?_
    refine r_op (t_cv rfl ⟨_, Tryz.underlying160⟩ Tryz.underlying3) ⟨rfl, trivial⟩ ?_
    refine r_op (t_bs (C := cI) (xs := [.tmp 23, .tmp 26]) (ps := [.vc (pI .i64 (IntKind.i64.wrap v5)), .vc (pI .i64 (IntKind.i64.wrap v7))]) (zs := [(IntKind.i64.wrap v5), (IntKind.i64.wrap v7)]) rfl tyS22 rfl ⟨⟨trivial, rfl⟩, ⟨trivial, rfl⟩, trivial⟩ rfl) ⟨rfl, rfl, trivial⟩ ?_
    refine r_op (t_bld (is := [0, 1]) (xs := [.tmp 20, .tmp 27]) (ps := [.vc (pB a0), .vc (pS cI [(IntKind.i64.wrap v5), (IntKind.i64.wrap v7)])]) rfl tyB33 rfl rfl ⟨trivial, trivial, trivial⟩ rfl) ⟨rfl, rfl, trivial⟩ ?_
    refine r_op0 (t_s 0 rfl rfl rfl tyA33.s) ⟨rfl, rfl, trivial⟩ ?_
    refine r_nil (r_next (r_ret (r_toR ?_)))
    obtain rfl := sm1 hF
    exact r_done1 (.inl rfl) Tryz.results135 (rv_cell 0 2 rfl rfl rfl rfl (.agg tyA33) .nil) rfl rfl
  have hF := cnd_f h4 hF
  refine r_skip (r_blkN (r_next (r_seq (r_reg (r_mv ?_)))))
  refine r_mv ?_
  obtain ⟨v9, h10, hF⟩ := bnd hF
  refine r_op (t_rem rfl h10) ⟨rfl, k_I _ _, trivial⟩ ?_
  refine r_op (t_cv rfl ⟨_, Tryz.underlying160⟩ Tryz.underlying3) ⟨rfl, trivial⟩ ?_
  refine r_mv ?_
  obtain ⟨v11, h12, hF⟩ := bnd hF
  refine r_op (t_uquo rfl h12) ⟨rfl, k_I _ _, trivial⟩ ?_
  obtain ⟨v13, h14, hF⟩ := bnd hF
  refine r_op (t_rem rfl h14) ⟨rfl, k_I _ _, trivial⟩ ?_
  refine r_op (t_cv rfl ⟨_, Tryz.underlying160⟩ Tryz.underlying3) ⟨rfl, trivial⟩ ?_
  refine r_mv ?_
  obtain ⟨v15, h16, hF⟩ := bnd hF
  refine r_op (t_uquo rfl h16) ⟨rfl, k_I _ _, trivial⟩ ?_
  obtain ⟨v17, h18, hF⟩ := bnd hF
  refine r_op (t_uquo rfl h18) ⟨rfl, k_I _ _, trivial⟩ ?_
  refine r_op (t_cv rfl ⟨_, Tryz.underlying160⟩ Tryz.underlying3) ⟨rfl, trivial⟩ ?_
  refine r_op (t_bs (C := cI) (xs := [.tmp 32, .tmp 36, .tmp 40]) (ps := [.vc (pI .i64 (IntKind.i64.wrap v9)), .vc (pI .i64 (IntKind.i64.wrap v13)), .vc (pI .i64 (IntKind.i64.wrap v17))]) (zs := [(IntKind.i64.wrap v9), (IntKind.i64.wrap v13), (IntKind.i64.wrap v17)]) rfl tyS22 rfl ⟨⟨trivial, rfl⟩, ⟨trivial, rfl⟩, ⟨trivial, rfl⟩, trivial⟩ rfl) ⟨rfl, rfl, rfl, trivial⟩ ?_
  refine r_op (t_bld (is := [0, 1]) (xs := [.tmp 29, .tmp 41]) (ps := [.vc (pB a0), .vc (pS cI [(IntKind.i64.wrap v9), (IntKind.i64.wrap v13), (IntKind.i64.wrap v17)])]) rfl tyB33 rfl rfl ⟨trivial, trivial, trivial⟩ rfl) ⟨rfl, rfl, trivial⟩ ?_
  refine r_op0 (t_s 0 rfl rfl rfl tyA33.s) ⟨rfl, rfl, trivial⟩ ?_
  refine r_nil (r_next (r_ret (r_toR ?_)))
  obtain rfl := sm1 hF
  exact r_done1 (.inl rfl) Tryz.results135 (rv_cell 0 2 rfl rfl rfl rfl (.agg tyA33) .nil) rfl rfl
def F_integer_of_j6 (K : Nat) (a0 : Bool) (a1 : List Int) (x4 : Int) : Option GInt :=
  bif (x4 == 0) then (some (⟨false, ([] : List Int)⟩ : GInt)) else ((slL a1 0 x4).bind fun x8 => some (⟨a0, x8⟩ : GInt))
def F_integer_of_l5 (K : Nat) (a1 : List Int) : Nat → Int → Option Int
  | 0, _ => none
  | k + 1, x3 => bif (decide (0 < x3)) then ((chk (x3 - 1)).bind fun v11 => (rdL a1 v11).bind fun v13 => bif (v13 == 0) then ((chk (x3 - 1)).bind fun v16 => F_integer_of_l5 K a1 k v16) else (some x3)) else (some x3)
def F_integer_of (K : Nat) (a0 : Bool) (a1 : List Int) : Option GInt :=
  (F_integer_of_l5 K a1 K (a1.length : Int)).bind fun x4 => F_integer_of_j6 K a0 a1 x4
theorem ct_integer_of {K : Nat} {a0 : Bool} {a1 : List Int} {r : GInt} (hF : F_integer_of K a0 a1 = some r) : Ct Tryz.prog 136 [.vc (pB a0), .vc (pS cI a1)] (.va (GInt.e r)) := by
  unfold F_integer_of at hF
  refine ctO_intro Tryz.func136 rfl (by kernel_rfl) Tryz.ntmps136 rfl (fun w0 M0 => ?_)
  refine r_seq (r_reg (r_alloc rfl tyZ33 (fun b1 => ?_)))
  refine r_nil (r_next (r_seq (r_reg (r_mv ?_))))
  refine r_op (t_ln rfl tyS22) ⟨rfl, trivial⟩ ?_
  refine r_as ?_
  refine r_nil (r_next (r_seq (r_blk (r_cutN (fun H E => ∃ (x4 : Int), F_integer_of_j6 K a0 a1 x4 = some r ∧ H = [⟨some b1, 1, 33, 2, 1, ([pB false] ++ [pS cI ([] : List Int)])⟩] ∧ E = [(0, .vc (pB a0)), (1, .vc (pS cI a1)), (4, .vc (pP (some b1) 0)), (5, .vc (pI .i64 x4))]) ?_ (fun Jj6 => ?_)))))
  · rintro _ _ ⟨x4, hF, rfl, rfl⟩
    unfold F_integer_of_j6 at hF
    refine r_next (r_seq (r_seq (r_reg (r_mv ?_))))
    refine r_op (t_eq rfl) ⟨rfl, k_I _ _, trivial⟩ ?_
    refine r_nil (r_next (r_if rfl (fun h7 => ?_) (fun h7 => ?_)))
    · have hF := cnd_t h7 hF
      refine r_seq (r_reg (r_op (t_bld (is := []) (xs := []) (ps := []) rfl tyB33 rfl rfl trivial rfl) trivial ?_))
      refine r_op0 (t_s 0 rfl rfl rfl tyA33.s) ⟨rfl, rfl, trivial⟩ ?_
      refine r_nil (r_next (r_ret (r_toR ?_)))
      obtain rfl := sm1 hF
      exact r_done1 (.inl rfl) Tryz.results136 (rv_cell 0 2 rfl rfl rfl rfl (.agg tyA33) .nil) rfl rfl
    have hF := cnd_f h7 hF
    refine r_skip (r_next (r_seq (r_reg (r_mv ?_))))
    refine r_mv ?_
    refine r_mv ?_
    refine r_mv ?_
    obtain ⟨x8, h9, hF⟩ := bnd hF
    refine r_op (t_cutHM rfl tyS22 h9) ⟨rfl, rfl, rfl, trivial⟩ ?_
    refine r_op (t_bld (is := [0, 1]) (xs := [.tmp 23, .tmp 27]) (ps := [.vc (pB a0), .vc (pS cI x8)]) rfl tyB33 rfl rfl ⟨trivial, trivial, trivial⟩ rfl) ⟨rfl, rfl, trivial⟩ ?_
    refine r_op0 (t_s 0 rfl rfl rfl tyA33.s) ⟨rfl, rfl, trivial⟩ ?_
    refine r_nil (r_next (r_ret (r_toR ?_)))
    obtain rfl := sm1 hF
    exact r_done1 (.inl rfl) Tryz.results136 (rv_cell 0 2 rfl rfl rfl rfl (.agg tyA33) .nil) rfl rfl
  obtain ⟨x4', hL, hRl5⟩ := bnd hF
  refine r_lp (fun k a w => ∃ (x3 : Int), F_integer_of_l5 K a1 k x3 = some x4' ∧ hs _ [⟨some b1, 1, 33, 2, 1, ([pB false] ++ [pS cI ([] : List Int)])⟩] [(0, .vc (pB a0)), (1, .vc (pS cI a1)), (4, .vc (pP (some b1) 0)), (5, .vc (pI .i64 x3))] a w) K (fun a w ⟨_, hF, _⟩ => by cases hF) (fun k a w ⟨x3, hF, hh⟩ => r_at ?_ hh) (fun a w hh => ⟨(a1.length : Int), hL, hs_back [0] rfl (by decide) (by exact ⟨rfl, rfl, rfl, rfl, trivial⟩) hh⟩)
  rw [F_integer_of_l5.eq_2] at hF
  refine r_seq (r_seq (r_reg (r_mv ?_)))
  refine r_op (t_gt rfl) ⟨rfl, k_I _ _, trivial⟩ ?_
  refine r_mv ?_
  refine r_bool (fun h10 => ?_) (fun h10 => ?_)
  · have hF := cnd_t h10 hF
    refine r_opg (t_mv (.inl rfl)) ⟨rfl, trivial⟩ ?_
    refine r_opg (t_mv (.inl rfl)) ⟨rfl, trivial⟩ ?_
    obtain ⟨v11, h12, hF⟩ := bnd hF
    refine r_opg (t_sub rfl h12) ⟨rfl, k_I _ _, trivial⟩ ?_
    obtain ⟨v13, h14, hF⟩ := bnd hF
    refine r_opg (t_ix rfl tyS22 h14) ⟨rfl, rfl, trivial⟩ ?_
    refine r_opg (t_lM 1 rfl rfl (.one tyO3)) ⟨rfl, trivial⟩ ?_
    refine r_opg (t_eq rfl) ⟨rfl, k_I _ _, trivial⟩ ?_
    refine r_op (t_pickT rfl) ⟨rfl, rfl, trivial⟩ ?_
    refine r_nil (r_next (r_if rfl (fun h15 => ?_) (fun h15 => ?_)))
    · have hF := cnd_t h15 hF
      refine r_skip (r_next (r_blk (r_reg (r_mv ?_))))
      obtain ⟨v16, h17, hF⟩ := bnd hF
      refine r_op (t_sub rfl h17) ⟨rfl, k_I _ _, trivial⟩ ?_
      refine r_as ?_
      refine r_nil (r_blkN ?_)
      exact r_round (fun a w hh => ⟨v16, hF, hs_back [0] rfl (by decide) (by exact ⟨rfl, rfl, rfl, rfl, trivial⟩) hh⟩)
    have hF := cnd_f h15 hF
    refine r_brk ?_
    obtain rfl := sm1 hF
    exact r_backJ Jj6 ⟨x3, hRl5, rfl, rfl⟩ [0] rfl ⟨rfl, rfl, rfl, rfl, trivial⟩
  have hF := cnd_f h10 hF
  refine r_opn ?_
  refine r_opn ?_
  refine r_opn ?_
  refine r_opn ?_
  refine r_opn ?_
  refine r_opn ?_
  refine r_op (t_pickF rfl) ⟨rfl, k_B _, trivial⟩ ?_
  refine r_nil (r_next (r_ifF rfl ?_))
  refine r_brk ?_
  obtain rfl := sm1 hF
  exact r_backJ Jj6 ⟨x3, hRl5, rfl, rfl⟩ [0] rfl ⟨rfl, rfl, rfl, rfl, trivial⟩
def F_integer_Mul_j44 (K : Nat) (a0 : GInt) (a1 : GInt) (x37 : List Int) : Option GInt :=
  (F_integer_of K (a0.neg != a1.neg) x37).bind fun v45 => some v45
def F_integer_Mul_j74 (K : Nat) (a1 : GInt) (x36 : Int) (recl43 : (List Int) → Int → Option (List Int)) (x66 : List Int) (x72 : Int) : Option (List Int) :=
  (chk (x36 + (a1.d.length : Int))).bind fun v75 => (rdL x66 v75).bind fun v77 => (stL x66 v75 x72).bind fun x79 => (chk (x36 + 1)).bind fun v82 => recl43 x79 v82
def F_integer_Mul_l73 (K : Nat) (a1 : GInt) (x36 : Int) (v48 : Int) : Nat → (List Int) → Int → Int → Option ((List Int) × Int)
  | 0, _, _, _ => none
  | k + 1, x58, x64, x65 => bif (decide (x65 < (a1.d.length : Int))) then ((rdL a1.d x65).bind fun v85 => (chk (x36 + x65)).bind fun v87 => (rdL x58 v87).bind fun v89 => (chk (v48 * v85)).bind fun v91 => (chk (v89 + v91)).bind fun v93 => (chk (v93 + x64)).bind fun v95 => (chq v95 1000000000).bind fun v97 => (chk (x36 + x65)).bind fun v99 => (chk (v97 * 1000000000)).bind fun v101 => (chk (v95 - v101)).bind fun v103 => (rdL x58 v99).bind fun v105 => (stL x58 v99 v103).bind fun x107 => (chk (x65 + 1)).bind fun v110 => F_integer_Mul_l73 K a1 x36 v48 k x107 v97 v110) else (some (x58, x64))
def F_integer_Mul_l43 (K : Nat) (a0 : GInt) (a1 : GInt) : Nat → (List Int) → Int → Option (List Int)
  | 0, _, _ => none
  | k + 1, x30, x36 => bif (decide (x36 < (a0.d.length : Int))) then ((rdL a0.d x36).bind fun v48 => (F_integer_Mul_l73 K a1 x36 v48 K x30 0 0).bind fun (x66, x72) => F_integer_Mul_j74 K a1 x36 (F_integer_Mul_l43 K a0 a1 k) x66 x72) else (some x30)
def F_integer_Mul_j140 (K : Nat) (a0 : GInt) (a1 : GInt) (x133 : List Int) : Option GInt :=
  (F_integer_of K (a0.neg != a1.neg) x133).bind fun v141 => some v141
def F_integer_Mul_j170 (K : Nat) (a1 : GInt) (x132 : Int) (recl139 : (List Int) → Int → Option (List Int)) (x162 : List Int) (x168 : Int) : Option (List Int) :=
  (chk (x132 + (a1.d.length : Int))).bind fun v171 => (rdL x162 v171).bind fun v173 => (stL x162 v171 x168).bind fun x175 => (chk (x132 + 1)).bind fun v178 => recl139 x175 v178
def F_integer_Mul_l169 (K : Nat) (a1 : GInt) (x132 : Int) (v144 : Int) : Nat → (List Int) → Int → Int → Option ((List Int) × Int)
  | 0, _, _, _ => none
  | k + 1, x154, x160, x161 => bif (decide (x161 < (a1.d.length : Int))) then ((rdL a1.d x161).bind fun v181 => (chk (x132 + x161)).bind fun v183 => (rdL x154 v183).bind fun v185 => (chk (v144 * v181)).bind fun v187 => (chk (v185 + v187)).bind fun v189 => (chk (v189 + x160)).bind fun v191 => (chq v191 1000000000).bind fun v193 => (chk (x132 + x161)).bind fun v195 => (chk (v193 * 1000000000)).bind fun v197 => (chk (v191 - v197)).bind fun v199 => (rdL x154 v195).bind fun v201 => (stL x154 v195 v199).bind fun x203 => (chk (x161 + 1)).bind fun v206 => F_integer_Mul_l169 K a1 x132 v144 k x203 v193 v206) else (some (x154, x160))
def F_integer_Mul_l139 (K : Nat) (a0 : GInt) (a1 : GInt) : Nat → (List Int) → Int → Option (List Int)
  | 0, _, _ => none
  | k + 1, x126, x132 => bif (decide (x132 < (a0.d.length : Int))) then ((rdL a0.d x132).bind fun v144 => (F_integer_Mul_l169 K a1 x132 v144 K x126 0 0).bind fun (x162, x168) => F_integer_Mul_j170 K a1 x132 (F_integer_Mul_l139 K a0 a1 k) x162 x168) else (some x126)
def F_integer_Mul (K : Nat) (a0 : GInt) (a1 : GInt) : Option GInt :=
  bif ((a0.d.length : Int) == 1) then (bif ((a1.d.length : Int) == 1) then ((rdL a0.d 0).bind fun v10 => (rdL a1.d 0).bind fun v12 => (F_integer_unsigned (a0.neg != a1.neg) (wu ((IntKind.u64.wrap v10) * (IntKind.u64.wrap v12)))).bind fun v14 => some v14) else ((chk ((a0.d.length : Int) + (a1.d.length : Int))).bind fun v16 => (mkL v16 0).bind fun x18 => (F_integer_Mul_l43 K a0 a1 K x18 0).bind fun x37 => F_integer_Mul_j44 K a0 a1 x37)) else ((chk ((a0.d.length : Int) + (a1.d.length : Int))).bind fun v112 => (mkL v112 0).bind fun x114 => (F_integer_Mul_l139 K a0 a1 K x114 0).bind fun x133 => F_integer_Mul_j140 K a0 a1 x133)
theorem ct_integer_Mul {K : Nat} {a0 : GInt} {a1 : GInt} {r : GInt} (hF : F_integer_Mul K a0 a1 = some r) : Ct Tryz.prog 85 [.va (GInt.e a0), .va (GInt.e a1)] (.va (GInt.e r)) := by
  unfold F_integer_Mul at hF
  refine ctO_intro Tryz.func85 rfl (by kernel_rfl) Tryz.ntmps85 rfl (fun w0 M0 => ?_)
  refine r_seq (r_reg (r_box rfl rfl trivial (fun b1 => ?_)))
  refine r_box rfl rfl trivial (fun b2 => ?_)
  refine r_alloc rfl tyZ33 (fun b3 => ?_)
  refine r_nil (r_next (r_seq (r_draw [0, 1, 0, 4, 3, 31] 6 0 [.v (.vc (pP (some b1) 1)), .v (.vc (pS cI a0.d)), .v (.vc (pP (some b2) 1)), .v (.vc (pS cI a1.d)), .v (.vc (pS cI a0.d)), .v (.vc (pS cI a1.d))] Tryz_mixed ⟨d0 (t_fa (off := 0) (k := 1) rfl tyF33_1) ⟨rfl, trivial⟩, d0 (t_l 2 1 rfl rfl rfl rfl (.one tyO22)) ⟨rfl, trivial⟩, d0 (t_fa (off := 0) (k := 1) rfl tyF33_1) ⟨rfl, trivial⟩, d0 (t_l 1 1 rfl rfl rfl rfl (.one tyO22)) ⟨rfl, trivial⟩, d0 (t_mv (.inr rfl)) ⟨rfl, trivial⟩, d0 (t_mv (.inr rfl)) ⟨rfl, trivial⟩, trivial⟩ (fun bs5 G4 => ?_))))
  refine r_nil (r_next (r_seq (r_seq (r_reg (r_mv ?_)))))
  refine r_op (t_ln rfl tyS22) ⟨rfl, trivial⟩ ?_
  refine r_op (t_eq rfl) ⟨rfl, k_I _ _, trivial⟩ ?_
  refine r_mv ?_
  refine r_bool (fun h6 => ?_) (fun h6 => ?_)
  · have hF := cnd_t h6 hF
    refine r_opg (t_mv (.inl rfl)) ⟨rfl, trivial⟩ ?_
    refine r_opg (t_ln rfl tyS22) ⟨rfl, trivial⟩ ?_
    refine r_opg (t_eq rfl) ⟨rfl, k_I _ _, trivial⟩ ?_
    refine r_op (t_pickT rfl) ⟨rfl, rfl, trivial⟩ ?_
    refine r_nil (r_next (r_if rfl (fun h7 => ?_) (fun h7 => ?_)))
    · have hF := cnd_t h7 hF
      refine r_seq ?_
      obtain ⟨v10, h11, hF⟩ := bnd hF
      obtain ⟨v12, h13, hF⟩ := bnd hF
      obtain ⟨v14, h15, hF⟩ := bnd hF
      refine r_draw [0, 1, 0, 4, 15, 0, 32, 96, 224, 0, 512, 1536, 3584, 8160, 16383, 32767] 15 1 [.v (.vc (pP (some b1) 0)), .v (.vc (pB a0.neg)), .v (.vc (pP (some b2) 0)), .v (.vc (pB a1.neg)), .v (.vc (pB (a0.neg != a1.neg))), .v (.vc (pS cI a0.d)), .v (.vc (pM (cI.e v10))), .v (.vc (pI .i64 v10)), .v (.vc (pI .u64 (IntKind.u64.wrap v10))), .v (.vc (pS cI a1.d)), .v (.vc (pM (cI.e v12))), .v (.vc (pI .i64 v12)), .v (.vc (pI .u64 (IntKind.u64.wrap v12))), .v (.vc (pI .u64 (wu ((IntKind.u64.wrap v10) * (IntKind.u64.wrap v12))))), .v (.va (GInt.e v14))] Tryz_mixed ⟨d0 (t_fa (off := 0) (k := 0) rfl tyF33_0) ⟨rfl, trivial⟩, d0 (t_l 2 1 rfl rfl rfl rfl (.one tyO4)) ⟨rfl, trivial⟩, d0 (t_fa (off := 0) (k := 0) rfl tyF33_0) ⟨rfl, trivial⟩, d0 (t_l 1 1 rfl rfl rfl rfl (.one tyO4)) ⟨rfl, trivial⟩, ⟨rfl, .run (lo := 0) (n := 1) ⟨fun G8 A => t_neB rfl Tryz.underlying4, trivial⟩ (fun G8 => ⟨rfl, rfl, trivial⟩)⟩, d0 (t_mv (.inl rfl)) ⟨rfl, trivial⟩, d0 (t_ix rfl tyS22 h11) ⟨rfl, k_I _ _, trivial⟩, d0 (t_lM 1 rfl rfl (.one tyO3)) ⟨rfl, trivial⟩, ⟨rfl, .run (lo := 0) (n := 1) ⟨fun G8 A => t_cv rfl ⟨_, Tryz.underlying3⟩ Tryz.underlying160, trivial⟩ (fun G8 => ⟨rfl, trivial⟩)⟩, d0 (t_mv (.inl rfl)) ⟨rfl, trivial⟩, d0 (t_ix rfl tyS22 h13) ⟨rfl, k_I _ _, trivial⟩, d0 (t_lM 1 rfl rfl (.one tyO3)) ⟨rfl, trivial⟩, ⟨rfl, .run (lo := 0) (n := 1) ⟨fun G8 A => t_cv rfl ⟨_, Tryz.underlying3⟩ Tryz.underlying160, trivial⟩ (fun G8 => ⟨rfl, trivial⟩)⟩, d0 (t_umul rfl) ⟨rfl, rfl, trivial⟩, d0 (t_call rfl (ct_integer_unsigned h15) rfl) ⟨rfl, rfl, trivial⟩, trivial⟩ (fun bs9 G8 => ?_)
      refine r_op0 (t_s 0 rfl rfl rfl tyA33.s) ⟨rfl, rfl, trivial⟩ ?_
      refine r_nil (r_next (r_ret (r_toR ?_)))
      obtain rfl := sm1 hF
      exact r_done1 (.inl rfl) Tryz.results85 (rv_cell 0 2 rfl rfl rfl rfl (.agg tyA33) .nil) rfl rfl
    have hF := cnd_f h7 hF
    refine r_skip (r_next (r_seq (r_reg (r_mv ?_))))
    refine r_op (t_ln rfl tyS22) ⟨rfl, trivial⟩ ?_
    refine r_mv ?_
    refine r_op (t_ln rfl tyS22) ⟨rfl, trivial⟩ ?_
    obtain ⟨v16, h17, hF⟩ := bnd hF
    refine r_op (t_add rfl h17) ⟨rfl, rfl, trivial⟩ ?_
    obtain ⟨x18, h19, hF⟩ := bnd hF
    refine r_make (C := cI) rfl tyS22 rfl tyZ3 rfl h19 (fun b20 => ?_)
    refine r_as ?_
    refine r_nil (r_next (r_seq (r_seq (r_reg (r_mv ?_)))))
    refine r_op (t_ln rfl tyS22) ⟨rfl, trivial⟩ ?_
    refine r_op (t_mv (.inl rfl)) ⟨k_I _ _, trivial⟩ ?_
    refine r_nil (r_next (r_blk (r_cutN (fun H E => ∃ (x37 : List Int), F_integer_Mul_j44 K a0 a1 x37 = some r ∧ x37.length = x18.length ∧ H = [hO cI b20 x18.length 3 x18.length x37, ⟨some b3, 1, 33, 2, 1, ([pB false] ++ [pS cI ([] : List Int)])⟩, ⟨some b2, 1, 33, 2, 1, (GInt.e a1)⟩, ⟨some b1, 1, 33, 2, 1, (GInt.e a0)⟩] ∧ E = [(2, .vc (pP (some b1) 0)), (3, .vc (pP (some b2) 0)), (4, .vc (pP (some b3) 0)), (7, .vc (pO b20 x18.length x18.length))]) ?_ (fun Jj44 => ?_))))
    · rintro _ _ ⟨x37, hF, q41, rfl, rfl⟩
      unfold F_integer_Mul_j44 at hF
      refine r_next (r_seq (r_reg (r_op (t_fa (off := 0) (k := 0) rfl tyF33_0) ⟨rfl, trivial⟩ ?_)))
      refine r_op (t_l 3 1 rfl rfl rfl rfl (.one tyO4)) ⟨rfl, trivial⟩ ?_
      refine r_op (t_fa (off := 0) (k := 0) rfl tyF33_0) ⟨rfl, trivial⟩ ?_
      refine r_op (t_l 2 1 rfl rfl rfl rfl (.one tyO4)) ⟨rfl, trivial⟩ ?_
      refine r_op (t_neB rfl Tryz.underlying4) ⟨rfl, rfl, trivial⟩ ?_
      refine r_mv ?_
      refine r_fzL 0 [7, 98] rfl q41 ⟨rfl, rfl, trivial⟩ rfl ?_
      obtain ⟨v45, h46, hF⟩ := bnd hF
      refine r_op (t_call rfl (ct_integer_of h46) rfl) ⟨rfl, rfl, trivial⟩ ?_
      refine r_op0 (t_s 0 rfl rfl rfl tyA33.s) ⟨rfl, rfl, trivial⟩ ?_
      refine r_nil (r_next (r_ret (r_toR ?_)))
      obtain rfl := sm1 hF
      exact r_done1 (.inl rfl) Tryz.results85 (rv_cell 0 2 rfl rfl rfl rfl (.agg tyA33) .nil) rfl rfl
    obtain ⟨x37', hL, hRl43⟩ := bnd hF
    refine r_lp (fun k a w => ∃ (x30 : List Int), ∃ (x36 : Int), F_integer_Mul_l43 K a0 a1 k x30 x36 = some x37' ∧ x30.length = x18.length ∧ hs _ [hO cI b20 x18.length 3 x18.length x30, ⟨some b3, 1, 33, 2, 1, ([pB false] ++ [pS cI ([] : List Int)])⟩, ⟨some b2, 1, 33, 2, 1, (GInt.e a1)⟩, ⟨some b1, 1, 33, 2, 1, (GInt.e a0)⟩] [(2, .vc (pP (some b1) 0)), (3, .vc (pP (some b2) 0)), (4, .vc (pP (some b3) 0)), (6, .vc (pS cI a1.d)), (7, .vc (pO b20 x18.length x18.length)), (47, .vc (pS cI a0.d)), (48, .vc (pI .i64 (a0.d.length : Int))), (49, .vc (pI .i64 x36))] a w) K (fun a w ⟨_, _, hF, _, _⟩ => by cases hF) (fun k a w ⟨x30, x36, hF, q34, hh⟩ => r_at ?_ hh) (fun a w hh => ⟨x18, 0, hL, rfl, hs_back [0, 1, 2, 3] rfl (by decide) (by exact ⟨rfl, rfl, rfl, rfl, rfl, rfl, rfl, rfl, trivial⟩) hh⟩)
    rw [F_integer_Mul_l43.eq_2] at hF
    refine r_seq (r_reg (r_op (t_lt rfl) ⟨rfl, rfl, trivial⟩ ?_))
    refine r_nil (r_next (r_seq (r_if rfl (fun h47 => ?_) (fun h47 => ?_))))
    · have hF := cnd_t h47 hF
      refine r_skip (r_next (r_seq (r_blk (r_seq (r_reg (r_mv ?_))))))
      obtain ⟨v48, h49, hF⟩ := bnd hF
      refine r_op (t_ix rfl tyS22 h49) ⟨rfl, rfl, trivial⟩ ?_
      refine r_op (t_lM 1 rfl rfl (.one tyO3)) ⟨rfl, trivial⟩ ?_
      refine r_as ?_
      refine r_as ?_
      refine r_nil (r_next (r_seq (r_reg (r_op (t_mv (.inr rfl)) ⟨k_I _ _, trivial⟩ ?_))))
      refine r_nil (r_next (r_seq (r_seq (r_reg (r_mv ?_)))))
      refine r_op (t_ln rfl tyS22) ⟨rfl, trivial⟩ ?_
      refine r_op (t_mv (.inl rfl)) ⟨k_I _ _, trivial⟩ ?_
      refine r_nil (r_next (r_blk (r_cutN (fun H E => ∃ (x66 : List Int), ∃ (x72 : Int), F_integer_Mul_j74 K a1 x36 (F_integer_Mul_l43 K a0 a1 k) x66 x72 = some x37' ∧ x66.length = x18.length ∧ H = [hO cI b20 x18.length 3 x18.length x66, ⟨some b3, 1, 33, 2, 1, ([pB false] ++ [pS cI ([] : List Int)])⟩, ⟨some b2, 1, 33, 2, 1, (GInt.e a1)⟩, ⟨some b1, 1, 33, 2, 1, (GInt.e a0)⟩] ∧ E = [(2, .vc (pP (some b1) 0)), (3, .vc (pP (some b2) 0)), (4, .vc (pP (some b3) 0)), (6, .vc (pS cI a1.d)), (7, .vc (pO b20 x18.length x18.length)), (8, .vc (pI .i64 x36)), (10, .vc (pI .i64 x72)), (47, .vc (pS cI a0.d)), (48, .vc (pI .i64 (a0.d.length : Int))), (49, .vc (pI .i64 x36))]) ?_ (fun Jj74 => ?_))))
      · rintro _ _ ⟨x66, x72, hF, q70, rfl, rfl⟩
        unfold F_integer_Mul_j74 at hF
        refine r_next (r_reg (r_mv ?_))
        refine r_mv ?_
        refine r_mv ?_
        refine r_op (t_ln rfl tyS22) ⟨rfl, trivial⟩ ?_
        obtain ⟨v75, h76, hF⟩ := bnd hF
        refine r_op (t_add rfl h76) ⟨rfl, rfl, trivial⟩ ?_
        refine r_mv ?_
        obtain ⟨v77, h78, hF⟩ := bnd hF
        refine r_op (t_ixE (C := cI) 0 rfl tyS22 rfl q70 (rdL_some h78).1 (rdL_some h78).2.1) ⟨rfl, rfl, trivial⟩ ?_
        obtain ⟨x79, h80, hF⟩ := bnd hF
        refine r_op0 (t_stE 0 rfl rfl h78 h80 tyO3.s) ⟨rfl, rfl, trivial⟩ ?_
        refine r_nil (r_blkN (r_next (r_reg ?_)))
        obtain ⟨v82, h83, hF⟩ := bnd hF
        refine r_op (t_add rfl h83) ⟨rfl, k_I _ _, trivial⟩ ?_
        refine r_mv ?_
        refine r_nil ?_
        exact r_round (fun a w hh => ⟨x79, v82, hF, (stL_len h80 q70), hs_back [0, 1, 2, 3] rfl (by decide) (by exact ⟨rfl, rfl, rfl, rfl, rfl, rfl, rfl, rfl, trivial⟩) hh⟩)
      obtain ⟨⟨x66', x72'⟩, hL, hRl73⟩ := bnd hF
      refine r_lp (fun k a w => ∃ (x58 : List Int), ∃ (x64 : Int), ∃ (x65 : Int), F_integer_Mul_l73 K a1 x36 v48 k x58 x64 x65 = some (x66', x72') ∧ x58.length = x18.length ∧ hs _ [hO cI b20 x18.length 3 x18.length x58, ⟨some b3, 1, 33, 2, 1, ([pB false] ++ [pS cI ([] : List Int)])⟩, ⟨some b2, 1, 33, 2, 1, (GInt.e a1)⟩, ⟨some b1, 1, 33, 2, 1, (GInt.e a0)⟩] [(2, .vc (pP (some b1) 0)), (3, .vc (pP (some b2) 0)), (4, .vc (pP (some b3) 0)), (6, .vc (pS cI a1.d)), (7, .vc (pO b20 x18.length x18.length)), (8, .vc (pI .i64 x36)), (9, .vc (pI .i64 v48)), (10, .vc (pI .i64 x64)), (47, .vc (pS cI a0.d)), (48, .vc (pI .i64 (a0.d.length : Int))), (49, .vc (pI .i64 x36)), (54, .vc (pS cI a1.d)), (55, .vc (pI .i64 (a1.d.length : Int))), (56, .vc (pI .i64 x65))] a w) K (fun a w ⟨_, _, _, hF, _, _⟩ => by cases hF) (fun k a w ⟨x58, x64, x65, hF, q62, hh⟩ => r_at ?_ hh) (fun a w hh => ⟨x30, 0, 0, hL, q34, hs_back [0, 1, 2, 3] rfl (by decide) (by exact ⟨rfl, rfl, rfl, rfl, rfl, rfl, rfl, rfl, rfl, rfl, rfl, rfl, rfl, rfl, trivial⟩) hh⟩)
      rw [F_integer_Mul_l73.eq_2] at hF
      refine r_seq (r_reg (r_op (t_lt rfl) ⟨rfl, rfl, trivial⟩ ?_))
      refine r_nil (r_next (r_seq (r_if rfl (fun h84 => ?_) (fun h84 => ?_))))
      · have hF := cnd_t h84 hF
        refine r_skip (r_next (r_seq (r_blk (r_seq (r_reg (r_mv ?_))))))
        obtain ⟨v85, h86, hF⟩ := bnd hF
        refine r_op (t_ix rfl tyS22 h86) ⟨rfl, rfl, trivial⟩ ?_
        refine r_op (t_lM 1 rfl rfl (.one tyO3)) ⟨rfl, trivial⟩ ?_
        refine r_as ?_
        refine r_as ?_
        refine r_nil (r_next (r_seq (r_reg (r_mv ?_))))
        refine r_mv ?_
        refine r_mv ?_
        obtain ⟨v87, h88, hF⟩ := bnd hF
        refine r_op (t_add rfl h88) ⟨rfl, rfl, trivial⟩ ?_
        obtain ⟨v89, h90, hF⟩ := bnd hF
        refine r_op (t_ixE (C := cI) 0 rfl tyS22 rfl q62 (rdL_some h90).1 (rdL_some h90).2.1) ⟨rfl, rfl, trivial⟩ ?_
        refine r_op (t_ldE (k := 1) 0 rfl rfl h90 rfl (.one tyO3) rfl) ⟨rfl, trivial⟩ ?_
        refine r_mv ?_
        refine r_mv ?_
        obtain ⟨v91, h92, hF⟩ := bnd hF
        refine r_op (t_mul rfl h92) ⟨rfl, rfl, trivial⟩ ?_
        obtain ⟨v93, h94, hF⟩ := bnd hF
        refine r_op (t_add rfl h94) ⟨rfl, rfl, trivial⟩ ?_
        refine r_mv ?_
        obtain ⟨v95, h96, hF⟩ := bnd hF
        refine r_op (t_add rfl h96) ⟨rfl, rfl, trivial⟩ ?_
        refine r_as ?_
        refine r_nil (r_next (r_seq (r_reg (r_mv ?_))))
        obtain ⟨v97, h98, hF⟩ := bnd hF
        refine r_op (t_quo rfl h98) ⟨rfl, k_I _ _, trivial⟩ ?_
        refine r_as ?_
        refine r_nil (r_next (r_reg (r_mv ?_)))
        refine r_mv ?_
        refine r_mv ?_
        obtain ⟨v99, h100, hF⟩ := bnd hF
        refine r_op (t_add rfl h100) ⟨rfl, rfl, trivial⟩ ?_
        refine r_mv ?_
        refine r_mv ?_
        obtain ⟨v101, h102, hF⟩ := bnd hF
        refine r_op (t_mul rfl h102) ⟨rfl, k_I _ _, trivial⟩ ?_
        obtain ⟨v103, h104, hF⟩ := bnd hF
        refine r_op (t_sub rfl h104) ⟨rfl, rfl, trivial⟩ ?_
        obtain ⟨v105, h106, hF⟩ := bnd hF
        refine r_op (t_ixE (C := cI) 0 rfl tyS22 rfl q62 (rdL_some h106).1 (rdL_some h106).2.1) ⟨rfl, rfl, trivial⟩ ?_
        obtain ⟨x107, h108, hF⟩ := bnd hF
        refine r_op0 (t_stE 0 rfl rfl h106 h108 tyO3.s) ⟨rfl, rfl, trivial⟩ ?_
        refine r_nil (r_blkN (r_next (r_reg ?_)))
        obtain ⟨v110, h111, hF⟩ := bnd hF
        refine r_op (t_add rfl h111) ⟨rfl, k_I _ _, trivial⟩ ?_
        refine r_mv ?_
        refine r_nil ?_
        exact r_round (fun a w hh => ⟨x107, v97, v110, hF, (stL_len h108 q62), hs_back [0, 1, 2, 3] rfl (by decide) (by exact ⟨rfl, rfl, rfl, rfl, rfl, rfl, rfl, rfl, rfl, rfl, rfl, rfl, rfl, rfl, trivial⟩) hh⟩)
      have hF := cnd_f h84 hF
      refine r_brk ?_
      obtain ⟨rfl, rfl⟩ := sm2 hF
      exact r_backJ Jj74 ⟨x58, x64, hRl73, q62, rfl, rfl⟩ [0, 1, 2, 3] rfl ⟨rfl, rfl, rfl, rfl, rfl, rfl, rfl, rfl, rfl, rfl, trivial⟩
    have hF := cnd_f h47 hF
    refine r_brk ?_
    obtain rfl := sm1 hF
    exact r_backJ Jj44 ⟨x30, hRl43, q34, rfl, rfl⟩ [0, 1, 2, 3] rfl ⟨rfl, rfl, rfl, rfl, trivial⟩
  have hF := cnd_f h6 hF
  refine r_opn ?_
  refine r_opn ?_
  refine r_opn ?_
  refine r_op (t_pickF rfl) ⟨rfl, k_B _, trivial⟩ ?_
  refine r_nil (r_next (r_ifF rfl ?_))
  refine r_skip (r_next (r_seq (r_reg (r_mv ?_))))
  refine r_op (t_ln rfl tyS22) ⟨rfl, trivial⟩ ?_
  refine r_mv ?_
  refine r_op (t_ln rfl tyS22) ⟨rfl, trivial⟩ ?_
  obtain ⟨v112, h113, hF⟩ := bnd hF
  refine r_op (t_add rfl h113) ⟨rfl, rfl, trivial⟩ ?_
  obtain ⟨x114, h115, hF⟩ := bnd hF
  refine r_make (C := cI) rfl tyS22 rfl tyZ3 rfl h115 (fun b116 => ?_)
  refine r_as ?_
  refine r_nil (r_next (r_seq (r_seq (r_reg (r_mv ?_)))))
  refine r_op (t_ln rfl tyS22) ⟨rfl, trivial⟩ ?_
  refine r_op (t_mv (.inl rfl)) ⟨k_I _ _, trivial⟩ ?_
  refine r_nil (r_next (r_blk (r_cutN (fun H E => ∃ (x133 : List Int), F_integer_Mul_j140 K a0 a1 x133 = some r ∧ x133.length = x114.length ∧ H = [hO cI b116 x114.length 3 x114.length x133, ⟨some b3, 1, 33, 2, 1, ([pB false] ++ [pS cI ([] : List Int)])⟩, ⟨some b2, 1, 33, 2, 1, (GInt.e a1)⟩, ⟨some b1, 1, 33, 2, 1, (GInt.e a0)⟩] ∧ E = [(2, .vc (pP (some b1) 0)), (3, .vc (pP (some b2) 0)), (4, .vc (pP (some b3) 0)), (7, .vc (pO b116 x114.length x114.length))]) ?_ (fun Jj140 => ?_))))
  · rintro _ _ ⟨x133, hF, q137, rfl, rfl⟩
    unfold F_integer_Mul_j140 at hF
    refine r_next (r_seq (r_reg (r_op (t_fa (off := 0) (k := 0) rfl tyF33_0) ⟨rfl, trivial⟩ ?_)))
    refine r_op (t_l 3 1 rfl rfl rfl rfl (.one tyO4)) ⟨rfl, trivial⟩ ?_
    refine r_op (t_fa (off := 0) (k := 0) rfl tyF33_0) ⟨rfl, trivial⟩ ?_
    refine r_op (t_l 2 1 rfl rfl rfl rfl (.one tyO4)) ⟨rfl, trivial⟩ ?_
    refine r_op (t_neB rfl Tryz.underlying4) ⟨rfl, rfl, trivial⟩ ?_
    refine r_mv ?_
    refine r_fzL 0 [7, 98] rfl q137 ⟨rfl, rfl, trivial⟩ rfl ?_
    obtain ⟨v141, h142, hF⟩ := bnd hF
    refine r_op (t_call rfl (ct_integer_of h142) rfl) ⟨rfl, rfl, trivial⟩ ?_
    refine r_op0 (t_s 0 rfl rfl rfl tyA33.s) ⟨rfl, rfl, trivial⟩ ?_
    refine r_nil (r_next (r_ret (r_toR ?_)))
    obtain rfl := sm1 hF
    exact r_done1 (.inl rfl) Tryz.results85 (rv_cell 0 2 rfl rfl rfl rfl (.agg tyA33) .nil) rfl rfl
  obtain ⟨x133', hL, hRl139⟩ := bnd hF
  refine r_lp (fun k a w => ∃ (x126 : List Int), ∃ (x132 : Int), F_integer_Mul_l139 K a0 a1 k x126 x132 = some x133' ∧ x126.length = x114.length ∧ hs _ [hO cI b116 x114.length 3 x114.length x126, ⟨some b3, 1, 33, 2, 1, ([pB false] ++ [pS cI ([] : List Int)])⟩, ⟨some b2, 1, 33, 2, 1, (GInt.e a1)⟩, ⟨some b1, 1, 33, 2, 1, (GInt.e a0)⟩] [(2, .vc (pP (some b1) 0)), (3, .vc (pP (some b2) 0)), (4, .vc (pP (some b3) 0)), (6, .vc (pS cI a1.d)), (7, .vc (pO b116 x114.length x114.length)), (47, .vc (pS cI a0.d)), (48, .vc (pI .i64 (a0.d.length : Int))), (49, .vc (pI .i64 x132))] a w) K (fun a w ⟨_, _, hF, _, _⟩ => by cases hF) (fun k a w ⟨x126, x132, hF, q130, hh⟩ => r_at ?_ hh) (fun a w hh => ⟨x114, 0, hL, rfl, hs_back [0, 1, 2, 3] rfl (by decide) (by exact ⟨rfl, rfl, rfl, rfl, rfl, rfl, rfl, rfl, trivial⟩) hh⟩)
  rw [F_integer_Mul_l139.eq_2] at hF
  refine r_seq (r_reg (r_op (t_lt rfl) ⟨rfl, rfl, trivial⟩ ?_))
  refine r_nil (r_next (r_seq (r_if rfl (fun h143 => ?_) (fun h143 => ?_))))
  · have hF := cnd_t h143 hF
    refine r_skip (r_next (r_seq (r_blk (r_seq (r_reg (r_mv ?_))))))
    obtain ⟨v144, h145, hF⟩ := bnd hF
    refine r_op (t_ix rfl tyS22 h145) ⟨rfl, rfl, trivial⟩ ?_
    refine r_op (t_lM 1 rfl rfl (.one tyO3)) ⟨rfl, trivial⟩ ?_
    refine r_as ?_
    refine r_as ?_
    refine r_nil (r_next (r_seq (r_reg (r_op (t_mv (.inr rfl)) ⟨k_I _ _, trivial⟩ ?_))))
    refine r_nil (r_next (r_seq (r_seq (r_reg (r_mv ?_)))))
    refine r_op (t_ln rfl tyS22) ⟨rfl, trivial⟩ ?_
    refine r_op (t_mv (.inl rfl)) ⟨k_I _ _, trivial⟩ ?_
    refine r_nil (r_next (r_blk (r_cutN (fun H E => ∃ (x162 : List Int), ∃ (x168 : Int), F_integer_Mul_j170 K a1 x132 (F_integer_Mul_l139 K a0 a1 k) x162 x168 = some x133' ∧ x162.length = x114.length ∧ H = [hO cI b116 x114.length 3 x114.length x162, ⟨some b3, 1, 33, 2, 1, ([pB false] ++ [pS cI ([] : List Int)])⟩, ⟨some b2, 1, 33, 2, 1, (GInt.e a1)⟩, ⟨some b1, 1, 33, 2, 1, (GInt.e a0)⟩] ∧ E = [(2, .vc (pP (some b1) 0)), (3, .vc (pP (some b2) 0)), (4, .vc (pP (some b3) 0)), (6, .vc (pS cI a1.d)), (7, .vc (pO b116 x114.length x114.length)), (8, .vc (pI .i64 x132)), (10, .vc (pI .i64 x168)), (47, .vc (pS cI a0.d)), (48, .vc (pI .i64 (a0.d.length : Int))), (49, .vc (pI .i64 x132))]) ?_ (fun Jj170 => ?_))))
    · rintro _ _ ⟨x162, x168, hF, q166, rfl, rfl⟩
      unfold F_integer_Mul_j170 at hF
      refine r_next (r_reg (r_mv ?_))
      refine r_mv ?_
      refine r_mv ?_
      refine r_op (t_ln rfl tyS22) ⟨rfl, trivial⟩ ?_
      obtain ⟨v171, h172, hF⟩ := bnd hF
      refine r_op (t_add rfl h172) ⟨rfl, rfl, trivial⟩ ?_
      refine r_mv ?_
      obtain ⟨v173, h174, hF⟩ := bnd hF
      refine r_op (t_ixE (C := cI) 0 rfl tyS22 rfl q166 (rdL_some h174).1 (rdL_some h174).2.1) ⟨rfl, rfl, trivial⟩ ?_
      obtain ⟨x175, h176, hF⟩ := bnd hF
      refine r_op0 (t_stE 0 rfl rfl h174 h176 tyO3.s) ⟨rfl, rfl, trivial⟩ ?_
      refine r_nil (r_blkN (r_next (r_reg ?_)))
      obtain ⟨v178, h179, hF⟩ := bnd hF
      refine r_op (t_add rfl h179) ⟨rfl, k_I _ _, trivial⟩ ?_
      refine r_mv ?_
      refine r_nil ?_
      exact r_round (fun a w hh => ⟨x175, v178, hF, (stL_len h176 q166), hs_back [0, 1, 2, 3] rfl (by decide) (by exact ⟨rfl, rfl, rfl, rfl, rfl, rfl, rfl, rfl, trivial⟩) hh⟩)
    obtain ⟨⟨x162', x168'⟩, hL, hRl169⟩ := bnd hF
    refine r_lp (fun k a w => ∃ (x154 : List Int), ∃ (x160 : Int), ∃ (x161 : Int), F_integer_Mul_l169 K a1 x132 v144 k x154 x160 x161 = some (x162', x168') ∧ x154.length = x114.length ∧ hs _ [hO cI b116 x114.length 3 x114.length x154, ⟨some b3, 1, 33, 2, 1, ([pB false] ++ [pS cI ([] : List Int)])⟩, ⟨some b2, 1, 33, 2, 1, (GInt.e a1)⟩, ⟨some b1, 1, 33, 2, 1, (GInt.e a0)⟩] [(2, .vc (pP (some b1) 0)), (3, .vc (pP (some b2) 0)), (4, .vc (pP (some b3) 0)), (6, .vc (pS cI a1.d)), (7, .vc (pO b116 x114.length x114.length)), (8, .vc (pI .i64 x132)), (9, .vc (pI .i64 v144)), (10, .vc (pI .i64 x160)), (47, .vc (pS cI a0.d)), (48, .vc (pI .i64 (a0.d.length : Int))), (49, .vc (pI .i64 x132)), (54, .vc (pS cI a1.d)), (55, .vc (pI .i64 (a1.d.length : Int))), (56, .vc (pI .i64 x161))] a w) K (fun a w ⟨_, _, _, hF, _, _⟩ => by cases hF) (fun k a w ⟨x154, x160, x161, hF, q158, hh⟩ => r_at ?_ hh) (fun a w hh => ⟨x126, 0, 0, hL, q130, hs_back [0, 1, 2, 3] rfl (by decide) (by exact ⟨rfl, rfl, rfl, rfl, rfl, rfl, rfl, rfl, rfl, rfl, rfl, rfl, rfl, rfl, trivial⟩) hh⟩)
    rw [F_integer_Mul_l169.eq_2] at hF
    refine r_seq (r_reg (r_op (t_lt rfl) ⟨rfl, rfl, trivial⟩ ?_))
    refine r_nil (r_next (r_seq (r_if rfl (fun h180 => ?_) (fun h180 => ?_))))
    · have hF := cnd_t h180 hF
      refine r_skip (r_next (r_seq (r_blk (r_seq (r_reg (r_mv ?_))))))
      obtain ⟨v181, h182, hF⟩ := bnd hF
      refine r_op (t_ix rfl tyS22 h182) ⟨rfl, rfl, trivial⟩ ?_
      refine r_op (t_lM 1 rfl rfl (.one tyO3)) ⟨rfl, trivial⟩ ?_
      refine r_as ?_
      refine r_as ?_
      refine r_nil (r_next (r_seq (r_reg (r_mv ?_))))
      refine r_mv ?_
      refine r_mv ?_
      obtain ⟨v183, h184, hF⟩ := bnd hF
      refine r_op (t_add rfl h184) ⟨rfl, rfl, trivial⟩ ?_
      obtain ⟨v185, h186, hF⟩ := bnd hF
      refine r_op (t_ixE (C := cI) 0 rfl tyS22 rfl q158 (rdL_some h186).1 (rdL_some h186).2.1) ⟨rfl, rfl, trivial⟩ ?_
      refine r_op (t_ldE (k := 1) 0 rfl rfl h186 rfl (.one tyO3) rfl) ⟨rfl, trivial⟩ ?_
      refine r_mv ?_
      refine r_mv ?_
      obtain ⟨v187, h188, hF⟩ := bnd hF
      refine r_op (t_mul rfl h188) ⟨rfl, rfl, trivial⟩ ?_
      obtain ⟨v189, h190, hF⟩ := bnd hF
      refine r_op (t_add rfl h190) ⟨rfl, rfl, trivial⟩ ?_
      refine r_mv ?_
      obtain ⟨v191, h192, hF⟩ := bnd hF
      refine r_op (t_add rfl h192) ⟨rfl, rfl, trivial⟩ ?_
      refine r_as ?_
      refine r_nil (r_next (r_seq (r_reg (r_mv ?_))))
      obtain ⟨v193, h194, hF⟩ := bnd hF
      refine r_op (t_quo rfl h194) ⟨rfl, k_I _ _, trivial⟩ ?_
      refine r_as ?_
      refine r_nil (r_next (r_reg (r_mv ?_)))
      refine r_mv ?_
      refine r_mv ?_
      obtain ⟨v195, h196, hF⟩ := bnd hF
      refine r_op (t_add rfl h196) ⟨rfl, rfl, trivial⟩ ?_
      refine r_mv ?_
      refine r_mv ?_
      obtain ⟨v197, h198, hF⟩ := bnd hF
      refine r_op (t_mul rfl h198) ⟨rfl, k_I _ _, trivial⟩ ?_
      obtain ⟨v199, h200, hF⟩ := bnd hF
      refine r_op (t_sub rfl h200) ⟨rfl, rfl, trivial⟩ ?_
      obtain ⟨v201, h202, hF⟩ := bnd hF
      refine r_op (t_ixE (C := cI) 0 rfl tyS22 rfl q158 (rdL_some h202).1 (rdL_some h202).2.1) ⟨rfl, rfl, trivial⟩ ?_
      obtain ⟨x203, h204, hF⟩ := bnd hF
      refine r_op0 (t_stE 0 rfl rfl h202 h204 tyO3.s) ⟨rfl, rfl, trivial⟩ ?_
      refine r_nil (r_blkN (r_next (r_reg ?_)))
      obtain ⟨v206, h207, hF⟩ := bnd hF
      refine r_op (t_add rfl h207) ⟨rfl, k_I _ _, trivial⟩ ?_
      refine r_mv ?_
      refine r_nil ?_
      exact r_round (fun a w hh => ⟨x203, v193, v206, hF, (stL_len h204 q158), hs_back [0, 1, 2, 3] rfl (by decide) (by exact ⟨rfl, rfl, rfl, rfl, rfl, rfl, rfl, rfl, rfl, rfl, rfl, rfl, rfl, rfl, trivial⟩) hh⟩)
    have hF := cnd_f h180 hF
    refine r_brk ?_
    obtain ⟨rfl, rfl⟩ := sm2 hF
    exact r_backJ Jj170 ⟨x154, x160, hRl169, q158, rfl, rfl⟩ [0, 1, 2, 3] rfl ⟨rfl, rfl, rfl, rfl, rfl, rfl, rfl, rfl, rfl, rfl, trivial⟩
  have hF := cnd_f h143 hF
  refine r_brk ?_
  obtain rfl := sm1 hF
  exact r_backJ Jj140 ⟨x126, hRl139, q130, rfl, rfl⟩ [0, 1, 2, 3] rfl ⟨rfl, rfl, rfl, rfl, trivial⟩
def F_integer_Sign (a0 : GInt) : Option Int :=
  bif a0.neg then (some (-1)) else (bif ((a0.d.length : Int) == 0) then (some 0) else (some 1))
theorem ct_integer_Sign {a0 : GInt} {r : Int} (hF : F_integer_Sign a0 = some r) : Ct Tryz.prog 89 [.va (GInt.e a0)] (.vc (pI .i64 r)) := by
  unfold F_integer_Sign at hF
  refine ctO_intro Tryz.func89 rfl (by kernel_rfl) Tryz.ntmps89 rfl (fun w0 M0 => ?_)
  refine r_seq (r_reg (r_box rfl rfl trivial (fun b1 => ?_)))
  refine r_op (t_mv (.inr rfl)) ⟨k_I _ _, trivial⟩ ?_
  refine r_nil (r_next (r_seq (r_blk (r_seq (r_reg (r_op (t_fa (off := 0) (k := 0) rfl tyF33_0) ⟨rfl, trivial⟩ ?_))))))
  refine r_op (t_l 0 1 rfl rfl rfl rfl (.one tyO4)) ⟨rfl, trivial⟩ ?_
  refine r_as ?_
  refine r_nil (r_next (r_if rfl (fun h2 => ?_) (fun h2 => ?_)))
  · have hF := cnd_t h2 hF
    refine r_seq (r_reg (r_op (t_mv (.inr rfl)) ⟨k_I _ _, trivial⟩ ?_))
    refine r_nil (r_next (r_ret (r_toR ?_)))
    obtain rfl := sm1 hF
    exact r_done1 (.inl rfl) Tryz.results89 (.tmp rfl .nil) rfl rfl
  have hF := cnd_f h2 hF
  refine r_seq (r_reg (r_op (t_fa (off := 0) (k := 1) rfl tyF33_1) ⟨rfl, trivial⟩ ?_))
  refine r_op (t_l 0 1 rfl rfl rfl rfl (.one tyO22)) ⟨rfl, trivial⟩ ?_
  refine r_op (t_ln rfl tyS22) ⟨rfl, trivial⟩ ?_
  refine r_op (t_eq rfl) ⟨rfl, k_I _ _, trivial⟩ ?_
  refine r_as ?_
  refine r_nil (r_next (r_if rfl (fun h3 => ?_) (fun h3 => ?_)))
  · have hF := cnd_t h3 hF
    refine r_seq (r_reg (r_op (t_mv (.inr rfl)) ⟨k_I _ _, trivial⟩ ?_))
    refine r_nil (r_next (r_ret (r_toR ?_)))
    obtain rfl := sm1 hF
    exact r_done1 (.inl rfl) Tryz.results89 (.tmp rfl .nil) rfl rfl
  have hF := cnd_f h3 hF
  refine r_skip (r_blkN (r_next (r_seq (r_reg (r_op (t_mv (.inr rfl)) ⟨k_I _ _, trivial⟩ ?_)))))
  refine r_nil (r_next (r_ret (r_toR ?_)))
  obtain rfl := sm1 hF
  exact r_done1 (.inl rfl) Tryz.results89 (.tmp rfl .nil) rfl rfl
def F_gantryref04_Mul_j32 (K : Nat) (a0 : GInt) (a1 : GInt) (x25 : List Int) : Option GInt :=
  (F_gantryref04_normal K (a0.neg != a1.neg) x25).bind fun v33 => some v33
def F_gantryref04_Mul_j60 (K : Nat) (a1 : GInt) (x24 : Int) (recl31 : (List Int) → Int → Option (List Int)) (x52 : List Int) (x58 : Int) : Option (List Int) :=
  (chk (x24 + (a1.d.length : Int))).bind fun v61 => (rdL x52 v61).bind fun v63 => (stL x52 v61 x58).bind fun x65 => (chk (x24 + 1)).bind fun v68 => recl31 x65 v68
def F_gantryref04_Mul_l59 (K : Nat) (a0 : GInt) (a1 : GInt) (x24 : Int) : Nat → (List Int) → Int → Int → Option ((List Int) × Int)
  | 0, _, _, _ => none
  | k + 1, x44, x50, x51 => bif (decide (x51 < (a1.d.length : Int))) then ((chk (x24 + x51)).bind fun v73 => (rdL x44 v73).bind fun v75 => (rdL a0.d x24).bind fun v77 => (rdL a1.d x51).bind fun v79 => (chk (v77 * v79)).bind fun v81 => (chk (v75 + v81)).bind fun v83 => (chk (v83 + x50)).bind fun v85 => (chk (x24 + x51)).bind fun v87 => (chr v85 1000000000).bind fun v89 => (rdL x44 v87).bind fun v91 => (stL x44 v87 v89).bind fun x93 => (chq v85 1000000000).bind fun v96 => (chk (x51 + 1)).bind fun v98 => F_gantryref04_Mul_l59 K a0 a1 x24 k x93 v96 v98) else (some (x44, x50))
def F_gantryref04_Mul_l31 (K : Nat) (a0 : GInt) (a1 : GInt) : Nat → (List Int) → Int → Option (List Int)
  | 0, _, _ => none
  | k + 1, x18, x24 => bif (decide (x24 < (a0.d.length : Int))) then ((F_gantryref04_Mul_l59 K a0 a1 x24 K x18 0 0).bind fun (x52, x58) => F_gantryref04_Mul_j60 K a1 x24 (F_gantryref04_Mul_l31 K a0 a1 k) x52 x58) else (some x18)
def F_gantryref04_Mul (K : Nat) (a0 : GInt) (a1 : GInt) : Option GInt :=
  (chk ((a0.d.length : Int) + (a1.d.length : Int))).bind fun v4 => (mkL v4 0).bind fun x6 => (F_gantryref04_Mul_l31 K a0 a1 K x6 0).bind fun x25 => F_gantryref04_Mul_j32 K a0 a1 x25
theorem ct_gantryref04_Mul {K : Nat} {a0 : GInt} {a1 : GInt} {r : GInt} (hF : F_gantryref04_Mul K a0 a1 = some r) : Ct Tryz.prog 115 [.va (GInt.e a0), .va (GInt.e a1)] (.va (GInt.e r)) := by
  unfold F_gantryref04_Mul at hF
  refine ctO_intro Tryz.func115 rfl (by kernel_rfl) Tryz.ntmps115 rfl (fun w0 M0 => ?_)
  refine r_seq (r_reg (r_box rfl rfl trivial (fun b1 => ?_)))
  refine r_box rfl rfl trivial (fun b2 => ?_)
  refine r_alloc rfl tyZ33 (fun b3 => ?_)
  refine r_nil (r_next (r_seq (r_reg (r_op (t_fa (off := 0) (k := 1) rfl tyF33_1) ⟨rfl, trivial⟩ ?_))))
  refine r_op (t_l 2 1 rfl rfl rfl rfl (.one tyO22)) ⟨rfl, trivial⟩ ?_
  refine r_op (t_ln rfl tyS22) ⟨rfl, trivial⟩ ?_
  refine r_op (t_fa (off := 0) (k := 1) rfl tyF33_1) ⟨rfl, trivial⟩ ?_
  refine r_op (t_l 1 1 rfl rfl rfl rfl (.one tyO22)) ⟨rfl, trivial⟩ ?_
  refine r_op (t_ln rfl tyS22) ⟨rfl, trivial⟩ ?_
  obtain ⟨v4, h5, hF⟩ := bnd hF
  refine r_op (t_add rfl h5) ⟨rfl, rfl, trivial⟩ ?_
  obtain ⟨x6, h7, hF⟩ := bnd hF
  refine r_make (C := cI) rfl tyS22 rfl tyZ3 rfl h7 (fun b8 => ?_)
  refine r_as ?_
  refine r_nil (r_next (r_seq (r_seq (r_reg (r_op (t_mv (.inr rfl)) ⟨k_I _ _, trivial⟩ ?_)))))
  refine r_nil (r_next (r_blk (r_cutN (fun H E => ∃ (x25 : List Int), F_gantryref04_Mul_j32 K a0 a1 x25 = some r ∧ x25.length = x6.length ∧ H = [hO cI b8 x6.length 3 x6.length x25, ⟨some b3, 1, 33, 2, 1, ([pB false] ++ [pS cI ([] : List Int)])⟩, ⟨some b2, 1, 33, 2, 1, (GInt.e a1)⟩, ⟨some b1, 1, 33, 2, 1, (GInt.e a0)⟩] ∧ E = [(2, .vc (pP (some b1) 0)), (3, .vc (pP (some b2) 0)), (4, .vc (pP (some b3) 0)), (5, .vc (pO b8 x6.length x6.length))]) ?_ (fun Jj32 => ?_))))
  · rintro _ _ ⟨x25, hF, q29, rfl, rfl⟩
    unfold F_gantryref04_Mul_j32 at hF
    refine r_next (r_seq (r_reg (r_op (t_fa (off := 0) (k := 0) rfl tyF33_0) ⟨rfl, trivial⟩ ?_)))
    refine r_op (t_l 3 1 rfl rfl rfl rfl (.one tyO4)) ⟨rfl, trivial⟩ ?_
    refine r_op (t_fa (off := 0) (k := 0) rfl tyF33_0) ⟨rfl, trivial⟩ ?_
    refine r_op (t_l 2 1 rfl rfl rfl rfl (.one tyO4)) ⟨rfl, trivial⟩ ?_
    refine r_op (t_neB rfl Tryz.underlying4) ⟨rfl, rfl, trivial⟩ ?_
    refine r_mv ?_
    refine r_fzL 0 [5, 74] rfl q29 ⟨rfl, rfl, trivial⟩ rfl ?_
    obtain ⟨v33, h34, hF⟩ := bnd hF
    refine r_op (t_call rfl (ct_gantryref04_normal h34) rfl) ⟨rfl, rfl, trivial⟩ ?_
    refine r_op0 (t_s 0 rfl rfl rfl tyA33.s) ⟨rfl, rfl, trivial⟩ ?_
    refine r_nil (r_next (r_ret (r_toR ?_)))
    obtain rfl := sm1 hF
    exact r_done1 (.inl rfl) Tryz.results115 (rv_cell 0 2 rfl rfl rfl rfl (.agg tyA33) .nil) rfl rfl
  obtain ⟨x25', hL, hRl31⟩ := bnd hF
  refine r_lp (fun k a w => ∃ (x18 : List Int), ∃ (x24 : Int), F_gantryref04_Mul_l31 K a0 a1 k x18 x24 = some x25' ∧ x18.length = x6.length ∧ hs _ [hO cI b8 x6.length 3 x6.length x18, ⟨some b3, 1, 33, 2, 1, ([pB false] ++ [pS cI ([] : List Int)])⟩, ⟨some b2, 1, 33, 2, 1, (GInt.e a1)⟩, ⟨some b1, 1, 33, 2, 1, (GInt.e a0)⟩] [(2, .vc (pP (some b1) 0)), (3, .vc (pP (some b2) 0)), (4, .vc (pP (some b3) 0)), (5, .vc (pO b8 x6.length x6.length)), (6, .vc (pI .i64 x24))] a w) K (fun a w ⟨_, _, hF, _, _⟩ => by cases hF) (fun k a w ⟨x18, x24, hF, q22, hh⟩ => r_at ?_ hh) (fun a w hh => ⟨x6, 0, hL, rfl, hs_back [0, 1, 2, 3] rfl (by decide) (by exact ⟨rfl, rfl, rfl, rfl, rfl, trivial⟩) hh⟩)
  rw [F_gantryref04_Mul_l31.eq_2] at hF
  refine r_seq (r_seq (r_reg (r_mv ?_)))
  refine r_op (t_fa (off := 0) (k := 1) rfl tyF33_1) ⟨rfl, trivial⟩ ?_
  refine r_op (t_l 3 1 rfl rfl rfl rfl (.one tyO22)) ⟨rfl, trivial⟩ ?_
  refine r_op (t_ln rfl tyS22) ⟨rfl, trivial⟩ ?_
  refine r_op (t_lt rfl) ⟨rfl, rfl, trivial⟩ ?_
  refine r_nil (r_next (r_if rfl (fun h35 => ?_) (fun h35 => ?_)))
  · have hF := cnd_t h35 hF
    refine r_skip (r_next (r_seq (r_blk (r_seq (r_reg (r_op (t_mv (.inr rfl)) ⟨k_I _ _, trivial⟩ ?_))))))
    refine r_nil (r_next (r_seq (r_seq (r_reg (r_op (t_mv (.inr rfl)) ⟨k_I _ _, trivial⟩ ?_)))))
    refine r_nil (r_next (r_blk (r_cutN (fun H E => ∃ (x52 : List Int), ∃ (x58 : Int), F_gantryref04_Mul_j60 K a1 x24 (F_gantryref04_Mul_l31 K a0 a1 k) x52 x58 = some x25' ∧ x52.length = x6.length ∧ H = [hO cI b8 x6.length 3 x6.length x52, ⟨some b3, 1, 33, 2, 1, ([pB false] ++ [pS cI ([] : List Int)])⟩, ⟨some b2, 1, 33, 2, 1, (GInt.e a1)⟩, ⟨some b1, 1, 33, 2, 1, (GInt.e a0)⟩] ∧ E = [(2, .vc (pP (some b1) 0)), (3, .vc (pP (some b2) 0)), (4, .vc (pP (some b3) 0)), (5, .vc (pO b8 x6.length x6.length)), (6, .vc (pI .i64 x24)), (7, .vc (pI .i64 x58))]) ?_ (fun Jj60 => ?_))))
    · rintro _ _ ⟨x52, x58, hF, q56, rfl, rfl⟩
      unfold F_gantryref04_Mul_j60 at hF
      refine r_next (r_reg (r_mv ?_))
      refine r_mv ?_
      refine r_op (t_fa (off := 0) (k := 1) rfl tyF33_1) ⟨rfl, trivial⟩ ?_
      refine r_op (t_l 2 1 rfl rfl rfl rfl (.one tyO22)) ⟨rfl, trivial⟩ ?_
      refine r_op (t_ln rfl tyS22) ⟨rfl, trivial⟩ ?_
      obtain ⟨v61, h62, hF⟩ := bnd hF
      refine r_op (t_add rfl h62) ⟨rfl, rfl, trivial⟩ ?_
      refine r_mv ?_
      obtain ⟨v63, h64, hF⟩ := bnd hF
      refine r_op (t_ixE (C := cI) 0 rfl tyS22 rfl q56 (rdL_some h64).1 (rdL_some h64).2.1) ⟨rfl, rfl, trivial⟩ ?_
      obtain ⟨x65, h66, hF⟩ := bnd hF
      refine r_op0 (t_stE 0 rfl rfl h64 h66 tyO3.s) ⟨rfl, rfl, trivial⟩ ?_
      refine r_nil (r_blkN (r_next (r_reg (r_mv ?_))))
      obtain ⟨v68, h69, hF⟩ := bnd hF
      refine r_op (t_add rfl h69) ⟨rfl, k_I _ _, trivial⟩ ?_
      refine r_as ?_
      refine r_nil ?_
      exact r_round (fun a w hh => ⟨x65, v68, hF, (stL_len h66 q56), hs_back [0, 1, 2, 3] rfl (by decide) (by exact ⟨rfl, rfl, rfl, rfl, rfl, trivial⟩) hh⟩)
    obtain ⟨⟨x52', x58'⟩, hL, hRl59⟩ := bnd hF
    refine r_lp (fun k a w => ∃ (x44 : List Int), ∃ (x50 : Int), ∃ (x51 : Int), F_gantryref04_Mul_l59 K a0 a1 x24 k x44 x50 x51 = some (x52', x58') ∧ x44.length = x6.length ∧ hs _ [hO cI b8 x6.length 3 x6.length x44, ⟨some b3, 1, 33, 2, 1, ([pB false] ++ [pS cI ([] : List Int)])⟩, ⟨some b2, 1, 33, 2, 1, (GInt.e a1)⟩, ⟨some b1, 1, 33, 2, 1, (GInt.e a0)⟩] [(2, .vc (pP (some b1) 0)), (3, .vc (pP (some b2) 0)), (4, .vc (pP (some b3) 0)), (5, .vc (pO b8 x6.length x6.length)), (6, .vc (pI .i64 x24)), (7, .vc (pI .i64 x50)), (8, .vc (pI .i64 x51))] a w) K (fun a w ⟨_, _, _, hF, _, _⟩ => by cases hF) (fun k a w ⟨x44, x50, x51, hF, q48, hh⟩ => r_at ?_ hh) (fun a w hh => ⟨x18, 0, 0, hL, q22, hs_back [0, 1, 2, 3] rfl (by decide) (by exact ⟨rfl, rfl, rfl, rfl, rfl, rfl, rfl, trivial⟩) hh⟩)
    rw [F_gantryref04_Mul_l59.eq_2] at hF
    refine r_seq (r_seq (r_reg (r_mv ?_)))
    refine r_op (t_fa (off := 0) (k := 1) rfl tyF33_1) ⟨rfl, trivial⟩ ?_
    refine r_op (t_l 2 1 rfl rfl rfl rfl (.one tyO22)) ⟨rfl, trivial⟩ ?_
    refine r_op (t_ln rfl tyS22) ⟨rfl, trivial⟩ ?_
    refine r_op (t_lt rfl) ⟨rfl, rfl, trivial⟩ ?_
    refine r_nil (r_next (r_if rfl (fun h70 => ?_) (fun h70 => ?_)))
    · have hF := cnd_t h70 hF
      refine r_skip (r_next (r_seq (r_blk (r_seq ?_))))
      obtain ⟨v73, h74, hF⟩ := bnd hF
      obtain ⟨v75, h76, hF⟩ := bnd hF
      obtain ⟨v77, h78, hF⟩ := bnd hF
      obtain ⟨v79, h80, hF⟩ := bnd hF
      obtain ⟨v81, h82, hF⟩ := bnd hF
      obtain ⟨v83, h84, hF⟩ := bnd hF
      obtain ⟨v85, h86, hF⟩ := bnd hF
      refine r_draw [0, 0, 0, 6, 15, 31, 0, 64, 0, 448, 960, 0, 2048, 0, 14336, 30720, 65472, 131071, 0, 524287, 1048575] 21 0 [.v (.vc (pO b8 x6.length x6.length)), .v (.vc (pI .i64 x24)), .v (.vc (pI .i64 x51)), .v (.vc (pI .i64 v73)), .v (.vc (pE b8 v73 cI.n 0)), .v (.vc (pI .i64 v75)), .v (.vc (pP (some b1) 1)), .v (.vc (pS cI a0.d)), .v (.vc (pI .i64 x24)), .v (.vc (pM (cI.e v77))), .v (.vc (pI .i64 v77)), .v (.vc (pP (some b2) 1)), .v (.vc (pS cI a1.d)), .v (.vc (pI .i64 x51)), .v (.vc (pM (cI.e v79))), .v (.vc (pI .i64 v79)), .v (.vc (pI .i64 v81)), .v (.vc (pI .i64 v83)), .v (.vc (pI .i64 x50)), .v (.vc (pI .i64 v85)), .v (.vc (pI .i64 v85))] Tryz_mixed ⟨d0 (t_mv (.inl rfl)) ⟨rfl, trivial⟩, d0 (t_mv (.inl rfl)) ⟨rfl, trivial⟩, d0 (t_mv (.inl rfl)) ⟨rfl, trivial⟩, d0 (t_add rfl h74) ⟨rfl, rfl, trivial⟩, d0 (t_ixE (C := cI) 0 rfl tyS22 rfl q48 (rdL_some h76).1 (rdL_some h76).2.1) ⟨rfl, rfl, trivial⟩, d0 (t_ldE (k := 1) 0 rfl rfl h76 rfl (.one tyO3) rfl) ⟨rfl, trivial⟩, d0 (t_fa (off := 0) (k := 1) rfl tyF33_1) ⟨rfl, trivial⟩, d0 (t_l 3 1 rfl rfl rfl rfl (.one tyO22)) ⟨rfl, trivial⟩, d0 (t_mv (.inl rfl)) ⟨rfl, trivial⟩, d0 (t_ix rfl tyS22 h78) ⟨rfl, rfl, trivial⟩, d0 (t_lM 1 rfl rfl (.one tyO3)) ⟨rfl, trivial⟩, d0 (t_fa (off := 0) (k := 1) rfl tyF33_1) ⟨rfl, trivial⟩, d0 (t_l 2 1 rfl rfl rfl rfl (.one tyO22)) ⟨rfl, trivial⟩, d0 (t_mv (.inl rfl)) ⟨rfl, trivial⟩, d0 (t_ix rfl tyS22 h80) ⟨rfl, rfl, trivial⟩, d0 (t_lM 1 rfl rfl (.one tyO3)) ⟨rfl, trivial⟩, d0 (t_mul rfl h82) ⟨rfl, rfl, trivial⟩, d0 (t_add rfl h84) ⟨rfl, rfl, trivial⟩, d0 (t_mv (.inl rfl)) ⟨rfl, trivial⟩, d0 (t_add rfl h86) ⟨rfl, rfl, trivial⟩, d0 (t_mv (.inr rfl)) ⟨rfl, trivial⟩, trivial⟩ (fun bs72 G71 => ?_)
      refine r_nil (r_next (r_seq (r_reg (r_mv ?_))))
      refine r_mv ?_
      refine r_mv ?_
      obtain ⟨v87, h88, hF⟩ := bnd hF
      refine r_op (t_add rfl h88) ⟨rfl, rfl, trivial⟩ ?_
      refine r_mv ?_
      obtain ⟨v89, h90, hF⟩ := bnd hF
      refine r_op (t_rem rfl h90) ⟨rfl, k_I _ _, trivial⟩ ?_
      obtain ⟨v91, h92, hF⟩ := bnd hF
      refine r_op (t_ixE (C := cI) 0 rfl tyS22 rfl q48 (rdL_some h92).1 (rdL_some h92).2.1) ⟨rfl, rfl, trivial⟩ ?_
      obtain ⟨x93, h94, hF⟩ := bnd hF
      refine r_op0 (t_stE 0 rfl rfl h92 h94 tyO3.s) ⟨rfl, rfl, trivial⟩ ?_
      refine r_nil (r_next (r_reg (r_mv ?_)))
      obtain ⟨v96, h97, hF⟩ := bnd hF
      refine r_op (t_quo rfl h97) ⟨rfl, k_I _ _, trivial⟩ ?_
      refine r_as ?_
      refine r_nil (r_blkN (r_next (r_reg (r_mv ?_))))
      obtain ⟨v98, h99, hF⟩ := bnd hF
      refine r_op (t_add rfl h99) ⟨rfl, k_I _ _, trivial⟩ ?_
      refine r_as ?_
      refine r_nil ?_
      exact r_round (fun a w hh => ⟨x93, v96, v98, hF, (stL_len h94 q48), hs_back [0, 1, 2, 3] rfl (by decide) (by exact ⟨rfl, rfl, rfl, rfl, rfl, rfl, rfl, trivial⟩) hh⟩)
    have hF := cnd_f h70 hF
    refine r_brk ?_
    obtain ⟨rfl, rfl⟩ := sm2 hF
    exact r_backJ Jj60 ⟨x44, x50, hRl59, q48, rfl, rfl⟩ [0, 1, 2, 3] rfl ⟨rfl, rfl, rfl, rfl, rfl, rfl, trivial⟩
  have hF := cnd_f h35 hF
  refine r_brk ?_
  obtain rfl := sm1 hF
  exact r_backJ Jj32 ⟨x18, hRl31, q22, rfl, rfl⟩ [0, 1, 2, 3] rfl ⟨rfl, rfl, rfl, rfl, trivial⟩
def F_gantryref04_digit (a0 : List Int) (a1 : Int) : Option Int :=
  bif (decide (a1 < (a0.length : Int))) then ((rdL a0 a1).bind fun v2 => some v2) else (some 0)
theorem ct_gantryref04_digit {a0 : List Int} {a1 : Int} {r : Int} (hF : F_gantryref04_digit a0 a1 = some r) : Ct Tryz.prog 167 [.vc (pS cI a0), .vc (pI .i64 a1)] (.vc (pI .i64 r)) := by
  unfold F_gantryref04_digit at hF
  refine ctO_intro Tryz.func167 rfl (by kernel_rfl) Tryz.ntmps167 rfl (fun w0 M0 => ?_)
  refine r_seq (r_reg (r_op (t_mv (.inr rfl)) ⟨k_I _ _, trivial⟩ ?_))
  refine r_nil (r_next (r_seq (r_seq (r_reg (r_mv ?_)))))
  refine r_mv ?_
  refine r_op (t_ln rfl tyS22) ⟨rfl, trivial⟩ ?_
  refine r_op (t_lt rfl) ⟨rfl, rfl, trivial⟩ ?_
  refine r_nil (r_next (r_if rfl (fun h1 => ?_) (fun h1 => ?_)))
  · have hF := cnd_t h1 hF
    refine r_seq (r_reg (r_mv ?_))
    refine r_mv ?_
    obtain ⟨v2, h3, hF⟩ := bnd hF
    refine r_op (t_ix rfl tyS22 h3) ⟨rfl, rfl, trivial⟩ ?_
    refine r_op (t_lM 1 rfl rfl (.one tyO3)) ⟨rfl, trivial⟩ ?_
    refine r_as ?_
    refine r_nil (r_next (r_ret (r_toR ?_)))
    obtain rfl := sm1 hF
    exact r_done1 (.inl rfl) Tryz.results167 (.tmp rfl .nil) rfl rfl
  have hF := cnd_f h1 hF
  refine r_skip (r_next (r_seq (r_reg (r_op (t_mv (.inr rfl)) ⟨k_I _ _, trivial⟩ ?_))))
  refine r_nil (r_next (r_ret (r_toR ?_)))
  obtain rfl := sm1 hF
  exact r_done1 (.inl rfl) Tryz.results167 (.tmp rfl .nil) rfl rfl
def F_gantryref04_plus_j26 (K : Nat) (x19 : List Int) : Option (List Int) :=
  some x19
def F_gantryref04_plus_l25 (K : Nat) (a0 : List Int) (a1 : List Int) : Nat → (List Int) → Int → Int → Option (List Int)
  | 0, _, _, _ => none
  | k + 1, x11, x17, x18 => bif (decide (x18 < (a0.length : Int))) then ((F_gantryref04_digit a0 x18).bind fun v28 => (F_gantryref04_digit a1 x18).bind fun v30 => (chk (v28 + v30)).bind fun v32 => (chk (v32 + x17)).bind fun v34 => (chr v34 1000000000).bind fun v36 => (apL x11 [v36]).bind fun x38 => (chq v34 1000000000).bind fun v45 => (chk (x18 + 1)).bind fun v47 => F_gantryref04_plus_l25 K a0 a1 k x38 v45 v47) else (bif (decide (x18 < (a1.length : Int))) then ((F_gantryref04_digit a0 x18).bind fun v50 => (F_gantryref04_digit a1 x18).bind fun v52 => (chk (v50 + v52)).bind fun v54 => (chk (v54 + x17)).bind fun v56 => (chr v56 1000000000).bind fun v58 => (apL x11 [v58]).bind fun x60 => (chq v56 1000000000).bind fun v67 => (chk (x18 + 1)).bind fun v69 => F_gantryref04_plus_l25 K a0 a1 k x60 v67 v69) else (bif (decide (0 < x17)) then ((F_gantryref04_digit a0 x18).bind fun v72 => (F_gantryref04_digit a1 x18).bind fun v74 => (chk (v72 + v74)).bind fun v76 => (chk (v76 + x17)).bind fun v78 => (chr v78 1000000000).bind fun v80 => (apL x11 [v80]).bind fun x82 => (chq v78 1000000000).bind fun v89 => (chk (x18 + 1)).bind fun v91 => F_gantryref04_plus_l25 K a0 a1 k x82 v89 v91) else (some x11)))
def F_gantryref04_plus (K : Nat) (a0 : List Int) (a1 : List Int) : Option (List Int) :=
  (F_gantryref04_plus_l25 K a0 a1 K ([] : List Int) 0 0).bind fun x19 => F_gantryref04_plus_j26 K x19
theorem ct_gantryref04_plus {K : Nat} {a0 : List Int} {a1 : List Int} {r : List Int} (hF : F_gantryref04_plus K a0 a1 = some r) : Ct Tryz.prog 153 [.vc (pS cI a0), .vc (pS cI a1)] (.vc (pS cI r)) := by
  unfold F_gantryref04_plus at hF
  refine ctO_intro Tryz.func153 rfl (by kernel_rfl) Tryz.ntmps153 rfl (fun w0 M0 => ?_)
  refine r_seq (r_reg (r_op (t_mv (.inr rfl)) ⟨k_nil cI, trivial⟩ ?_))
  refine r_nil (r_next (r_seq (r_reg (r_nilO cI 3 rfl ?_))))
  refine r_nil (r_next (r_seq (r_reg (r_op (t_mv (.inr rfl)) ⟨k_I _ _, trivial⟩ ?_))))
  refine r_nil (r_next (r_seq (r_seq (r_reg (r_op (t_mv (.inr rfl)) ⟨k_I _ _, trivial⟩ ?_)))))
  refine r_nil (r_next (r_blk (r_cutN (fun H E => ∃ (x19 : List Int), ∃ (b20 : Option Nat), ∃ (c21 : Nat), ∃ (n22 : Nat), F_gantryref04_plus_j26 K x19 = some r ∧ x19.length = n22 ∧ H = [hO cI b20 c21 3 n22 x19] ∧ E = [(5, .vc (pO b20 n22 c21))]) ?_ (fun Jj26 => ?_))))
  · rintro _ _ ⟨x19, b20, c21, n22, hF, q23, rfl, rfl⟩
    unfold F_gantryref04_plus_j26 at hF
    refine r_next (r_seq (r_reg (r_mv ?_)))
    refine r_as ?_
    refine r_nil (r_next (r_ret (r_toR (r_fzX 0 [4, 5, 41] rfl q23 ⟨rfl, rfl, rfl, trivial⟩ rfl ?_))))
    obtain rfl := sm1 hF
    exact r_done1 (.inl rfl) Tryz.results153 (.tmp rfl .nil) rfl rfl
  obtain ⟨x19', hL, hRl25⟩ := bnd hF
  refine r_lp (fun k a w => ∃ (x11 : List Int), ∃ (x17 : Int), ∃ (x18 : Int), ∃ (b12 : Option Nat), ∃ (c13 : Nat), ∃ (n14 : Nat), F_gantryref04_plus_l25 K a0 a1 k x11 x17 x18 = some x19' ∧ x11.length = n14 ∧ hs _ [hO cI b12 c13 3 n14 x11] [(0, .vc (pS cI a0)), (1, .vc (pS cI a1)), (5, .vc (pO b12 n14 c13)), (6, .vc (pI .i64 x17)), (7, .vc (pI .i64 x18))] a w) K (fun a w ⟨_, _, _, _, _, _, hF, _, _⟩ => by cases hF) (fun k a w ⟨x11, x17, x18, b12, c13, n14, hF, q15, hh⟩ => r_at ?_ hh) (fun a w hh => ⟨([] : List Int), 0, 0, none, 0, 0, hL, rfl, hs_back [0] rfl (by decide) (by exact ⟨rfl, rfl, rfl, rfl, rfl, trivial⟩) hh⟩)
  rw [F_gantryref04_plus_l25.eq_2] at hF
  refine r_seq (r_seq (r_reg (r_mv ?_)))
  refine r_mv ?_
  refine r_op (t_ln rfl tyS22) ⟨rfl, trivial⟩ ?_
  refine r_op (t_lt rfl) ⟨rfl, rfl, trivial⟩ ?_
  refine r_mv ?_
  refine r_bool (fun h27 => ?_) (fun h27 => ?_)
  · have hF := cnd_t h27 hF
    refine r_opn ?_
    refine r_opn ?_
    refine r_opn ?_
    refine r_opn ?_
    refine r_op (t_pickT rfl) ⟨rfl, k_B _, trivial⟩ ?_
    refine r_mv ?_
    refine r_opn ?_
    refine r_opn ?_
    refine r_op (t_pickT rfl) ⟨rfl, k_B _, trivial⟩ ?_
    refine r_nil (r_next (r_ifT rfl ?_))
    refine r_skip (r_next (r_seq (r_blk (r_seq (r_reg (r_mv ?_))))))
    refine r_mv ?_
    obtain ⟨v28, h29, hF⟩ := bnd hF
    refine r_op (t_call rfl (ct_gantryref04_digit h29) rfl) ⟨rfl, rfl, trivial⟩ ?_
    refine r_mv ?_
    refine r_mv ?_
    obtain ⟨v30, h31, hF⟩ := bnd hF
    refine r_op (t_call rfl (ct_gantryref04_digit h31) rfl) ⟨rfl, rfl, trivial⟩ ?_
    obtain ⟨v32, h33, hF⟩ := bnd hF
    refine r_op (t_add rfl h33) ⟨rfl, rfl, trivial⟩ ?_
    refine r_mv ?_
    obtain ⟨v34, h35, hF⟩ := bnd hF
    refine r_op (t_add rfl h35) ⟨rfl, rfl, trivial⟩ ?_
    refine r_as ?_
    refine r_nil (r_next (r_seq (r_reg (r_mv ?_))))
    refine r_mv ?_
    obtain ⟨v36, h37, hF⟩ := bnd hF
    refine r_op (t_rem rfl h37) ⟨rfl, k_I _ _, trivial⟩ ?_
    refine r_op (t_bs (C := cI) (xs := [.tmp 36]) (ps := [.vc (pI .i64 v36)]) (zs := [v36]) rfl tyS22 rfl ⟨⟨trivial, rfl⟩, trivial⟩ rfl) ⟨rfl, trivial⟩ ?_
    obtain ⟨x38, h39, hF⟩ := bnd hF
    refine r_app 0 rfl tyS22 rfl rfl q15 rfl rfl h39 (fun b40 c41 H42 e43 => ?_)
    cases e43
    refine r_as ?_
    refine r_nil (r_next (r_reg (r_mv ?_)))
    obtain ⟨v45, h46, hF⟩ := bnd hF
    refine r_op (t_quo rfl h46) ⟨rfl, k_I _ _, trivial⟩ ?_
    refine r_as ?_
    refine r_nil (r_blkN (r_next (r_reg (r_mv ?_))))
    obtain ⟨v47, h48, hF⟩ := bnd hF
    refine r_op (t_add rfl h48) ⟨rfl, k_I _ _, trivial⟩ ?_
    refine r_as ?_
    refine r_nil ?_
    exact r_round (fun a w hh => ⟨x38, v45, v47, b40, c41, (n14 + [v36].length), hF, (apL_len h39 q15), hs_back [0] rfl (by decide) (by exact ⟨rfl, rfl, rfl, rfl, rfl, trivial⟩) hh⟩)
  have hF := cnd_f h27 hF
  refine r_opg (t_mv (.inl rfl)) ⟨rfl, trivial⟩ ?_
  refine r_opg (t_mv (.inl rfl)) ⟨rfl, trivial⟩ ?_
  refine r_opg (t_ln rfl tyS22) ⟨rfl, trivial⟩ ?_
  refine r_opg (t_lt rfl) ⟨rfl, rfl, trivial⟩ ?_
  refine r_op (t_pickF rfl) ⟨rfl, rfl, trivial⟩ ?_
  refine r_mv ?_
  refine r_bool (fun h49 => ?_) (fun h49 => ?_)
  · have hF := cnd_t h49 hF
    refine r_opn ?_
    refine r_opn ?_
    refine r_op (t_pickT rfl) ⟨rfl, k_B _, trivial⟩ ?_
    refine r_nil (r_next (r_ifT rfl ?_))
    refine r_skip (r_next (r_seq (r_blk (r_seq (r_reg (r_mv ?_))))))
    refine r_mv ?_
    obtain ⟨v50, h51, hF⟩ := bnd hF
    refine r_op (t_call rfl (ct_gantryref04_digit h51) rfl) ⟨rfl, rfl, trivial⟩ ?_
    refine r_mv ?_
    refine r_mv ?_
    obtain ⟨v52, h53, hF⟩ := bnd hF
    refine r_op (t_call rfl (ct_gantryref04_digit h53) rfl) ⟨rfl, rfl, trivial⟩ ?_
    obtain ⟨v54, h55, hF⟩ := bnd hF
    refine r_op (t_add rfl h55) ⟨rfl, rfl, trivial⟩ ?_
    refine r_mv ?_
    obtain ⟨v56, h57, hF⟩ := bnd hF
    refine r_op (t_add rfl h57) ⟨rfl, rfl, trivial⟩ ?_
    refine r_as ?_
    refine r_nil (r_next (r_seq (r_reg (r_mv ?_))))
    refine r_mv ?_
    obtain ⟨v58, h59, hF⟩ := bnd hF
    refine r_op (t_rem rfl h59) ⟨rfl, k_I _ _, trivial⟩ ?_
    refine r_op (t_bs (C := cI) (xs := [.tmp 36]) (ps := [.vc (pI .i64 v58)]) (zs := [v58]) rfl tyS22 rfl ⟨⟨trivial, rfl⟩, trivial⟩ rfl) ⟨rfl, trivial⟩ ?_
    obtain ⟨x60, h61, hF⟩ := bnd hF
    refine r_app 0 rfl tyS22 rfl rfl q15 rfl rfl h61 (fun b62 c63 H64 e65 => ?_)
    cases e65
    refine r_as ?_
    refine r_nil (r_next (r_reg (r_mv ?_)))
    obtain ⟨v67, h68, hF⟩ := bnd hF
    refine r_op (t_quo rfl h68) ⟨rfl, k_I _ _, trivial⟩ ?_
    refine r_as ?_
    refine r_nil (r_blkN (r_next (r_reg (r_mv ?_))))
    obtain ⟨v69, h70, hF⟩ := bnd hF
    refine r_op (t_add rfl h70) ⟨rfl, k_I _ _, trivial⟩ ?_
    refine r_as ?_
    refine r_nil ?_
    exact r_round (fun a w hh => ⟨x60, v67, v69, b62, c63, (n14 + [v58].length), hF, (apL_len h61 q15), hs_back [0] rfl (by decide) (by exact ⟨rfl, rfl, rfl, rfl, rfl, trivial⟩) hh⟩)
  have hF := cnd_f h49 hF
  refine r_opg (t_mv (.inl rfl)) ⟨rfl, trivial⟩ ?_
  refine r_opg (t_gt rfl) ⟨rfl, k_I _ _, trivial⟩ ?_
  refine r_op (t_pickF rfl) ⟨rfl, rfl, trivial⟩ ?_
  refine r_nil (r_next (r_if rfl (fun h71 => ?_) (fun h71 => ?_)))
  · have hF := cnd_t h71 hF
    refine r_skip (r_next (r_seq (r_blk (r_seq (r_reg (r_mv ?_))))))
    refine r_mv ?_
    obtain ⟨v72, h73, hF⟩ := bnd hF
    refine r_op (t_call rfl (ct_gantryref04_digit h73) rfl) ⟨rfl, rfl, trivial⟩ ?_
    refine r_mv ?_
    refine r_mv ?_
    obtain ⟨v74, h75, hF⟩ := bnd hF
    refine r_op (t_call rfl (ct_gantryref04_digit h75) rfl) ⟨rfl, rfl, trivial⟩ ?_
    obtain ⟨v76, h77, hF⟩ := bnd hF
    refine r_op (t_add rfl h77) ⟨rfl, rfl, trivial⟩ ?_
    refine r_mv ?_
    obtain ⟨v78, h79, hF⟩ := bnd hF
    refine r_op (t_add rfl h79) ⟨rfl, rfl, trivial⟩ ?_
    refine r_as ?_
    refine r_nil (r_next (r_seq (r_reg (r_mv ?_))))
    refine r_mv ?_
    obtain ⟨v80, h81, hF⟩ := bnd hF
    refine r_op (t_rem rfl h81) ⟨rfl, k_I _ _, trivial⟩ ?_
    refine r_op (t_bs (C := cI) (xs := [.tmp 36]) (ps := [.vc (pI .i64 v80)]) (zs := [v80]) rfl tyS22 rfl ⟨⟨trivial, rfl⟩, trivial⟩ rfl) ⟨rfl, trivial⟩ ?_
    obtain ⟨x82, h83, hF⟩ := bnd hF
    refine r_app 0 rfl tyS22 rfl rfl q15 rfl rfl h83 (fun b84 c85 H86 e87 => ?_)
    cases e87
    refine r_as ?_
    refine r_nil (r_next (r_reg (r_mv ?_)))
    obtain ⟨v89, h90, hF⟩ := bnd hF
    refine r_op (t_quo rfl h90) ⟨rfl, k_I _ _, trivial⟩ ?_
    refine r_as ?_
    refine r_nil (r_blkN (r_next (r_reg (r_mv ?_))))
    obtain ⟨v91, h92, hF⟩ := bnd hF
    refine r_op (t_add rfl h92) ⟨rfl, k_I _ _, trivial⟩ ?_
    refine r_as ?_
    refine r_nil ?_
    exact r_round (fun a w hh => ⟨x82, v89, v91, b84, c85, (n14 + [v80].length), hF, (apL_len h83 q15), hs_back [0] rfl (by decide) (by exact ⟨rfl, rfl, rfl, rfl, rfl, trivial⟩) hh⟩)
  have hF := cnd_f h71 hF
  refine r_brk ?_
  obtain rfl := sm1 hF
  exact r_backJ Jj26 ⟨x11, b12, c13, n14, hRl25, q15, rfl, rfl⟩ [0] rfl ⟨rfl, trivial⟩
def F_gantryref04_compared_j8 (K : Nat) : Option Int :=
  some 0
def F_gantryref04_compared_l7 (K : Nat) (a0 : List Int) (a1 : List Int) : Nat → Int → Option (LR Int Unit)
  | 0, _ => none
  | k + 1, x6 => bif (decide (0 ≤ x6)) then ((rdL a0 x6).bind fun v12 => (rdL a1 x6).bind fun v14 => bif (decide (v12 < v14)) then (some (.ret (-1))) else ((rdL a0 x6).bind fun v19 => (rdL a1 x6).bind fun v21 => bif (decide (v21 < v19)) then (some (.ret 1)) else ((chk (x6 - 1)).bind fun v24 => F_gantryref04_compared_l7 K a0 a1 k v24))) else (some (.go ()))
def F_gantryref04_compared (K : Nat) (a0 : List Int) (a1 : List Int) : Option Int :=
  bif (decide ((a0.length : Int) < (a1.length : Int))) then (some (-1)) else (bif (decide ((a1.length : Int) < (a0.length : Int))) then (some 1) else ((chk ((a0.length : Int) - 1)).bind fun v3 => (F_gantryref04_compared_l7 K a0 a1 K v3).bind fun o => match o with | .ret r => some r | .go _ => F_gantryref04_compared_j8 K ))
theorem ct_gantryref04_compared {K : Nat} {a0 : List Int} {a1 : List Int} {r : Int} (hF : F_gantryref04_compared K a0 a1 = some r) : Ct Tryz.prog 154 [.vc (pS cI a0), .vc (pS cI a1)] (.vc (pI .i64 r)) := by
  unfold F_gantryref04_compared at hF
  refine ctO_intro Tryz.func154 rfl (by kernel_rfl) Tryz.ntmps154 rfl (fun w0 M0 => ?_)
  refine r_seq (r_reg (r_op (t_mv (.inr rfl)) ⟨k_I _ _, trivial⟩ ?_))
  refine r_nil (r_next (r_seq (r_seq (r_reg (r_mv ?_)))))
  refine r_op (t_ln rfl tyS22) ⟨rfl, trivial⟩ ?_
  refine r_mv ?_
  refine r_op (t_ln rfl tyS22) ⟨rfl, trivial⟩ ?_
  refine r_op (t_lt rfl) ⟨rfl, rfl, trivial⟩ ?_
  refine r_nil (r_next (r_if rfl (fun h1 => ?_) (fun h1 => ?_)))
  · have hF := cnd_t h1 hF
    refine r_seq (r_reg (r_op (t_mv (.inr rfl)) ⟨k_I _ _, trivial⟩ ?_))
    refine r_nil (r_next (r_ret (r_toR ?_)))
    obtain rfl := sm1 hF
    exact r_done1 (.inl rfl) Tryz.results154 (.tmp rfl .nil) rfl rfl
  have hF := cnd_f h1 hF
  refine r_skip (r_next (r_seq (r_seq (r_reg (r_mv ?_)))))
  refine r_op (t_ln rfl tyS22) ⟨rfl, trivial⟩ ?_
  refine r_mv ?_
  refine r_op (t_ln rfl tyS22) ⟨rfl, trivial⟩ ?_
  refine r_op (t_gt rfl) ⟨rfl, rfl, trivial⟩ ?_
  refine r_nil (r_next (r_if rfl (fun h2 => ?_) (fun h2 => ?_)))
  · have hF := cnd_t h2 hF
    refine r_seq (r_reg (r_op (t_mv (.inr rfl)) ⟨k_I _ _, trivial⟩ ?_))
    refine r_nil (r_next (r_ret (r_toR ?_)))
    obtain rfl := sm1 hF
    exact r_done1 (.inl rfl) Tryz.results154 (.tmp rfl .nil) rfl rfl
  have hF := cnd_f h2 hF
  refine r_skip (r_next (r_seq (r_seq (r_reg (r_mv ?_)))))
  refine r_op (t_ln rfl tyS22) ⟨rfl, trivial⟩ ?_
  obtain ⟨v3, h4, hF⟩ := bnd hF
  refine r_op (t_sub rfl h4) ⟨rfl, k_I _ _, trivial⟩ ?_
  refine r_as ?_
  refine r_nil (r_next (r_blk (r_cutN (fun H E => F_gantryref04_compared_j8 K = some r ∧ H = [] ∧ E = []) ?_ (fun Jj8 => ?_))))
  · rintro _ _ ⟨hF, rfl, rfl⟩
    unfold F_gantryref04_compared_j8 at hF
    refine r_next (r_seq (r_reg (r_op (t_mv (.inr rfl)) ⟨k_I _ _, trivial⟩ ?_)))
    refine r_nil (r_next (r_ret (r_toR ?_)))
    obtain rfl := sm1 hF
    exact r_done1 (.inl rfl) Tryz.results154 (.tmp rfl .nil) rfl rfl
  obtain ⟨ol7, hL, hRl7⟩ := bnd hF
  refine r_lp (fun k a w => ∃ (x6 : Int), F_gantryref04_compared_l7 K a0 a1 k x6 = some ol7 ∧ hs _ [] [(0, .vc (pS cI a0)), (1, .vc (pS cI a1)), (5, .vc (pI .i64 x6))] a w) K (fun a w ⟨_, hF, _⟩ => by cases hF) (fun k a w ⟨x6, hF, hh⟩ => r_at ?_ hh) (fun a w hh => ⟨v3, hL, hs_back [] rfl (by decide) (by exact ⟨rfl, rfl, rfl, trivial⟩) hh⟩)
  rw [F_gantryref04_compared_l7.eq_2] at hF
  refine r_seq (r_seq (r_reg (r_mv ?_)))
  refine r_op (t_ge rfl) ⟨rfl, k_I _ _, trivial⟩ ?_
  refine r_nil (r_next (r_if rfl (fun h9 => ?_) (fun h9 => ?_)))
  · have hF := cnd_t h9 hF
    refine r_skip (r_next (r_seq (r_blk (r_seq (r_seq ?_)))))
    obtain ⟨v12, h13, hF⟩ := bnd hF
    obtain ⟨v14, h15, hF⟩ := bnd hF
    refine r_draw [0, 0, 3, 7, 0, 0, 48, 112, 255] 9 0 [.v (.vc (pS cI a0)), .v (.vc (pI .i64 x6)), .v (.vc (pM (cI.e v12))), .v (.vc (pI .i64 v12)), .v (.vc (pS cI a1)), .v (.vc (pI .i64 x6)), .v (.vc (pM (cI.e v14))), .v (.vc (pI .i64 v14)), .v (.vc (pB (decide (v12 < v14))))] Tryz_mixed ⟨d0 (t_mv (.inl rfl)) ⟨rfl, trivial⟩, d0 (t_mv (.inl rfl)) ⟨rfl, trivial⟩, d0 (t_ix rfl tyS22 h13) ⟨rfl, rfl, trivial⟩, d0 (t_lM 1 rfl rfl (.one tyO3)) ⟨rfl, trivial⟩, d0 (t_mv (.inl rfl)) ⟨rfl, trivial⟩, d0 (t_mv (.inl rfl)) ⟨rfl, trivial⟩, d0 (t_ix rfl tyS22 h15) ⟨rfl, rfl, trivial⟩, d0 (t_lM 1 rfl rfl (.one tyO3)) ⟨rfl, trivial⟩, d0 (t_lt rfl) ⟨rfl, rfl, trivial⟩, trivial⟩ (fun bs11 G10 => ?_)
    refine r_nil (r_next (r_if rfl (fun h16 => ?_) (fun h16 => ?_)))
    · have hF := cnd_t h16 hF
      refine r_seq (r_reg (r_op (t_mv (.inr rfl)) ⟨k_I _ _, trivial⟩ ?_))
      refine r_nil (r_next (r_ret (r_toR ?_)))
      obtain rfl := sm1 hF
      obtain rfl := sm1 hRl7
      exact r_done1 (.inl rfl) Tryz.results154 (.tmp rfl .nil) rfl rfl
    have hF := cnd_f h16 hF
    refine r_skip (r_next (r_seq ?_))
    obtain ⟨v19, h20, hF⟩ := bnd hF
    obtain ⟨v21, h22, hF⟩ := bnd hF
    refine r_draw [0, 0, 3, 7, 0, 0, 48, 112, 255] 9 0 [.v (.vc (pS cI a0)), .v (.vc (pI .i64 x6)), .v (.vc (pM (cI.e v19))), .v (.vc (pI .i64 v19)), .v (.vc (pS cI a1)), .v (.vc (pI .i64 x6)), .v (.vc (pM (cI.e v21))), .v (.vc (pI .i64 v21)), .v (.vc (pB (decide (v21 < v19))))] Tryz_mixed ⟨d0 (t_mv (.inl rfl)) ⟨rfl, trivial⟩, d0 (t_mv (.inl rfl)) ⟨rfl, trivial⟩, d0 (t_ix rfl tyS22 h20) ⟨rfl, rfl, trivial⟩, d0 (t_lM 1 rfl rfl (.one tyO3)) ⟨rfl, trivial⟩, d0 (t_mv (.inl rfl)) ⟨rfl, trivial⟩, d0 (t_mv (.inl rfl)) ⟨rfl, trivial⟩, d0 (t_ix rfl tyS22 h22) ⟨rfl, rfl, trivial⟩, d0 (t_lM 1 rfl rfl (.one tyO3)) ⟨rfl, trivial⟩, d0 (t_gt rfl) ⟨rfl, rfl, trivial⟩, trivial⟩ (fun bs18 G17 => ?_)
    refine r_nil (r_next (r_if rfl (fun h23 => ?_) (fun h23 => ?_)))
    · have hF := cnd_t h23 hF
      refine r_seq (r_reg (r_op (t_mv (.inr rfl)) ⟨k_I _ _, trivial⟩ ?_))
      refine r_nil (r_next (r_ret (r_toR ?_)))
      obtain rfl := sm1 hF
      obtain rfl := sm1 hRl7
      exact r_done1 (.inl rfl) Tryz.results154 (.tmp rfl .nil) rfl rfl
    have hF := cnd_f h23 hF
    refine r_skip (r_blkN (r_next (r_reg (r_mv ?_))))
    obtain ⟨v24, h25, hF⟩ := bnd hF
    refine r_op (t_sub rfl h25) ⟨rfl, k_I _ _, trivial⟩ ?_
    refine r_as ?_
    refine r_nil ?_
    exact r_round (fun a w hh => ⟨v24, hF, hs_back [] rfl (by decide) (by exact ⟨rfl, rfl, rfl, trivial⟩) hh⟩)
  have hF := cnd_f h9 hF
  refine r_brk ?_
  obtain rfl := sm1 hF
  exact r_backJ Jj8 ⟨hRl7, rfl, rfl⟩ [] rfl trivial
def F_gantryref04_minus_j26 (K : Nat) (x19 : List Int) : Option (List Int) :=
  some x19
def F_gantryref04_minus_l25 (K : Nat) (a0 : List Int) (a1 : List Int) : Nat → (List Int) → Int → Int → Option (List Int)
  | 0, _, _, _ => none
  | k + 1, x11, x17, x18 => bif (decide (x18 < (a0.length : Int))) then ((rdL a0 x18).bind fun v30 => (F_gantryref04_digit a1 x18).bind fun v32 => (chk (v30 - v32)).bind fun v34 => (chk (v34 - x17)).bind fun v36 => bif (decide (v36 < 0)) then ((chk (v36 + 1000000000)).bind fun v39 => (apL x11 [v39]).bind fun x41 => (chk (x18 + 1)).bind fun v48 => F_gantryref04_minus_l25 K a0 a1 k x41 1 v48) else ((apL x11 [v36]).bind fun x50 => (chk (x18 + 1)).bind fun v57 => F_gantryref04_minus_l25 K a0 a1 k x50 0 v57)) else (some x11)
def F_gantryref04_minus (K : Nat) (a0 : List Int) (a1 : List Int) : Option (List Int) :=
  (F_gantryref04_minus_l25 K a0 a1 K ([] : List Int) 0 0).bind fun x19 => F_gantryref04_minus_j26 K x19
theorem ct_gantryref04_minus {K : Nat} {a0 : List Int} {a1 : List Int} {r : List Int} (hF : F_gantryref04_minus K a0 a1 = some r) : Ct Tryz.prog 155 [.vc (pS cI a0), .vc (pS cI a1)] (.vc (pS cI r)) := by
  unfold F_gantryref04_minus at hF
  refine ctO_intro Tryz.func155 rfl (by kernel_rfl) Tryz.ntmps155 rfl (fun w0 M0 => ?_)
  refine r_seq (r_reg (r_op (t_mv (.inr rfl)) ⟨k_nil cI, trivial⟩ ?_))
  refine r_nil (r_next (r_seq (r_reg (r_nilO cI 3 rfl ?_))))
  refine r_nil (r_next (r_seq (r_reg (r_op (t_mv (.inr rfl)) ⟨k_I _ _, trivial⟩ ?_))))
  refine r_nil (r_next (r_seq (r_seq (r_reg (r_op (t_mv (.inr rfl)) ⟨k_I _ _, trivial⟩ ?_)))))
  refine r_nil (r_next (r_blk (r_cutN (fun H E => ∃ (x19 : List Int), ∃ (b20 : Option Nat), ∃ (c21 : Nat), ∃ (n22 : Nat), F_gantryref04_minus_j26 K x19 = some r ∧ x19.length = n22 ∧ H = [hO cI b20 c21 3 n22 x19] ∧ E = [(5, .vc (pO b20 n22 c21))]) ?_ (fun Jj26 => ?_))))
  · rintro _ _ ⟨x19, b20, c21, n22, hF, q23, rfl, rfl⟩
    unfold F_gantryref04_minus_j26 at hF
    refine r_next (r_seq (r_reg (r_mv ?_)))
    refine r_as ?_
    refine r_nil (r_next (r_ret (r_toR (r_fzX 0 [4, 5, 33] rfl q23 ⟨rfl, rfl, rfl, trivial⟩ rfl ?_))))
    obtain rfl := sm1 hF
    exact r_done1 (.inl rfl) Tryz.results155 (.tmp rfl .nil) rfl rfl
  obtain ⟨x19', hL, hRl25⟩ := bnd hF
  refine r_lp (fun k a w => ∃ (x11 : List Int), ∃ (x17 : Int), ∃ (x18 : Int), ∃ (b12 : Option Nat), ∃ (c13 : Nat), ∃ (n14 : Nat), F_gantryref04_minus_l25 K a0 a1 k x11 x17 x18 = some x19' ∧ x11.length = n14 ∧ hs _ [hO cI b12 c13 3 n14 x11] [(0, .vc (pS cI a0)), (1, .vc (pS cI a1)), (5, .vc (pO b12 n14 c13)), (6, .vc (pI .i64 x17)), (7, .vc (pI .i64 x18))] a w) K (fun a w ⟨_, _, _, _, _, _, hF, _, _⟩ => by cases hF) (fun k a w ⟨x11, x17, x18, b12, c13, n14, hF, q15, hh⟩ => r_at ?_ hh) (fun a w hh => ⟨([] : List Int), 0, 0, none, 0, 0, hL, rfl, hs_back [0] rfl (by decide) (by exact ⟨rfl, rfl, rfl, rfl, rfl, trivial⟩) hh⟩)
  rw [F_gantryref04_minus_l25.eq_2] at hF
  refine r_seq (r_seq (r_reg (r_mv ?_)))
  refine r_mv ?_
  refine r_op (t_ln rfl tyS22) ⟨rfl, trivial⟩ ?_
  refine r_op (t_lt rfl) ⟨rfl, rfl, trivial⟩ ?_
  refine r_nil (r_next (r_if rfl (fun h27 => ?_) (fun h27 => ?_)))
  · have hF := cnd_t h27 hF
    refine r_skip (r_next (r_seq (r_blk (r_seq ?_))))
    obtain ⟨v30, h31, hF⟩ := bnd hF
    obtain ⟨v32, h33, hF⟩ := bnd hF
    obtain ⟨v34, h35, hF⟩ := bnd hF
    obtain ⟨v36, h37, hF⟩ := bnd hF
    refine r_draw [0, 0, 3, 7, 0, 0, 48, 127, 0, 511, 1023] 11 0 [.v (.vc (pS cI a0)), .v (.vc (pI .i64 x18)), .v (.vc (pM (cI.e v30))), .v (.vc (pI .i64 v30)), .v (.vc (pS cI a1)), .v (.vc (pI .i64 x18)), .v (.vc (pI .i64 v32)), .v (.vc (pI .i64 v34)), .v (.vc (pI .i64 x17)), .v (.vc (pI .i64 v36)), .v (.vc (pI .i64 v36))] Tryz_mixed ⟨d0 (t_mv (.inl rfl)) ⟨rfl, trivial⟩, d0 (t_mv (.inl rfl)) ⟨rfl, trivial⟩, d0 (t_ix rfl tyS22 h31) ⟨rfl, rfl, trivial⟩, d0 (t_lM 1 rfl rfl (.one tyO3)) ⟨rfl, trivial⟩, d0 (t_mv (.inl rfl)) ⟨rfl, trivial⟩, d0 (t_mv (.inl rfl)) ⟨rfl, trivial⟩, d0 (t_call rfl (ct_gantryref04_digit h33) rfl) ⟨rfl, rfl, trivial⟩, d0 (t_sub rfl h35) ⟨rfl, rfl, trivial⟩, d0 (t_mv (.inl rfl)) ⟨rfl, trivial⟩, d0 (t_sub rfl h37) ⟨rfl, rfl, trivial⟩, d0 (t_mv (.inr rfl)) ⟨rfl, trivial⟩, trivial⟩ (fun bs29 G28 => ?_)
    refine r_nil (r_next (r_seq (r_reg (r_op (t_mv (.inr rfl)) ⟨k_I _ _, trivial⟩ ?_))))
    refine r_nil (r_next (r_seq (r_seq (r_reg (r_mv ?_)))))
    refine r_op (t_lt rfl) ⟨rfl, k_I _ _, trivial⟩ ?_
    refine r_nil (r_next (r_if rfl (fun h38 => ?_) (fun h38 => ?_)))
    · have hF := cnd_t h38 hF
      refine r_seq (r_reg (r_mv ?_))
      obtain ⟨v39, h40, hF⟩ := bnd hF
      refine r_op (t_add rfl h40) ⟨rfl, k_I _ _, trivial⟩ ?_
      refine r_as ?_
      refine r_nil (r_next (r_reg (r_op (t_mv (.inr rfl)) ⟨k_I _ _, trivial⟩ ?_)))
      refine r_nil (r_next (r_reg (r_mv ?_)))
      refine r_mv ?_
      refine r_op (t_bs (C := cI) (xs := [.tmp 30]) (ps := [.vc (pI .i64 v39)]) (zs := [v39]) rfl tyS22 rfl ⟨⟨trivial, rfl⟩, trivial⟩ rfl) ⟨rfl, trivial⟩ ?_
      obtain ⟨x41, h42, hF⟩ := bnd hF
      refine r_app 0 rfl tyS22 rfl rfl q15 rfl rfl h42 (fun b43 c44 H45 e46 => ?_)
      cases e46
      refine r_as ?_
      refine r_nil (r_blkN (r_next (r_reg (r_mv ?_))))
      obtain ⟨v48, h49, hF⟩ := bnd hF
      refine r_op (t_add rfl h49) ⟨rfl, k_I _ _, trivial⟩ ?_
      refine r_as ?_
      refine r_nil ?_
      exact r_round (fun a w hh => ⟨x41, 1, v48, b43, c44, (n14 + [v39].length), hF, (apL_len h42 q15), hs_back [0] rfl (by decide) (by exact ⟨rfl, rfl, rfl, rfl, rfl, trivial⟩) hh⟩)
    have hF := cnd_f h38 hF
    refine r_skip (r_next (r_reg (r_mv ?_)))
    refine r_mv ?_
    refine r_op (t_bs (C := cI) (xs := [.tmp 30]) (ps := [.vc (pI .i64 v36)]) (zs := [v36]) rfl tyS22 rfl ⟨⟨trivial, rfl⟩, trivial⟩ rfl) ⟨rfl, trivial⟩ ?_
    obtain ⟨x50, h51, hF⟩ := bnd hF
    refine r_app 0 rfl tyS22 rfl rfl q15 rfl rfl h51 (fun b52 c53 H54 e55 => ?_)
    cases e55
    refine r_as ?_
    refine r_nil (r_blkN (r_next (r_reg (r_mv ?_))))
    obtain ⟨v57, h58, hF⟩ := bnd hF
    refine r_op (t_add rfl h58) ⟨rfl, k_I _ _, trivial⟩ ?_
    refine r_as ?_
    refine r_nil ?_
    exact r_round (fun a w hh => ⟨x50, 0, v57, b52, c53, (n14 + [v36].length), hF, (apL_len h51 q15), hs_back [0] rfl (by decide) (by exact ⟨rfl, rfl, rfl, rfl, rfl, trivial⟩) hh⟩)
  have hF := cnd_f h27 hF
  refine r_brk ?_
  obtain rfl := sm1 hF
  exact r_backJ Jj26 ⟨x11, b12, c13, n14, hRl25, q15, rfl, rfl⟩ [0] rfl ⟨rfl, trivial⟩
def F_gantryref04_Add (K : Nat) (a0 : GInt) (a1 : GInt) : Option GInt :=
  bif (a0.neg == a1.neg) then ((F_gantryref04_plus K a0.d a1.d).bind fun v7 => (F_gantryref04_normal K a0.neg v7).bind fun v9 => some v9) else ((F_gantryref04_compared K a0.d a1.d).bind fun v11 => bif (decide (v11 < 0)) then ((F_gantryref04_minus K a1.d a0.d).bind fun v16 => (F_gantryref04_normal K a1.neg v16).bind fun v18 => some v18) else ((F_gantryref04_minus K a0.d a1.d).bind fun v22 => (F_gantryref04_normal K a0.neg v22).bind fun v24 => some v24))
theorem ct_gantryref04_Add {K : Nat} {a0 : GInt} {a1 : GInt} {r : GInt} (hF : F_gantryref04_Add K a0 a1 = some r) : Ct Tryz.prog 117 [.va (GInt.e a0), .va (GInt.e a1)] (.va (GInt.e r)) := by
  unfold F_gantryref04_Add at hF
  refine ctO_intro Tryz.func117 rfl (by kernel_rfl) Tryz.ntmps117 rfl (fun w0 M0 => ?_)
  refine r_seq (r_reg (r_box rfl rfl trivial (fun b1 => ?_)))
  refine r_box rfl rfl trivial (fun b2 => ?_)
  refine r_alloc rfl tyZ33 (fun b3 => ?_)
  refine r_nil (r_next (r_seq (r_seq (r_reg (r_op (t_fa (off := 0) (k := 0) rfl tyF33_0) ⟨rfl, trivial⟩ ?_)))))
  refine r_op (t_l 2 1 rfl rfl rfl rfl (.one tyO4)) ⟨rfl, trivial⟩ ?_
  refine r_op (t_fa (off := 0) (k := 0) rfl tyF33_0) ⟨rfl, trivial⟩ ?_
  refine r_op (t_l 1 1 rfl rfl rfl rfl (.one tyO4)) ⟨rfl, trivial⟩ ?_
  refine r_op (t_eqB rfl Tryz.underlying4) ⟨rfl, rfl, trivial⟩ ?_
  refine r_nil (r_next (r_if rfl (fun h4 => ?_) (fun h4 => ?_)))
  · have hF := cnd_t h4 hF
    refine r_seq ?_
    obtain ⟨v7, h8, hF⟩ := bnd hF
    obtain ⟨v9, h10, hF⟩ := bnd hF
    refine r_draw [0, 1, 0, 4, 0, 16, 60, 127, 255] 8 1 [.v (.vc (pP (some b1) 0)), .v (.vc (pB a0.neg)), .v (.vc (pP (some b1) 1)), .v (.vc (pS cI a0.d)), .v (.vc (pP (some b2) 1)), .v (.vc (pS cI a1.d)), .v (.vc (pS cI v7)), .v (.va (GInt.e v9))] Tryz_mixed ⟨d0 (t_fa (off := 0) (k := 0) rfl tyF33_0) ⟨rfl, trivial⟩, d0 (t_l 2 1 rfl rfl rfl rfl (.one tyO4)) ⟨rfl, trivial⟩, d0 (t_fa (off := 0) (k := 1) rfl tyF33_1) ⟨rfl, trivial⟩, d0 (t_l 2 1 rfl rfl rfl rfl (.one tyO22)) ⟨rfl, trivial⟩, d0 (t_fa (off := 0) (k := 1) rfl tyF33_1) ⟨rfl, trivial⟩, d0 (t_l 1 1 rfl rfl rfl rfl (.one tyO22)) ⟨rfl, trivial⟩, d0 (t_call rfl (ct_gantryref04_plus h8) rfl) ⟨rfl, rfl, trivial⟩, d0 (t_call rfl (ct_gantryref04_normal h10) rfl) ⟨rfl, rfl, trivial⟩, trivial⟩ (fun bs6 G5 => ?_)
    refine r_op0 (t_s 0 rfl rfl rfl tyA33.s) ⟨rfl, rfl, trivial⟩ ?_
    refine r_nil (r_next (r_ret (r_toR ?_)))
    obtain rfl := sm1 hF
    exact r_done1 (.inl rfl) Tryz.results117 (rv_cell 0 2 rfl rfl rfl rfl (.agg tyA33) .nil) rfl rfl
  have hF := cnd_f h4 hF
  refine r_skip (r_next (r_seq (r_seq (r_reg (r_op (t_fa (off := 0) (k := 1) rfl tyF33_1) ⟨rfl, trivial⟩ ?_)))))
  refine r_op (t_l 2 1 rfl rfl rfl rfl (.one tyO22)) ⟨rfl, trivial⟩ ?_
  refine r_op (t_fa (off := 0) (k := 1) rfl tyF33_1) ⟨rfl, trivial⟩ ?_
  refine r_op (t_l 1 1 rfl rfl rfl rfl (.one tyO22)) ⟨rfl, trivial⟩ ?_
  obtain ⟨v11, h12, hF⟩ := bnd hF
  refine r_op (t_call rfl (ct_gantryref04_compared h12) rfl) ⟨rfl, rfl, trivial⟩ ?_
  refine r_op (t_lt rfl) ⟨rfl, k_I _ _, trivial⟩ ?_
  refine r_nil (r_next (r_if rfl (fun h13 => ?_) (fun h13 => ?_)))
  · have hF := cnd_t h13 hF
    refine r_seq ?_
    obtain ⟨v16, h17, hF⟩ := bnd hF
    obtain ⟨v18, h19, hF⟩ := bnd hF
    refine r_draw [0, 1, 0, 4, 0, 16, 60, 127, 255] 8 1 [.v (.vc (pP (some b2) 0)), .v (.vc (pB a1.neg)), .v (.vc (pP (some b2) 1)), .v (.vc (pS cI a1.d)), .v (.vc (pP (some b1) 1)), .v (.vc (pS cI a0.d)), .v (.vc (pS cI v16)), .v (.va (GInt.e v18))] Tryz_mixed ⟨d0 (t_fa (off := 0) (k := 0) rfl tyF33_0) ⟨rfl, trivial⟩, d0 (t_l 1 1 rfl rfl rfl rfl (.one tyO4)) ⟨rfl, trivial⟩, d0 (t_fa (off := 0) (k := 1) rfl tyF33_1) ⟨rfl, trivial⟩, d0 (t_l 1 1 rfl rfl rfl rfl (.one tyO22)) ⟨rfl, trivial⟩, d0 (t_fa (off := 0) (k := 1) rfl tyF33_1) ⟨rfl, trivial⟩, d0 (t_l 2 1 rfl rfl rfl rfl (.one tyO22)) ⟨rfl, trivial⟩, d0 (t_call rfl (ct_gantryref04_minus h17) rfl) ⟨rfl, rfl, trivial⟩, d0 (t_call rfl (ct_gantryref04_normal h19) rfl) ⟨rfl, rfl, trivial⟩, trivial⟩ (fun bs15 G14 => ?_)
    refine r_op0 (t_s 0 rfl rfl rfl tyA33.s) ⟨rfl, rfl, trivial⟩ ?_
    refine r_nil (r_next (r_ret (r_toR ?_)))
    obtain rfl := sm1 hF
    exact r_done1 (.inl rfl) Tryz.results117 (rv_cell 0 2 rfl rfl rfl rfl (.agg tyA33) .nil) rfl rfl
  have hF := cnd_f h13 hF
  refine r_skip (r_next (r_seq ?_))
  obtain ⟨v22, h23, hF⟩ := bnd hF
  obtain ⟨v24, h25, hF⟩ := bnd hF
  refine r_draw [0, 1, 0, 4, 0, 16, 60, 127, 255] 8 1 [.v (.vc (pP (some b1) 0)), .v (.vc (pB a0.neg)), .v (.vc (pP (some b1) 1)), .v (.vc (pS cI a0.d)), .v (.vc (pP (some b2) 1)), .v (.vc (pS cI a1.d)), .v (.vc (pS cI v22)), .v (.va (GInt.e v24))] Tryz_mixed ⟨d0 (t_fa (off := 0) (k := 0) rfl tyF33_0) ⟨rfl, trivial⟩, d0 (t_l 2 1 rfl rfl rfl rfl (.one tyO4)) ⟨rfl, trivial⟩, d0 (t_fa (off := 0) (k := 1) rfl tyF33_1) ⟨rfl, trivial⟩, d0 (t_l 2 1 rfl rfl rfl rfl (.one tyO22)) ⟨rfl, trivial⟩, d0 (t_fa (off := 0) (k := 1) rfl tyF33_1) ⟨rfl, trivial⟩, d0 (t_l 1 1 rfl rfl rfl rfl (.one tyO22)) ⟨rfl, trivial⟩, d0 (t_call rfl (ct_gantryref04_minus h23) rfl) ⟨rfl, rfl, trivial⟩, d0 (t_call rfl (ct_gantryref04_normal h25) rfl) ⟨rfl, rfl, trivial⟩, trivial⟩ (fun bs21 G20 => ?_)
  refine r_op0 (t_s 0 rfl rfl rfl tyA33.s) ⟨rfl, rfl, trivial⟩ ?_
  refine r_nil (r_next (r_ret (r_toR ?_)))
  obtain rfl := sm1 hF
  exact r_done1 (.inl rfl) Tryz.results117 (rv_cell 0 2 rfl rfl rfl rfl (.agg tyA33) .nil) rfl rfl
def F_gantryref04_Compare (K : Nat) (a0 : GInt) (a1 : GInt) : Option Int :=
  bif (a0.neg != a1.neg) then (bif a0.neg then (some (-1)) else (some 1)) else (bif a0.neg then ((F_gantryref04_compared K a1.d a0.d).bind fun v6 => some v6) else ((F_gantryref04_compared K a0.d a1.d).bind fun v8 => some v8))
theorem ct_gantryref04_Compare {K : Nat} {a0 : GInt} {a1 : GInt} {r : Int} (hF : F_gantryref04_Compare K a0 a1 = some r) : Ct Tryz.prog 158 [.va (GInt.e a0), .va (GInt.e a1)] (.vc (pI .i64 r)) := by
  unfold F_gantryref04_Compare at hF
  refine ctO_intro Tryz.func158 rfl (by kernel_rfl) Tryz.ntmps158 rfl (fun w0 M0 => ?_)
  refine r_seq (r_reg (r_box rfl rfl trivial (fun b1 => ?_)))
  refine r_box rfl rfl trivial (fun b2 => ?_)
  refine r_op (t_mv (.inr rfl)) ⟨k_I _ _, trivial⟩ ?_
  refine r_nil (r_next (r_seq (r_seq (r_reg (r_op (t_fa (off := 0) (k := 0) rfl tyF33_0) ⟨rfl, trivial⟩ ?_)))))
  refine r_op (t_l 1 1 rfl rfl rfl rfl (.one tyO4)) ⟨rfl, trivial⟩ ?_
  refine r_op (t_fa (off := 0) (k := 0) rfl tyF33_0) ⟨rfl, trivial⟩ ?_
  refine r_op (t_l 0 1 rfl rfl rfl rfl (.one tyO4)) ⟨rfl, trivial⟩ ?_
  refine r_op (t_neB rfl Tryz.underlying4) ⟨rfl, rfl, trivial⟩ ?_
  refine r_nil (r_next (r_if rfl (fun h3 => ?_) (fun h3 => ?_)))
  · have hF := cnd_t h3 hF
    refine r_seq (r_seq (r_reg (r_op (t_fa (off := 0) (k := 0) rfl tyF33_0) ⟨rfl, trivial⟩ ?_)))
    refine r_op (t_l 1 1 rfl rfl rfl rfl (.one tyO4)) ⟨rfl, trivial⟩ ?_
    refine r_nil (r_next (r_if rfl (fun h4 => ?_) (fun h4 => ?_)))
    · have hF := cnd_t h4 hF
      refine r_seq (r_reg (r_op (t_mv (.inr rfl)) ⟨k_I _ _, trivial⟩ ?_))
      refine r_nil (r_next (r_ret (r_toR ?_)))
      obtain rfl := sm1 hF
      exact r_done1 (.inl rfl) Tryz.results158 (.tmp rfl .nil) rfl rfl
    have hF := cnd_f h4 hF
    refine r_skip (r_next (r_seq (r_reg (r_op (t_mv (.inr rfl)) ⟨k_I _ _, trivial⟩ ?_))))
    refine r_nil (r_next (r_ret (r_toR ?_)))
    obtain rfl := sm1 hF
    exact r_done1 (.inl rfl) Tryz.results158 (.tmp rfl .nil) rfl rfl
  have hF := cnd_f h3 hF
  refine r_skip (r_next (r_seq (r_seq (r_reg (r_op (t_fa (off := 0) (k := 0) rfl tyF33_0) ⟨rfl, trivial⟩ ?_)))))
  refine r_op (t_l 1 1 rfl rfl rfl rfl (.one tyO4)) ⟨rfl, trivial⟩ ?_
  refine r_nil (r_next (r_if rfl (fun h5 => ?_) (fun h5 => ?_)))
  · have hF := cnd_t h5 hF
    refine r_seq (r_reg (r_op (t_fa (off := 0) (k := 1) rfl tyF33_1) ⟨rfl, trivial⟩ ?_))
    refine r_op (t_l 0 1 rfl rfl rfl rfl (.one tyO22)) ⟨rfl, trivial⟩ ?_
    refine r_op (t_fa (off := 0) (k := 1) rfl tyF33_1) ⟨rfl, trivial⟩ ?_
    refine r_op (t_l 1 1 rfl rfl rfl rfl (.one tyO22)) ⟨rfl, trivial⟩ ?_
    obtain ⟨v6, h7, hF⟩ := bnd hF
    refine r_op (t_call rfl (ct_gantryref04_compared h7) rfl) ⟨rfl, rfl, trivial⟩ ?_
    refine r_as ?_
    refine r_nil (r_next (r_ret (r_toR ?_)))
    obtain rfl := sm1 hF
    exact r_done1 (.inl rfl) Tryz.results158 (.tmp rfl .nil) rfl rfl
  have hF := cnd_f h5 hF
  refine r_skip (r_next (r_seq (r_reg (r_op (t_fa (off := 0) (k := 1) rfl tyF33_1) ⟨rfl, trivial⟩ ?_))))
  refine r_op (t_l 1 1 rfl rfl rfl rfl (.one tyO22)) ⟨rfl, trivial⟩ ?_
  refine r_op (t_fa (off := 0) (k := 1) rfl tyF33_1) ⟨rfl, trivial⟩ ?_
  refine r_op (t_l 0 1 rfl rfl rfl rfl (.one tyO22)) ⟨rfl, trivial⟩ ?_
  obtain ⟨v8, h9, hF⟩ := bnd hF
  refine r_op (t_call rfl (ct_gantryref04_compared h9) rfl) ⟨rfl, rfl, trivial⟩ ?_
  refine r_as ?_
  refine r_nil (r_next (r_ret (r_toR ?_)))
  obtain rfl := sm1 hF
  exact r_done1 (.inl rfl) Tryz.results158 (.tmp rfl .nil) rfl rfl
def F_gantryref04_Sign (K : Nat) (a0 : GInt) : Option Int :=
  (F_gantryref04_Compare K a0 (⟨false, ([] : List Int)⟩ : GInt)).bind fun v2 => some v2
theorem ct_gantryref04_Sign {K : Nat} {a0 : GInt} {r : Int} (hF : F_gantryref04_Sign K a0 = some r) : Ct Tryz.prog 125 [.va (GInt.e a0)] (.vc (pI .i64 r)) := by
  unfold F_gantryref04_Sign at hF
  refine ctO_intro Tryz.func125 rfl (by kernel_rfl) Tryz.ntmps125 rfl (fun w0 M0 => ?_)
  refine r_seq (r_reg (r_box rfl rfl trivial (fun b1 => ?_)))
  refine r_op (t_mv (.inr rfl)) ⟨k_I _ _, trivial⟩ ?_
  refine r_nil (r_next (r_seq (r_reg (r_op (t_l 0 2 rfl rfl rfl rfl (.agg tyA33)) ⟨rfl, trivial⟩ ?_))))
  refine r_op (t_bld (is := []) (xs := []) (ps := []) rfl tyB33 rfl rfl trivial rfl) trivial ?_
  obtain ⟨v2, h3, hF⟩ := bnd hF
  refine r_op (t_call rfl (ct_gantryref04_Compare h3) rfl) ⟨rfl, rfl, trivial⟩ ?_
  refine r_as ?_
  refine r_nil (r_next (r_ret (r_toR ?_)))
  obtain rfl := sm1 hF
  exact r_done1 (.inl rfl) Tryz.results125 (.tmp rfl .nil) rfl rfl
def F_gantryref04_tiny (a0 : List Int) : Option Int :=
  (F_gantryref04_digit a0 1).bind fun v1 => (chk (v1 * 1000000000)).bind fun v3 => (F_gantryref04_digit a0 0).bind fun v5 => (chk (v3 + v5)).bind fun v7 => some v7
theorem ct_gantryref04_tiny {a0 : List Int} {r : Int} (hF : F_gantryref04_tiny a0 = some r) : Ct Tryz.prog 159 [.vc (pS cI a0)] (.vc (pI .i64 r)) := by
  unfold F_gantryref04_tiny at hF
  refine ctO_intro Tryz.func159 rfl (by kernel_rfl) Tryz.ntmps159 rfl (fun w0 M0 => ?_)
  refine r_seq (r_reg (r_op (t_mv (.inr rfl)) ⟨k_I _ _, trivial⟩ ?_))
  refine r_nil (r_next (r_seq (r_reg (r_mv ?_))))
  obtain ⟨v1, h2, hF⟩ := bnd hF
  refine r_op (t_call rfl (ct_gantryref04_digit h2) rfl) ⟨rfl, k_I _ _, trivial⟩ ?_
  obtain ⟨v3, h4, hF⟩ := bnd hF
  refine r_op (t_mul rfl h4) ⟨rfl, k_I _ _, trivial⟩ ?_
  refine r_mv ?_
  obtain ⟨v5, h6, hF⟩ := bnd hF
  refine r_op (t_call rfl (ct_gantryref04_digit h6) rfl) ⟨rfl, k_I _ _, trivial⟩ ?_
  obtain ⟨v7, h8, hF⟩ := bnd hF
  refine r_op (t_add rfl h8) ⟨rfl, rfl, trivial⟩ ?_
  refine r_as ?_
  refine r_nil (r_next (r_ret (r_toR ?_)))
  obtain rfl := sm1 hF
  exact r_done1 (.inl rfl) Tryz.results159 (.tmp rfl .nil) rfl rfl
def F_gantryref04_times (K : Nat) (a0 : List Int) (a1 : Int) : Option (List Int) :=
  (F_gantryref04_normal K false a0).bind fun v1 => (F_gantryref04_Of K a1).bind fun v3 => (F_gantryref04_Mul K v1 v3).bind fun v5 => some v5.d
theorem ct_gantryref04_times {K : Nat} {a0 : List Int} {a1 : Int} {r : List Int} (hF : F_gantryref04_times K a0 a1 = some r) : Ct Tryz.prog 169 [.vc (pS cI a0), .vc (pI .i64 a1)] (.vc (pS cI r)) := by
  unfold F_gantryref04_times at hF
  refine ctO_intro Tryz.func169 rfl (by kernel_rfl) Tryz.ntmps169 rfl (fun w0 M0 => ?_)
  refine r_seq (r_reg (r_op (t_mv (.inr rfl)) ⟨k_nil cI, trivial⟩ ?_))
  refine r_nil (r_next (r_seq (r_reg (r_mv ?_))))
  obtain ⟨v1, h2, hF⟩ := bnd hF
  refine r_op (t_call rfl (ct_gantryref04_normal h2) rfl) ⟨k_B _, rfl, trivial⟩ ?_
  refine r_mv ?_
  obtain ⟨v3, h4, hF⟩ := bnd hF
  refine r_op (t_call rfl (ct_gantryref04_Of h4) rfl) ⟨rfl, trivial⟩ ?_
  obtain ⟨v5, h6, hF⟩ := bnd hF
  refine r_op (t_call rfl (ct_gantryref04_Mul h6) rfl) ⟨rfl, rfl, trivial⟩ ?_
  refine r_alloc rfl tyZ33 (fun b7 => ?_)
  refine r_op0 (t_s 0 rfl rfl rfl tyA33.s) ⟨rfl, rfl, trivial⟩ ?_
  refine r_nil (r_next (r_seq (r_reg (r_op (t_fa (off := 0) (k := 1) rfl tyF33_1) ⟨rfl, trivial⟩ ?_))))
  refine r_op (t_l 0 1 rfl rfl rfl rfl (.one tyO22)) ⟨rfl, trivial⟩ ?_
  refine r_as ?_
  refine r_nil (r_next (r_ret (r_toR ?_)))
  obtain rfl := sm1 hF
  exact r_done1 (.inl rfl) Tryz.results169 (.tmp rfl .nil) rfl rfl
def F_gantryref04_divided_j54 (K : Nat) (x46 : List Int) (x52 : List Int) : Option ((List Int) × (List Int)) :=
  some (x46, x52)
def F_gantryref04_divided_j80 (K : Nat) (a1 : List Int) (x38 : List Int) (x45 : Int) (v68 : GInt) (recl53 : (List Int) → (List Int) → Int → Option ((List Int) × (List Int))) (x78 : Int) : Option ((List Int) × (List Int)) :=
  (F_gantryref04_times K a1 x78).bind fun v81 => (F_gantryref04_minus K v68.d v81).bind fun v83 => (F_gantryref04_normal K false v83).bind fun v85 => (rdL x38 x45).bind fun v88 => (stL x38 x45 x78).bind fun x90 => (chk (x45 - 1)).bind fun v93 => recl53 x90 v85.d v93
def F_gantryref04_divided_l79 (K : Nat) (a1 : List Int) (v68 : GInt) : Nat → Int → Int → Option Int
  | 0, _, _ => none
  | k + 1, x76, x77 => bif (decide (x76 < x77)) then ((chk (x76 + x77)).bind fun v96 => (chk (v96 + 1)).bind fun v98 => (chq v98 2).bind fun v100 => (F_gantryref04_times K a1 v100).bind fun v102 => (F_gantryref04_compared K v102 v68.d).bind fun v104 => bif (decide (v104 ≤ 0)) then (F_gantryref04_divided_l79 K a1 v68 k v100 x77) else ((chk (v100 - 1)).bind fun v107 => F_gantryref04_divided_l79 K a1 v68 k x76 v107)) else (some x76)
def F_gantryref04_divided_j73 (K : Nat) (a1 : List Int) (x38 : List Int) (x45 : Int) (v68 : GInt) (recl53 : (List Int) → (List Int) → Int → Option ((List Int) × (List Int))) (x72 : Int) : Option ((List Int) × (List Int)) :=
  (F_gantryref04_divided_l79 K a1 v68 K 0 x72).bind fun x78 => F_gantryref04_divided_j80 K a1 x38 x45 v68 recl53 x78
def F_gantryref04_divided_l53 (K : Nat) (a0 : List Int) (a1 : List Int) : Nat → (List Int) → (List Int) → Int → Option ((List Int) × (List Int))
  | 0, _, _, _ => none
  | k + 1, x38, x44, x45 => bif (decide (0 ≤ x45)) then ((rdL a0 x45).bind fun v56 => (apL [v56] x44).bind fun x61 => (F_gantryref04_normal K false x61).bind fun v68 => (F_gantryref04_compared K v68.d a1).bind fun v109 => bif (decide (v109 < 0)) then (F_gantryref04_divided_j73 K a1 x38 x45 v68 (F_gantryref04_divided_l53 K a0 a1 k) 0) else (F_gantryref04_divided_j73 K a1 x38 x45 v68 (F_gantryref04_divided_l53 K a0 a1 k) 999999999)) else (some (x38, x44))
def F_gantryref04_divided_j143 (K : Nat) (x135 : List Int) (x141 : List Int) : Option ((List Int) × (List Int)) :=
  some (x135, x141)
def F_gantryref04_divided_j169 (K : Nat) (a1 : List Int) (x127 : List Int) (x134 : Int) (v157 : GInt) (recl142 : (List Int) → (List Int) → Int → Option ((List Int) × (List Int))) (x167 : Int) : Option ((List Int) × (List Int)) :=
  (F_gantryref04_times K a1 x167).bind fun v170 => (F_gantryref04_minus K v157.d v170).bind fun v172 => (F_gantryref04_normal K false v172).bind fun v174 => (rdL x127 x134).bind fun v177 => (stL x127 x134 x167).bind fun x179 => (chk (x134 - 1)).bind fun v182 => recl142 x179 v174.d v182
def F_gantryref04_divided_l168 (K : Nat) (a1 : List Int) (v157 : GInt) : Nat → Int → Int → Option Int
  | 0, _, _ => none
  | k + 1, x165, x166 => bif (decide (x165 < x166)) then ((chk (x165 + x166)).bind fun v185 => (chk (v185 + 1)).bind fun v187 => (chq v187 2).bind fun v189 => (F_gantryref04_times K a1 v189).bind fun v191 => (F_gantryref04_compared K v191 v157.d).bind fun v193 => bif (decide (v193 ≤ 0)) then (F_gantryref04_divided_l168 K a1 v157 k v189 x166) else ((chk (v189 - 1)).bind fun v196 => F_gantryref04_divided_l168 K a1 v157 k x165 v196)) else (some x165)
def F_gantryref04_divided_j162 (K : Nat) (a1 : List Int) (x127 : List Int) (x134 : Int) (v157 : GInt) (recl142 : (List Int) → (List Int) → Int → Option ((List Int) × (List Int))) (x161 : Int) : Option ((List Int) × (List Int)) :=
  (F_gantryref04_divided_l168 K a1 v157 K 0 x161).bind fun x167 => F_gantryref04_divided_j169 K a1 x127 x134 v157 recl142 x167
def F_gantryref04_divided_l142 (K : Nat) (a0 : List Int) (a1 : List Int) : Nat → (List Int) → (List Int) → Int → Option ((List Int) × (List Int))
  | 0, _, _, _ => none
  | k + 1, x127, x133, x134 => bif (decide (0 ≤ x134)) then ((rdL a0 x134).bind fun v145 => (apL [v145] x133).bind fun x150 => (F_gantryref04_normal K false x150).bind fun v157 => (F_gantryref04_compared K v157.d a1).bind fun v198 => bif (decide (v198 < 0)) then (F_gantryref04_divided_j162 K a1 x127 x134 v157 (F_gantryref04_divided_l142 K a0 a1 k) 0) else (F_gantryref04_divided_j162 K a1 x127 x134 v157 (F_gantryref04_divided_l142 K a0 a1 k) 999999999)) else (some (x127, x133))
def F_gantryref04_divided (K : Nat) (a0 : List Int) (a1 : List Int) : Option ((List Int) × (List Int)) :=
  bif (decide ((a0.length : Int) ≤ 2)) then (bif (decide ((a1.length : Int) ≤ 2)) then ((F_gantryref04_tiny a0).bind fun v3 => (F_gantryref04_tiny a1).bind fun v5 => (chq v3 v5).bind fun v7 => (F_gantryref04_Of K v7).bind fun v9 => (F_gantryref04_tiny a0).bind fun v12 => (F_gantryref04_tiny a1).bind fun v14 => (chr v12 v14).bind fun v16 => (F_gantryref04_Of K v16).bind fun v18 => some (v9.d, v18.d)) else ((mkL (a0.length : Int) 0).bind fun x23 => (chk ((a0.length : Int) - 1)).bind fun v28 => (F_gantryref04_divided_l53 K a0 a1 K x23 [] v28).bind fun (x46, x52) => F_gantryref04_divided_j54 K x46 x52)) else ((mkL (a0.length : Int) 0).bind fun x112 => (chk ((a0.length : Int) - 1)).bind fun v117 => (F_gantryref04_divided_l142 K a0 a1 K x112 [] v117).bind fun (x135, x141) => F_gantryref04_divided_j143 K x135 x141)
theorem ct_gantryref04_divided {K : Nat} {a0 : List Int} {a1 : List Int} {r : (List Int) × (List Int)} (hF : F_gantryref04_divided K a0 a1 = some r) : Ct Tryz.prog 160 [.vc (pS cI a0), .vc (pS cI a1)] (.t2 (.vc (pS cI r.1)) (.vc (pS cI r.2))) := by
  unfold F_gantryref04_divided at hF
  refine ctO_intro Tryz.func160 rfl (by kernel_rfl) Tryz.ntmps160 rfl (fun w0 M0 => ?_)
  refine r_seq (r_reg (r_op (t_mv (.inr rfl)) ⟨k_nil cI, trivial⟩ ?_))
  refine r_op (t_mv (.inr rfl)) ⟨k_nil cI, trivial⟩ ?_
  refine r_nil (r_next (r_seq (r_seq (r_reg (r_mv ?_)))))
  refine r_op (t_ln rfl tyS22) ⟨rfl, trivial⟩ ?_
  refine r_op (t_le rfl) ⟨rfl, k_I _ _, trivial⟩ ?_
  refine r_mv ?_
  refine r_bool (fun h1 => ?_) (fun h1 => ?_)
  · have hF := cnd_t h1 hF
    refine r_opg (t_mv (.inl rfl)) ⟨rfl, trivial⟩ ?_
    refine r_opg (t_ln rfl tyS22) ⟨rfl, trivial⟩ ?_
    refine r_opg (t_le rfl) ⟨rfl, k_I _ _, trivial⟩ ?_
    refine r_op (t_pickT rfl) ⟨rfl, rfl, trivial⟩ ?_
    refine r_nil (r_next (r_if rfl (fun h2 => ?_) (fun h2 => ?_)))
    · have hF := cnd_t h2 hF
      refine r_seq (r_reg (r_mv ?_))
      obtain ⟨v3, h4, hF⟩ := bnd hF
      refine r_op (t_call rfl (ct_gantryref04_tiny h4) rfl) ⟨rfl, trivial⟩ ?_
      refine r_mv ?_
      obtain ⟨v5, h6, hF⟩ := bnd hF
      refine r_op (t_call rfl (ct_gantryref04_tiny h6) rfl) ⟨rfl, trivial⟩ ?_
      obtain ⟨v7, h8, hF⟩ := bnd hF
      refine r_op (t_quo rfl h8) ⟨rfl, rfl, trivial⟩ ?_
      obtain ⟨v9, h10, hF⟩ := bnd hF
      refine r_op (t_call rfl (ct_gantryref04_Of h10) rfl) ⟨rfl, trivial⟩ ?_
      refine r_alloc rfl tyZ33 (fun b11 => ?_)
      refine r_op0 (t_s 0 rfl rfl rfl tyA33.s) ⟨rfl, rfl, trivial⟩ ?_
      refine r_nil (r_next (r_seq (r_reg (r_mv ?_))))
      obtain ⟨v12, h13, hF⟩ := bnd hF
      refine r_op (t_call rfl (ct_gantryref04_tiny h13) rfl) ⟨rfl, trivial⟩ ?_
      refine r_mv ?_
      obtain ⟨v14, h15, hF⟩ := bnd hF
      refine r_op (t_call rfl (ct_gantryref04_tiny h15) rfl) ⟨rfl, trivial⟩ ?_
      obtain ⟨v16, h17, hF⟩ := bnd hF
      refine r_op (t_rem rfl h17) ⟨rfl, rfl, trivial⟩ ?_
      obtain ⟨v18, h19, hF⟩ := bnd hF
      refine r_op (t_call rfl (ct_gantryref04_Of h19) rfl) ⟨rfl, trivial⟩ ?_
      refine r_alloc rfl tyZ33 (fun b20 => ?_)
      refine r_op0 (t_s 0 rfl rfl rfl tyA33.s) ⟨rfl, rfl, trivial⟩ ?_
      refine r_nil (r_next (r_seq (r_draw [0, 1, 0, 4, 3, 31] 6 0 [.v (.vc (pP (some b11) 1)), .v (.vc (pS cI v9.d)), .v (.vc (pP (some b20) 1)), .v (.vc (pS cI v18.d)), .v (.vc (pS cI v9.d)), .v (.vc (pS cI v18.d))] Tryz_mixed ⟨d0 (t_fa (off := 0) (k := 1) rfl tyF33_1) ⟨rfl, trivial⟩, d0 (t_l 1 1 rfl rfl rfl rfl (.one tyO22)) ⟨rfl, trivial⟩, d0 (t_fa (off := 0) (k := 1) rfl tyF33_1) ⟨rfl, trivial⟩, d0 (t_l 0 1 rfl rfl rfl rfl (.one tyO22)) ⟨rfl, trivial⟩, d0 (t_mv (.inr rfl)) ⟨rfl, trivial⟩, d0 (t_mv (.inr rfl)) ⟨rfl, trivial⟩, trivial⟩ (fun bs22 G21 => ?_))))
      refine r_nil (r_next (r_ret (r_toR ?_)))
      obtain rfl := sm1 hF
      exact r_done1 (.inl rfl) Tryz.results160 (.tmp rfl (.tmp rfl .nil)) rfl rfl
    have hF := cnd_f h2 hF
    refine r_skip (r_next (r_seq (r_reg (r_mv ?_))))
    refine r_op (t_ln rfl tyS22) ⟨rfl, trivial⟩ ?_
    obtain ⟨x23, h24, hF⟩ := bnd hF
    refine r_make (C := cI) rfl tyS22 rfl tyZ3 rfl h24 (fun b25 => ?_)
    refine r_as ?_
    refine r_nil (r_next (r_seq (r_reg (r_op (t_mv (.inr rfl)) ⟨k_nil cI, trivial⟩ ?_))))
    refine r_nil (r_next (r_seq (r_seq (r_reg (r_mv ?_)))))
    refine r_op (t_ln rfl tyS22) ⟨rfl, trivial⟩ ?_
    obtain ⟨v28, h29, hF⟩ := bnd hF
    refine r_op (t_sub rfl h29) ⟨rfl, k_I _ _, trivial⟩ ?_
    refine r_as ?_
    refine r_nil (r_next (r_blk (r_cutN (fun H E => ∃ (x46 : List Int), ∃ (x52 : List Int), F_gantryref04_divided_j54 K x46 x52 = some r ∧ x46.length = x23.length ∧ H = [hO cI b25 x23.length 3 x23.length x46] ∧ E = [(8, .vc (pO b25 x23.length x23.length)), (9, .vc (pS cI x52))]) ?_ (fun Jj54 => ?_))))
    · rintro _ _ ⟨x46, x52, hF, q50, rfl, rfl⟩
      unfold F_gantryref04_divided_j54 at hF
      refine r_next (r_seq (r_reg (r_mv ?_)))
      refine r_mv ?_
      refine r_as ?_
      refine r_as ?_
      refine r_nil (r_next (r_ret (r_toR (r_fzX 0 [4, 8, 93] rfl q50 ⟨rfl, rfl, rfl, trivial⟩ rfl ?_))))
      obtain rfl := sm1 hF
      exact r_done1 (.inl rfl) Tryz.results160 (.tmp rfl (.tmp rfl .nil)) rfl rfl
    obtain ⟨⟨x46', x52'⟩, hL, hRl53⟩ := bnd hF
    refine r_lp (fun k a w => ∃ (x38 : List Int), ∃ (x44 : List Int), ∃ (x45 : Int), F_gantryref04_divided_l53 K a0 a1 k x38 x44 x45 = some (x46', x52') ∧ x38.length = x23.length ∧ hs _ [hO cI b25 x23.length 3 x23.length x38] [(0, .vc (pS cI a0)), (1, .vc (pS cI a1)), (8, .vc (pO b25 x23.length x23.length)), (9, .vc (pS cI x44)), (10, .vc (pI .i64 x45))] a w) K (fun a w ⟨_, _, _, hF, _, _⟩ => by cases hF) (fun k a w ⟨x38, x44, x45, hF, q42, hh⟩ => r_at ?_ hh) (fun a w hh => ⟨x23, [], v28, hL, rfl, hs_back [0] rfl (by decide) (by exact ⟨rfl, rfl, rfl, rfl, rfl, trivial⟩) hh⟩)
    rw [F_gantryref04_divided_l53.eq_2] at hF
    refine r_seq (r_seq (r_reg (r_mv ?_)))
    refine r_op (t_ge rfl) ⟨rfl, k_I _ _, trivial⟩ ?_
    refine r_nil (r_next (r_if rfl (fun h55 => ?_) (fun h55 => ?_)))
    · have hF := cnd_t h55 hF
      refine r_skip (r_next (r_seq (r_blk (r_seq (r_reg (r_mv ?_))))))
      refine r_mv ?_
      obtain ⟨v56, h57, hF⟩ := bnd hF
      refine r_op (t_ix rfl tyS22 h57) ⟨rfl, rfl, trivial⟩ ?_
      refine r_op (t_lM 1 rfl rfl (.one tyO3)) ⟨rfl, trivial⟩ ?_
      refine r_hv (hv_bs (C := cI) (xs := [.tmp 53]) (ps := [.vc (pI .i64 v56)]) (zs := [v56]) rfl tyS22 rfl ⟨⟨trivial, rfl⟩, trivial⟩ rfl) ⟨rfl, trivial⟩ (fun b58 _ => ?_)
      refine r_mv ?_
      obtain ⟨x61, h62, hF⟩ := bnd hF
      refine r_app 0 rfl tyS22 rfl rfl rfl rfl rfl h62 (fun b63 c64 H65 e66 => ?_)
      cases e66
      refine r_fzL 0 [56] rfl (apL_len h62 rfl) ⟨rfl, trivial⟩ rfl ?_
      obtain ⟨v68, h69, hF⟩ := bnd hF
      refine r_op (t_call rfl (ct_gantryref04_normal h69) rfl) ⟨k_B _, rfl, trivial⟩ ?_
      refine r_alloc rfl tyZ33 (fun b70 => ?_)
      refine r_op0 (t_s 0 rfl rfl rfl tyA33.s) ⟨rfl, rfl, trivial⟩ ?_
      refine r_nil (r_next (r_seq (r_reg (r_op (t_fa (off := 0) (k := 1) rfl tyF33_1) ⟨rfl, trivial⟩ ?_))))
      refine r_op (t_l 0 1 rfl rfl rfl rfl (.one tyO22)) ⟨rfl, trivial⟩ ?_
      refine r_as ?_
      refine r_nil (r_next (r_seq (r_reg (r_op (t_mv (.inr rfl)) ⟨k_I _ _, trivial⟩ ?_))))
      refine r_nil (r_next (r_seq (r_reg (r_op (t_mv (.inr rfl)) ⟨k_I _ _, trivial⟩ ?_))))
      refine r_nil (r_next (r_seq (r_cutS (fun H E => ∃ (x72 : Int), F_gantryref04_divided_j73 K a1 x38 x45 v68 (F_gantryref04_divided_l53 K a0 a1 k) x72 = some (x46', x52') ∧ H = [hO cI b25 x23.length 3 x23.length x38] ∧ E = [(0, .vc (pS cI a0)), (1, .vc (pS cI a1)), (8, .vc (pO b25 x23.length x23.length)), (9, .vc (pS cI v68.d)), (10, .vc (pI .i64 x45)), (12, .vc (pI .i64 0)), (13, .vc (pI .i64 x72))]) ?_ (fun Jj73 => ?_))))
      · rintro _ _ ⟨x72, hF, rfl, rfl⟩
        unfold F_gantryref04_divided_j73 at hF
        refine r_seq (r_blk (r_cutN (fun H E => ∃ (x78 : Int), F_gantryref04_divided_j80 K a1 x38 x45 v68 (F_gantryref04_divided_l53 K a0 a1 k) x78 = some (x46', x52') ∧ H = [hO cI b25 x23.length 3 x23.length x38] ∧ E = [(0, .vc (pS cI a0)), (1, .vc (pS cI a1)), (8, .vc (pO b25 x23.length x23.length)), (9, .vc (pS cI v68.d)), (10, .vc (pI .i64 x45)), (12, .vc (pI .i64 x78))]) ?_ (fun Jj80 => ?_)))
        · rintro _ _ ⟨x78, hF, rfl, rfl⟩
          unfold F_gantryref04_divided_j80 at hF
          refine r_next (r_seq (r_reg (r_mv ?_)))
          refine r_mv ?_
          refine r_mv ?_
          obtain ⟨v81, h82, hF⟩ := bnd hF
          refine r_op (t_call rfl (ct_gantryref04_times h82) rfl) ⟨rfl, rfl, trivial⟩ ?_
          obtain ⟨v83, h84, hF⟩ := bnd hF
          refine r_op (t_call rfl (ct_gantryref04_minus h84) rfl) ⟨rfl, rfl, trivial⟩ ?_
          obtain ⟨v85, h86, hF⟩ := bnd hF
          refine r_op (t_call rfl (ct_gantryref04_normal h86) rfl) ⟨k_B _, rfl, trivial⟩ ?_
          refine r_alloc rfl tyZ33 (fun b87 => ?_)
          refine r_op0 (t_s 0 rfl rfl rfl tyA33.s) ⟨rfl, rfl, trivial⟩ ?_
          refine r_nil (r_next (r_seq (r_reg (r_mv ?_))))
          refine r_mv ?_
          refine r_mv ?_
          obtain ⟨v88, h89, hF⟩ := bnd hF
          refine r_op (t_ixE (C := cI) 1 rfl tyS22 rfl q42 (rdL_some h89).1 (rdL_some h89).2.1) ⟨rfl, rfl, trivial⟩ ?_
          obtain ⟨x90, h91, hF⟩ := bnd hF
          refine r_op0 (t_stE 1 rfl rfl h89 h91 tyO3.s) ⟨rfl, rfl, trivial⟩ ?_
          refine r_nil (r_next (r_reg (r_op (t_fa (off := 0) (k := 1) rfl tyF33_1) ⟨rfl, trivial⟩ ?_)))
          refine r_op (t_l 0 1 rfl rfl rfl rfl (.one tyO22)) ⟨rfl, trivial⟩ ?_
          refine r_as ?_
          refine r_nil (r_blkN (r_next (r_reg (r_mv ?_))))
          obtain ⟨v93, h94, hF⟩ := bnd hF
          refine r_op (t_sub rfl h94) ⟨rfl, k_I _ _, trivial⟩ ?_
          refine r_as ?_
          refine r_nil ?_
          exact r_round (fun a w hh => ⟨x90, v85.d, v93, hF, (stL_len h91 q42), hs_back [1] rfl (by decide) (by exact ⟨rfl, rfl, rfl, rfl, rfl, trivial⟩) hh⟩)
        obtain ⟨x78', hL, hRl79⟩ := bnd hF
        refine r_lp (fun k a w => ∃ (x76 : Int), ∃ (x77 : Int), F_gantryref04_divided_l79 K a1 v68 k x76 x77 = some x78' ∧ hs _ [hO cI b25 x23.length 3 x23.length x38] [(0, .vc (pS cI a0)), (1, .vc (pS cI a1)), (8, .vc (pO b25 x23.length x23.length)), (9, .vc (pS cI v68.d)), (10, .vc (pI .i64 x45)), (12, .vc (pI .i64 x76)), (13, .vc (pI .i64 x77))] a w) K (fun a w ⟨_, _, hF, _⟩ => by cases hF) (fun k a w ⟨x76, x77, hF, hh⟩ => r_at ?_ hh) (fun a w hh => ⟨0, x72, hL, hs_back [0] rfl (by decide) (by exact ⟨rfl, rfl, rfl, rfl, rfl, rfl, rfl, trivial⟩) hh⟩)
        rw [F_gantryref04_divided_l79.eq_2] at hF
        refine r_seq (r_seq (r_reg (r_mv ?_)))
        refine r_mv ?_
        refine r_op (t_lt rfl) ⟨rfl, rfl, trivial⟩ ?_
        refine r_nil (r_next (r_if rfl (fun h95 => ?_) (fun h95 => ?_)))
        · have hF := cnd_t h95 hF
          refine r_skip (r_next (r_blk (r_seq (r_reg (r_mv ?_)))))
          refine r_mv ?_
          obtain ⟨v96, h97, hF⟩ := bnd hF
          refine r_op (t_add rfl h97) ⟨rfl, rfl, trivial⟩ ?_
          obtain ⟨v98, h99, hF⟩ := bnd hF
          refine r_op (t_add rfl h99) ⟨rfl, k_I _ _, trivial⟩ ?_
          obtain ⟨v100, h101, hF⟩ := bnd hF
          refine r_op (t_quo rfl h101) ⟨rfl, k_I _ _, trivial⟩ ?_
          refine r_as ?_
          refine r_nil (r_next (r_seq (r_reg (r_mv ?_))))
          refine r_mv ?_
          obtain ⟨v102, h103, hF⟩ := bnd hF
          refine r_op (t_call rfl (ct_gantryref04_times h103) rfl) ⟨rfl, rfl, trivial⟩ ?_
          refine r_mv ?_
          obtain ⟨v104, h105, hF⟩ := bnd hF
          refine r_op (t_call rfl (ct_gantryref04_compared h105) rfl) ⟨rfl, rfl, trivial⟩ ?_
          refine r_op (t_le rfl) ⟨rfl, k_I _ _, trivial⟩ ?_
          refine r_nil (r_next (r_if rfl (fun h106 => ?_) (fun h106 => ?_)))
          · have hF := cnd_t h106 hF
            refine r_reg (r_mv ?_)
            refine r_as ?_
            refine r_nil (r_blkN ?_)
            exact r_round (fun a w hh => ⟨v100, x77, hF, hs_back [0] rfl (by decide) (by exact ⟨rfl, rfl, rfl, rfl, rfl, rfl, rfl, trivial⟩) hh⟩)
          have hF := cnd_f h106 hF
          refine r_reg (r_mv ?_)
          obtain ⟨v107, h108, hF⟩ := bnd hF
          refine r_op (t_sub rfl h108) ⟨rfl, k_I _ _, trivial⟩ ?_
          refine r_as ?_
          refine r_nil (r_blkN ?_)
          exact r_round (fun a w hh => ⟨x76, v107, hF, hs_back [0] rfl (by decide) (by exact ⟨rfl, rfl, rfl, rfl, rfl, rfl, rfl, trivial⟩) hh⟩)
        have hF := cnd_f h95 hF
        refine r_brk ?_
        obtain rfl := sm1 hF
        exact r_backJ Jj80 ⟨x76, hRl79, rfl, rfl⟩ [0] rfl ⟨rfl, rfl, rfl, rfl, rfl, rfl, trivial⟩
      refine r_seq (r_reg (r_mv ?_))
      refine r_mv ?_
      obtain ⟨v109, h110, hF⟩ := bnd hF
      refine r_op (t_call rfl (ct_gantryref04_compared h110) rfl) ⟨rfl, rfl, trivial⟩ ?_
      refine r_op (t_lt rfl) ⟨rfl, k_I _ _, trivial⟩ ?_
      refine r_nil (r_next (r_if rfl (fun h111 => ?_) (fun h111 => ?_)))
      · have hF := cnd_t h111 hF
        refine r_reg (r_op (t_mv (.inr rfl)) ⟨k_I _ _, trivial⟩ ?_)
        refine r_nil ?_
        exact r_backJ Jj73 ⟨0, hF, rfl, rfl⟩ [1] rfl ⟨rfl, rfl, rfl, rfl, rfl, rfl, rfl, trivial⟩
      have hF := cnd_f h111 hF
      refine r_skip ?_
      exact r_backJ Jj73 ⟨999999999, hF, rfl, rfl⟩ [1] rfl ⟨rfl, rfl, rfl, rfl, rfl, rfl, rfl, trivial⟩
    have hF := cnd_f h55 hF
    refine r_brk ?_
    obtain ⟨rfl, rfl⟩ := sm2 hF
    exact r_backJ Jj54 ⟨x38, x44, hRl53, q42, rfl, rfl⟩ [0] rfl ⟨rfl, rfl, trivial⟩
  have hF := cnd_f h1 hF
  refine r_opn ?_
  refine r_opn ?_
  refine r_opn ?_
  refine r_op (t_pickF rfl) ⟨rfl, k_B _, trivial⟩ ?_
  refine r_nil (r_next (r_ifF rfl ?_))
  refine r_skip (r_next (r_seq (r_reg (r_mv ?_))))
  refine r_op (t_ln rfl tyS22) ⟨rfl, trivial⟩ ?_
  obtain ⟨x112, h113, hF⟩ := bnd hF
  refine r_make (C := cI) rfl tyS22 rfl tyZ3 rfl h113 (fun b114 => ?_)
  refine r_as ?_
  refine r_nil (r_next (r_seq (r_reg (r_op (t_mv (.inr rfl)) ⟨k_nil cI, trivial⟩ ?_))))
  refine r_nil (r_next (r_seq (r_seq (r_reg (r_mv ?_)))))
  refine r_op (t_ln rfl tyS22) ⟨rfl, trivial⟩ ?_
  obtain ⟨v117, h118, hF⟩ := bnd hF
  refine r_op (t_sub rfl h118) ⟨rfl, k_I _ _, trivial⟩ ?_
  refine r_as ?_
  refine r_nil (r_next (r_blk (r_cutN (fun H E => ∃ (x135 : List Int), ∃ (x141 : List Int), F_gantryref04_divided_j143 K x135 x141 = some r ∧ x135.length = x112.length ∧ H = [hO cI b114 x112.length 3 x112.length x135] ∧ E = [(8, .vc (pO b114 x112.length x112.length)), (9, .vc (pS cI x141))]) ?_ (fun Jj143 => ?_))))
  · rintro _ _ ⟨x135, x141, hF, q139, rfl, rfl⟩
    unfold F_gantryref04_divided_j143 at hF
    refine r_next (r_seq (r_reg (r_mv ?_)))
    refine r_mv ?_
    refine r_as ?_
    refine r_as ?_
    refine r_nil (r_next (r_ret (r_toR (r_fzX 0 [4, 8, 93] rfl q139 ⟨rfl, rfl, rfl, trivial⟩ rfl ?_))))
    obtain rfl := sm1 hF
    exact r_done1 (.inl rfl) Tryz.results160 (.tmp rfl (.tmp rfl .nil)) rfl rfl
  obtain ⟨⟨x135', x141'⟩, hL, hRl142⟩ := bnd hF
  refine r_lp (fun k a w => ∃ (x127 : List Int), ∃ (x133 : List Int), ∃ (x134 : Int), F_gantryref04_divided_l142 K a0 a1 k x127 x133 x134 = some (x135', x141') ∧ x127.length = x112.length ∧ hs _ [hO cI b114 x112.length 3 x112.length x127] [(0, .vc (pS cI a0)), (1, .vc (pS cI a1)), (8, .vc (pO b114 x112.length x112.length)), (9, .vc (pS cI x133)), (10, .vc (pI .i64 x134))] a w) K (fun a w ⟨_, _, _, hF, _, _⟩ => by cases hF) (fun k a w ⟨x127, x133, x134, hF, q131, hh⟩ => r_at ?_ hh) (fun a w hh => ⟨x112, [], v117, hL, rfl, hs_back [0] rfl (by decide) (by exact ⟨rfl, rfl, rfl, rfl, rfl, trivial⟩) hh⟩)
  rw [F_gantryref04_divided_l142.eq_2] at hF
  refine r_seq (r_seq (r_reg (r_mv ?_)))
  refine r_op (t_ge rfl) ⟨rfl, k_I _ _, trivial⟩ ?_
  refine r_nil (r_next (r_if rfl (fun h144 => ?_) (fun h144 => ?_)))
  · have hF := cnd_t h144 hF
    refine r_skip (r_next (r_seq (r_blk (r_seq (r_reg (r_mv ?_))))))
    refine r_mv ?_
    obtain ⟨v145, h146, hF⟩ := bnd hF
    refine r_op (t_ix rfl tyS22 h146) ⟨rfl, rfl, trivial⟩ ?_
    refine r_op (t_lM 1 rfl rfl (.one tyO3)) ⟨rfl, trivial⟩ ?_
    refine r_hv (hv_bs (C := cI) (xs := [.tmp 53]) (ps := [.vc (pI .i64 v145)]) (zs := [v145]) rfl tyS22 rfl ⟨⟨trivial, rfl⟩, trivial⟩ rfl) ⟨rfl, trivial⟩ (fun b147 _ => ?_)
    refine r_mv ?_
    obtain ⟨x150, h151, hF⟩ := bnd hF
    refine r_app 0 rfl tyS22 rfl rfl rfl rfl rfl h151 (fun b152 c153 H154 e155 => ?_)
    cases e155
    refine r_fzL 0 [56] rfl (apL_len h151 rfl) ⟨rfl, trivial⟩ rfl ?_
    obtain ⟨v157, h158, hF⟩ := bnd hF
    refine r_op (t_call rfl (ct_gantryref04_normal h158) rfl) ⟨k_B _, rfl, trivial⟩ ?_
    refine r_alloc rfl tyZ33 (fun b159 => ?_)
    refine r_op0 (t_s 0 rfl rfl rfl tyA33.s) ⟨rfl, rfl, trivial⟩ ?_
    refine r_nil (r_next (r_seq (r_reg (r_op (t_fa (off := 0) (k := 1) rfl tyF33_1) ⟨rfl, trivial⟩ ?_))))
    refine r_op (t_l 0 1 rfl rfl rfl rfl (.one tyO22)) ⟨rfl, trivial⟩ ?_
    refine r_as ?_
    refine r_nil (r_next (r_seq (r_reg (r_op (t_mv (.inr rfl)) ⟨k_I _ _, trivial⟩ ?_))))
    refine r_nil (r_next (r_seq (r_reg (r_op (t_mv (.inr rfl)) ⟨k_I _ _, trivial⟩ ?_))))
    refine r_nil (r_next (r_seq (r_cutS (fun H E => ∃ (x161 : Int), F_gantryref04_divided_j162 K a1 x127 x134 v157 (F_gantryref04_divided_l142 K a0 a1 k) x161 = some (x135', x141') ∧ H = [hO cI b114 x112.length 3 x112.length x127] ∧ E = [(0, .vc (pS cI a0)), (1, .vc (pS cI a1)), (8, .vc (pO b114 x112.length x112.length)), (9, .vc (pS cI v157.d)), (10, .vc (pI .i64 x134)), (12, .vc (pI .i64 0)), (13, .vc (pI .i64 x161))]) ?_ (fun Jj162 => ?_))))
    · rintro _ _ ⟨x161, hF, rfl, rfl⟩
      unfold F_gantryref04_divided_j162 at hF
      refine r_seq (r_blk (r_cutN (fun H E => ∃ (x167 : Int), F_gantryref04_divided_j169 K a1 x127 x134 v157 (F_gantryref04_divided_l142 K a0 a1 k) x167 = some (x135', x141') ∧ H = [hO cI b114 x112.length 3 x112.length x127] ∧ E = [(0, .vc (pS cI a0)), (1, .vc (pS cI a1)), (8, .vc (pO b114 x112.length x112.length)), (9, .vc (pS cI v157.d)), (10, .vc (pI .i64 x134)), (12, .vc (pI .i64 x167))]) ?_ (fun Jj169 => ?_)))
      · rintro _ _ ⟨x167, hF, rfl, rfl⟩
        unfold F_gantryref04_divided_j169 at hF
        refine r_next (r_seq (r_reg (r_mv ?_)))
        refine r_mv ?_
        refine r_mv ?_
        obtain ⟨v170, h171, hF⟩ := bnd hF
        refine r_op (t_call rfl (ct_gantryref04_times h171) rfl) ⟨rfl, rfl, trivial⟩ ?_
        obtain ⟨v172, h173, hF⟩ := bnd hF
        refine r_op (t_call rfl (ct_gantryref04_minus h173) rfl) ⟨rfl, rfl, trivial⟩ ?_
        obtain ⟨v174, h175, hF⟩ := bnd hF
        refine r_op (t_call rfl (ct_gantryref04_normal h175) rfl) ⟨k_B _, rfl, trivial⟩ ?_
        refine r_alloc rfl tyZ33 (fun b176 => ?_)
        refine r_op0 (t_s 0 rfl rfl rfl tyA33.s) ⟨rfl, rfl, trivial⟩ ?_
        refine r_nil (r_next (r_seq (r_reg (r_mv ?_))))
        refine r_mv ?_
        refine r_mv ?_
        obtain ⟨v177, h178, hF⟩ := bnd hF
        refine r_op (t_ixE (C := cI) 1 rfl tyS22 rfl q131 (rdL_some h178).1 (rdL_some h178).2.1) ⟨rfl, rfl, trivial⟩ ?_
        obtain ⟨x179, h180, hF⟩ := bnd hF
        refine r_op0 (t_stE 1 rfl rfl h178 h180 tyO3.s) ⟨rfl, rfl, trivial⟩ ?_
        refine r_nil (r_next (r_reg (r_op (t_fa (off := 0) (k := 1) rfl tyF33_1) ⟨rfl, trivial⟩ ?_)))
        refine r_op (t_l 0 1 rfl rfl rfl rfl (.one tyO22)) ⟨rfl, trivial⟩ ?_
        refine r_as ?_
        refine r_nil (r_blkN (r_next (r_reg (r_mv ?_))))
        obtain ⟨v182, h183, hF⟩ := bnd hF
        refine r_op (t_sub rfl h183) ⟨rfl, k_I _ _, trivial⟩ ?_
        refine r_as ?_
        refine r_nil ?_
        exact r_round (fun a w hh => ⟨x179, v174.d, v182, hF, (stL_len h180 q131), hs_back [1] rfl (by decide) (by exact ⟨rfl, rfl, rfl, rfl, rfl, trivial⟩) hh⟩)
      obtain ⟨x167', hL, hRl168⟩ := bnd hF
      refine r_lp (fun k a w => ∃ (x165 : Int), ∃ (x166 : Int), F_gantryref04_divided_l168 K a1 v157 k x165 x166 = some x167' ∧ hs _ [hO cI b114 x112.length 3 x112.length x127] [(0, .vc (pS cI a0)), (1, .vc (pS cI a1)), (8, .vc (pO b114 x112.length x112.length)), (9, .vc (pS cI v157.d)), (10, .vc (pI .i64 x134)), (12, .vc (pI .i64 x165)), (13, .vc (pI .i64 x166))] a w) K (fun a w ⟨_, _, hF, _⟩ => by cases hF) (fun k a w ⟨x165, x166, hF, hh⟩ => r_at ?_ hh) (fun a w hh => ⟨0, x161, hL, hs_back [0] rfl (by decide) (by exact ⟨rfl, rfl, rfl, rfl, rfl, rfl, rfl, trivial⟩) hh⟩)
      rw [F_gantryref04_divided_l168.eq_2] at hF
      refine r_seq (r_seq (r_reg (r_mv ?_)))
      refine r_mv ?_
      refine r_op (t_lt rfl) ⟨rfl, rfl, trivial⟩ ?_
      refine r_nil (r_next (r_if rfl (fun h184 => ?_) (fun h184 => ?_)))
      · have hF := cnd_t h184 hF
        refine r_skip (r_next (r_blk (r_seq (r_reg (r_mv ?_)))))
        refine r_mv ?_
        obtain ⟨v185, h186, hF⟩ := bnd hF
        refine r_op (t_add rfl h186) ⟨rfl, rfl, trivial⟩ ?_
        obtain ⟨v187, h188, hF⟩ := bnd hF
        refine r_op (t_add rfl h188) ⟨rfl, k_I _ _, trivial⟩ ?_
        obtain ⟨v189, h190, hF⟩ := bnd hF
        refine r_op (t_quo rfl h190) ⟨rfl, k_I _ _, trivial⟩ ?_
        refine r_as ?_
        refine r_nil (r_next (r_seq (r_reg (r_mv ?_))))
        refine r_mv ?_
        obtain ⟨v191, h192, hF⟩ := bnd hF
        refine r_op (t_call rfl (ct_gantryref04_times h192) rfl) ⟨rfl, rfl, trivial⟩ ?_
        refine r_mv ?_
        obtain ⟨v193, h194, hF⟩ := bnd hF
        refine r_op (t_call rfl (ct_gantryref04_compared h194) rfl) ⟨rfl, rfl, trivial⟩ ?_
        refine r_op (t_le rfl) ⟨rfl, k_I _ _, trivial⟩ ?_
        refine r_nil (r_next (r_if rfl (fun h195 => ?_) (fun h195 => ?_)))
        · have hF := cnd_t h195 hF
          refine r_reg (r_mv ?_)
          refine r_as ?_
          refine r_nil (r_blkN ?_)
          exact r_round (fun a w hh => ⟨v189, x166, hF, hs_back [0] rfl (by decide) (by exact ⟨rfl, rfl, rfl, rfl, rfl, rfl, rfl, trivial⟩) hh⟩)
        have hF := cnd_f h195 hF
        refine r_reg (r_mv ?_)
        obtain ⟨v196, h197, hF⟩ := bnd hF
        refine r_op (t_sub rfl h197) ⟨rfl, k_I _ _, trivial⟩ ?_
        refine r_as ?_
        refine r_nil (r_blkN ?_)
        exact r_round (fun a w hh => ⟨x165, v196, hF, hs_back [0] rfl (by decide) (by exact ⟨rfl, rfl, rfl, rfl, rfl, rfl, rfl, trivial⟩) hh⟩)
      have hF := cnd_f h184 hF
      refine r_brk ?_
      obtain rfl := sm1 hF
      exact r_backJ Jj169 ⟨x165, hRl168, rfl, rfl⟩ [0] rfl ⟨rfl, rfl, rfl, rfl, rfl, rfl, trivial⟩
    refine r_seq (r_reg (r_mv ?_))
    refine r_mv ?_
    obtain ⟨v198, h199, hF⟩ := bnd hF
    refine r_op (t_call rfl (ct_gantryref04_compared h199) rfl) ⟨rfl, rfl, trivial⟩ ?_
    refine r_op (t_lt rfl) ⟨rfl, k_I _ _, trivial⟩ ?_
    refine r_nil (r_next (r_if rfl (fun h200 => ?_) (fun h200 => ?_)))
    · have hF := cnd_t h200 hF
      refine r_reg (r_op (t_mv (.inr rfl)) ⟨k_I _ _, trivial⟩ ?_)
      refine r_nil ?_
      exact r_backJ Jj162 ⟨0, hF, rfl, rfl⟩ [1] rfl ⟨rfl, rfl, rfl, rfl, rfl, rfl, rfl, trivial⟩
    have hF := cnd_f h200 hF
    refine r_skip ?_
    exact r_backJ Jj162 ⟨999999999, hF, rfl, rfl⟩ [1] rfl ⟨rfl, rfl, rfl, rfl, rfl, rfl, rfl, trivial⟩
  have hF := cnd_f h144 hF
  refine r_brk ?_
  obtain ⟨rfl, rfl⟩ := sm2 hF
  exact r_backJ Jj143 ⟨x127, x133, hRl142, q131, rfl, rfl⟩ [0] rfl ⟨rfl, rfl, trivial⟩
def F_gantryref04_Div (K : Nat) (a0 : GInt) (a1 : GInt) : Option (GInt × GInt) :=
  bif ((a1.d.length : Int) == 0) then (some ((⟨false, ([] : List Int)⟩ : GInt), (⟨false, ([] : List Int)⟩ : GInt))) else ((F_gantryref04_divided K a0.d a1.d).bind fun v6 => (F_gantryref04_normal K (a0.neg != a1.neg) v6.1).bind fun v8 => (F_gantryref04_normal K false v6.2).bind fun v11 => bif a0.neg then (bif (decide (0 < (v11.d.length : Int))) then ((F_gantryref04_normal K (a0.neg != a1.neg) [1]).bind fun v18 => (F_gantryref04_Add K v8 v18).bind fun v20 => (F_gantryref04_minus K a1.d v11.d).bind fun v22 => (F_gantryref04_normal K false v22).bind fun v24 => some (v20, v24)) else (some (v8, v11))) else (some (v8, v11)))
theorem ct_gantryref04_Div {K : Nat} {a0 : GInt} {a1 : GInt} {r : GInt × GInt} (hF : F_gantryref04_Div K a0 a1 = some r) : Ct Tryz.prog 127 [.va (GInt.e a0), .va (GInt.e a1)] (.t2 (.va (GInt.e r.1)) (.va (GInt.e r.2))) := by
  unfold F_gantryref04_Div at hF
  refine ctO_intro Tryz.func127 rfl (by kernel_rfl) Tryz.ntmps127 rfl (fun w0 M0 => ?_)
  refine r_seq (r_reg (r_box rfl rfl trivial (fun b1 => ?_)))
  refine r_box rfl rfl trivial (fun b2 => ?_)
  refine r_alloc rfl tyZ33 (fun b3 => ?_)
  refine r_alloc rfl tyZ33 (fun b4 => ?_)
  refine r_nil (r_next (r_seq (r_seq (r_reg (r_op (t_fa (off := 0) (k := 1) rfl tyF33_1) ⟨rfl, trivial⟩ ?_)))))
  refine r_op (t_l 2 1 rfl rfl rfl rfl (.one tyO22)) ⟨rfl, trivial⟩ ?_
  refine r_op (t_ln rfl tyS22) ⟨rfl, trivial⟩ ?_
  refine r_op (t_eq rfl) ⟨rfl, k_I _ _, trivial⟩ ?_
  refine r_nil (r_next (r_if rfl (fun h5 => ?_) (fun h5 => ?_)))
  · have hF := cnd_t h5 hF
    refine r_seq (r_reg (r_op (t_bld (is := []) (xs := []) (ps := []) rfl tyB33 rfl rfl trivial rfl) trivial ?_))
    refine r_op (t_bld (is := []) (xs := []) (ps := []) rfl tyB33 rfl rfl trivial rfl) trivial ?_
    refine r_op0 (t_s 1 rfl rfl rfl tyA33.s) ⟨rfl, rfl, trivial⟩ ?_
    refine r_op0 (t_s 0 rfl rfl rfl tyA33.s) ⟨rfl, rfl, trivial⟩ ?_
    refine r_nil (r_next (r_ret (r_toR ?_)))
    obtain rfl := sm1 hF
    exact r_done1 (.inl rfl) Tryz.results127 (rv_cell 1 2 rfl rfl rfl rfl (.agg tyA33) (rv_cell 0 2 rfl rfl rfl rfl (.agg tyA33) .nil)) rfl rfl
  have hF := cnd_f h5 hF
  refine r_skip (r_next (r_seq (r_reg (r_op (t_fa (off := 0) (k := 1) rfl tyF33_1) ⟨rfl, trivial⟩ ?_))))
  refine r_op (t_l 3 1 rfl rfl rfl rfl (.one tyO22)) ⟨rfl, trivial⟩ ?_
  refine r_op (t_fa (off := 0) (k := 1) rfl tyF33_1) ⟨rfl, trivial⟩ ?_
  refine r_op (t_l 2 1 rfl rfl rfl rfl (.one tyO22)) ⟨rfl, trivial⟩ ?_
  obtain ⟨v6, h7, hF⟩ := bnd hF
  refine r_op (t_call rfl (ct_gantryref04_divided h7) rfl) ⟨rfl, rfl, trivial⟩ ?_
  refine r_mv ?_
  refine r_op (t_ext2a rfl) ⟨rfl, trivial⟩ ?_
  refine r_op (t_ext2b rfl) ⟨rfl, trivial⟩ ?_
  refine r_as ?_
  refine r_as ?_
  refine r_nil (r_next (r_seq (r_reg (r_op (t_fa (off := 0) (k := 0) rfl tyF33_0) ⟨rfl, trivial⟩ ?_))))
  refine r_op (t_l 3 1 rfl rfl rfl rfl (.one tyO4)) ⟨rfl, trivial⟩ ?_
  refine r_op (t_fa (off := 0) (k := 0) rfl tyF33_0) ⟨rfl, trivial⟩ ?_
  refine r_op (t_l 2 1 rfl rfl rfl rfl (.one tyO4)) ⟨rfl, trivial⟩ ?_
  refine r_op (t_neB rfl Tryz.underlying4) ⟨rfl, rfl, trivial⟩ ?_
  refine r_mv ?_
  obtain ⟨v8, h9, hF⟩ := bnd hF
  refine r_op (t_call rfl (ct_gantryref04_normal h9) rfl) ⟨rfl, rfl, trivial⟩ ?_
  refine r_alloc rfl tyZ33 (fun b10 => ?_)
  refine r_op0 (t_s 0 rfl rfl rfl tyA33.s) ⟨rfl, rfl, trivial⟩ ?_
  refine r_nil (r_next (r_seq (r_reg (r_mv ?_))))
  obtain ⟨v11, h12, hF⟩ := bnd hF
  refine r_op (t_call rfl (ct_gantryref04_normal h12) rfl) ⟨k_B _, rfl, trivial⟩ ?_
  refine r_alloc rfl tyZ33 (fun b13 => ?_)
  refine r_op0 (t_s 0 rfl rfl rfl tyA33.s) ⟨rfl, rfl, trivial⟩ ?_
  refine r_nil (r_next (r_seq (r_seq (r_reg (r_op (t_fa (off := 0) (k := 0) rfl tyF33_0) ⟨rfl, trivial⟩ ?_)))))
  refine r_op (t_l 5 1 rfl rfl rfl rfl (.one tyO4)) ⟨rfl, trivial⟩ ?_
  refine r_mv ?_
  refine r_bool (fun h14 => ?_) (fun h14 => ?_)
  · have hF := cnd_t h14 hF
    refine r_opg (t_fa (off := 0) (k := 1) rfl tyF33_1) ⟨rfl, trivial⟩ ?_
    refine r_opg (t_l 0 1 rfl rfl rfl rfl (.one tyO22)) ⟨rfl, trivial⟩ ?_
    refine r_opg (t_ln rfl tyS22) ⟨rfl, trivial⟩ ?_
    refine r_opg (t_gt rfl) ⟨rfl, k_I _ _, trivial⟩ ?_
    refine r_op (t_pickT rfl) ⟨rfl, rfl, trivial⟩ ?_
    refine r_nil (r_next (r_if rfl (fun h15 => ?_) (fun h15 => ?_)))
    · have hF := cnd_t h15 hF
      refine r_seq ?_
      obtain ⟨v18, h19, hF⟩ := bnd hF
      obtain ⟨v20, h21, hF⟩ := bnd hF
      refine r_draw [0, 0, 2, 0, 8, 30, 0, 126, 255, 511] 9 1 [.v (.va (GInt.e v8)), .v (.vc (pP (some b1) 0)), .v (.vc (pB a0.neg)), .v (.vc (pP (some b2) 0)), .v (.vc (pB a1.neg)), .v (.vc (pB (a0.neg != a1.neg))), .v (.vc (pS cI [1])), .v (.va (GInt.e v18)), .v (.va (GInt.e v20))] Tryz_mixed ⟨d0 (t_l 1 2 rfl rfl rfl rfl (.agg tyA33)) ⟨rfl, trivial⟩, d0 (t_fa (off := 0) (k := 0) rfl tyF33_0) ⟨rfl, trivial⟩, d0 (t_l 5 1 rfl rfl rfl rfl (.one tyO4)) ⟨rfl, trivial⟩, d0 (t_fa (off := 0) (k := 0) rfl tyF33_0) ⟨rfl, trivial⟩, d0 (t_l 4 1 rfl rfl rfl rfl (.one tyO4)) ⟨rfl, trivial⟩, ⟨rfl, .run (lo := 0) (n := 1) ⟨fun G16 A => t_neB rfl Tryz.underlying4, trivial⟩ (fun G16 => ⟨rfl, rfl, trivial⟩)⟩, d0 (t_bs (C := cI) (xs := [.const (.int .i64 (1))]) (ps := [.vc (pI .i64 1)]) (zs := [1]) rfl tyS22 rfl ⟨⟨trivial, rfl⟩, trivial⟩ rfl) ⟨k_I _ _, trivial⟩, d0 (t_call rfl (ct_gantryref04_normal h19) rfl) ⟨rfl, rfl, trivial⟩, d0 (t_call rfl (ct_gantryref04_Add h21) rfl) ⟨rfl, rfl, trivial⟩, trivial⟩ (fun bs17 G16 => ?_)
      refine r_op0 (t_s 1 rfl rfl rfl tyA33.s) ⟨rfl, rfl, trivial⟩ ?_
      refine r_nil (r_next (r_reg (r_op (t_fa (off := 0) (k := 1) rfl tyF33_1) ⟨rfl, trivial⟩ ?_)))
      refine r_op (t_l 4 1 rfl rfl rfl rfl (.one tyO22)) ⟨rfl, trivial⟩ ?_
      refine r_op (t_fa (off := 0) (k := 1) rfl tyF33_1) ⟨rfl, trivial⟩ ?_
      refine r_op (t_l 0 1 rfl rfl rfl rfl (.one tyO22)) ⟨rfl, trivial⟩ ?_
      obtain ⟨v22, h23, hF⟩ := bnd hF
      refine r_op (t_call rfl (ct_gantryref04_minus h23) rfl) ⟨rfl, rfl, trivial⟩ ?_
      obtain ⟨v24, h25, hF⟩ := bnd hF
      refine r_op (t_call rfl (ct_gantryref04_normal h25) rfl) ⟨k_B _, rfl, trivial⟩ ?_
      refine r_op0 (t_s 0 rfl rfl rfl tyA33.s) ⟨rfl, rfl, trivial⟩ ?_
      refine r_nil (r_next (r_seq (r_drawH (HsL [fun G26 => [⟨some b13, 1, 33, 2, 1, (GInt.e v24)⟩, ⟨some b10, 1, 33, 2, 1, (GInt.e v20)⟩, ⟨some b4, 1, 33, 2, 1, ([pB false] ++ [pS cI ([] : List Int)])⟩, ⟨some b3, 1, 33, 2, 1, ([pB false] ++ [pS cI ([] : List Int)])⟩, ⟨some b2, 1, 33, 2, 1, (GInt.e a1)⟩, ⟨some b1, 1, 33, 2, 1, (GInt.e a0)⟩], fun G26 => [⟨some b13, 1, 33, 2, 1, (GInt.e v24)⟩, ⟨some b10, 1, 33, 2, 1, (GInt.e v20)⟩, ⟨some b4, 1, 33, 2, 1, ([pB false] ++ [pS cI ([] : List Int)])⟩, ⟨some b3, 1, 33, 2, 1, (GInt.e v20)⟩, ⟨some b2, 1, 33, 2, 1, (GInt.e a1)⟩, ⟨some b1, 1, 33, 2, 1, (GInt.e a0)⟩]]) [2] [0, 0, 1, 7] 3 1 [.v (.va (GInt.e v20)), .v (.va (GInt.e v24)), .g (fun _ _ => .any)] Tryz_mixed ⟨d1 0 (t_l 1 2 rfl rfl rfl rfl (.agg tyA33)) ⟨rfl, trivial⟩, ⟨rfl, .run (lo := 0) (n := 2) ⟨fun G26 A => t_l 0 2 rfl rfl rfl rfl (.agg tyA33), fun G26 A => t_l 0 2 rfl rfl rfl rfl (.agg tyA33), trivial⟩ (fun G26 => ⟨rfl, trivial⟩)⟩, ⟨rfl, .hvy 0 (fun G26 A => hv_tr (t_s 3 rfl rfl rfl tyA33.s)) (fun G26 => ⟨rfl, rfl, trivial⟩)⟩, trivial⟩ (fun bs27 G26 => ?_))))
      refine r_op0 (t_s 2 rfl rfl rfl tyA33.s) ⟨rfl, rfl, trivial⟩ ?_
      refine r_nil (r_next (r_ret (r_toR ?_)))
      obtain rfl := sm1 hF
      exact r_done1 (.inl rfl) Tryz.results127 (rv_cell 3 2 rfl rfl rfl rfl (.agg tyA33) (rv_cell 2 2 rfl rfl rfl rfl (.agg tyA33) .nil)) rfl rfl
    have hF := cnd_f h15 hF
    refine r_skip (r_next (r_seq (r_drawH (HsL [fun G28 => [⟨some b13, 1, 33, 2, 1, (GInt.e v11)⟩, ⟨some b10, 1, 33, 2, 1, (GInt.e v8)⟩, ⟨some b4, 1, 33, 2, 1, ([pB false] ++ [pS cI ([] : List Int)])⟩, ⟨some b3, 1, 33, 2, 1, ([pB false] ++ [pS cI ([] : List Int)])⟩, ⟨some b2, 1, 33, 2, 1, (GInt.e a1)⟩, ⟨some b1, 1, 33, 2, 1, (GInt.e a0)⟩], fun G28 => [⟨some b13, 1, 33, 2, 1, (GInt.e v11)⟩, ⟨some b10, 1, 33, 2, 1, (GInt.e v8)⟩, ⟨some b4, 1, 33, 2, 1, ([pB false] ++ [pS cI ([] : List Int)])⟩, ⟨some b3, 1, 33, 2, 1, (GInt.e v8)⟩, ⟨some b2, 1, 33, 2, 1, (GInt.e a1)⟩, ⟨some b1, 1, 33, 2, 1, (GInt.e a0)⟩]]) [2] [0, 0, 1, 7] 3 1 [.v (.va (GInt.e v8)), .v (.va (GInt.e v11)), .g (fun _ _ => .any)] Tryz_mixed ⟨d1 0 (t_l 1 2 rfl rfl rfl rfl (.agg tyA33)) ⟨rfl, trivial⟩, ⟨rfl, .run (lo := 0) (n := 2) ⟨fun G28 A => t_l 0 2 rfl rfl rfl rfl (.agg tyA33), fun G28 A => t_l 0 2 rfl rfl rfl rfl (.agg tyA33), trivial⟩ (fun G28 => ⟨rfl, trivial⟩)⟩, ⟨rfl, .hvy 0 (fun G28 A => hv_tr (t_s 3 rfl rfl rfl tyA33.s)) (fun G28 => ⟨rfl, rfl, trivial⟩)⟩, trivial⟩ (fun bs29 G28 => ?_))))
    refine r_op0 (t_s 2 rfl rfl rfl tyA33.s) ⟨rfl, rfl, trivial⟩ ?_
    refine r_nil (r_next (r_ret (r_toR ?_)))
    obtain rfl := sm1 hF
    exact r_done1 (.inl rfl) Tryz.results127 (rv_cell 3 2 rfl rfl rfl rfl (.agg tyA33) (rv_cell 2 2 rfl rfl rfl rfl (.agg tyA33) .nil)) rfl rfl
  have hF := cnd_f h14 hF
  refine r_opn ?_
  refine r_opn ?_
  refine r_opn ?_
  refine r_opn ?_
  refine r_op (t_pickF rfl) ⟨rfl, k_B _, trivial⟩ ?_
  refine r_nil (r_next (r_ifF rfl ?_))
  refine r_skip (r_next (r_seq (r_drawH (HsL [fun G30 => [⟨some b13, 1, 33, 2, 1, (GInt.e v11)⟩, ⟨some b10, 1, 33, 2, 1, (GInt.e v8)⟩, ⟨some b4, 1, 33, 2, 1, ([pB false] ++ [pS cI ([] : List Int)])⟩, ⟨some b3, 1, 33, 2, 1, ([pB false] ++ [pS cI ([] : List Int)])⟩, ⟨some b2, 1, 33, 2, 1, (GInt.e a1)⟩, ⟨some b1, 1, 33, 2, 1, (GInt.e a0)⟩], fun G30 => [⟨some b13, 1, 33, 2, 1, (GInt.e v11)⟩, ⟨some b10, 1, 33, 2, 1, (GInt.e v8)⟩, ⟨some b4, 1, 33, 2, 1, ([pB false] ++ [pS cI ([] : List Int)])⟩, ⟨some b3, 1, 33, 2, 1, (GInt.e v8)⟩, ⟨some b2, 1, 33, 2, 1, (GInt.e a1)⟩, ⟨some b1, 1, 33, 2, 1, (GInt.e a0)⟩]]) [2] [0, 0, 1, 7] 3 1 [.v (.va (GInt.e v8)), .v (.va (GInt.e v11)), .g (fun _ _ => .any)] Tryz_mixed ⟨d1 0 (t_l 1 2 rfl rfl rfl rfl (.agg tyA33)) ⟨rfl, trivial⟩, ⟨rfl, .run (lo := 0) (n := 2) ⟨fun G30 A => t_l 0 2 rfl rfl rfl rfl (.agg tyA33), fun G30 A => t_l 0 2 rfl rfl rfl rfl (.agg tyA33), trivial⟩ (fun G30 => ⟨rfl, trivial⟩)⟩, ⟨rfl, .hvy 0 (fun G30 A => hv_tr (t_s 3 rfl rfl rfl tyA33.s)) (fun G30 => ⟨rfl, rfl, trivial⟩)⟩, trivial⟩ (fun bs31 G30 => ?_))))
  refine r_op0 (t_s 2 rfl rfl rfl tyA33.s) ⟨rfl, rfl, trivial⟩ ?_
  refine r_nil (r_next (r_ret (r_toR ?_)))
  obtain rfl := sm1 hF
  exact r_done1 (.inl rfl) Tryz.results127 (rv_cell 3 2 rfl rfl rfl rfl (.agg tyA33) (rv_cell 2 2 rfl rfl rfl rfl (.agg tyA33) .nil)) rfl rfl
def F_gantryref04_Gcd_j16 (K : Nat) (x14 : GInt) : Option GInt :=
  some x14
def F_gantryref04_Gcd_j30 (K : Nat) (x28 : Int) : Option (LR GInt GInt) :=
  (F_gantryref04_Of K x28).bind fun v31 => some (.ret v31)
def F_gantryref04_Gcd_l29 (K : Nat) : Nat → Int → Int → Option Int
  | 0, _, _ => none
  | k + 1, x26, x27 => bif (decide (0 < x27)) then ((chr x26 x27).bind fun v34 => F_gantryref04_Gcd_l29 K k x27 v34) else (some x26)
def F_gantryref04_Gcd_l15 (K : Nat) : Nat → GInt → GInt → Option (LR GInt GInt)
  | 0, _, _ => none
  | k + 1, x12, x13 => bif (decide (0 < (x12.d.length : Int))) then (bif (decide ((x13.d.length : Int) ≤ 2)) then (bif (decide ((x12.d.length : Int) ≤ 2)) then ((F_gantryref04_tiny x13.d).bind fun v20 => (F_gantryref04_tiny x12.d).bind fun v22 => (F_gantryref04_Gcd_l29 K K v20 v22).bind fun x28 => F_gantryref04_Gcd_j30 K x28) else ((F_gantryref04_Div K x13 x12).bind fun v36 => F_gantryref04_Gcd_l15 K k v36.2 x12)) else ((F_gantryref04_Div K x13 x12).bind fun v40 => F_gantryref04_Gcd_l15 K k v40.2 x12)) else (some (.go x13))
def F_gantryref04_Gcd (K : Nat) (a0 : GInt) (a1 : GInt) : Option GInt :=
  (F_gantryref04_normal K false a0.d).bind fun v4 => (F_gantryref04_normal K false a1.d).bind fun v7 => (F_gantryref04_Gcd_l15 K K v7 v4).bind fun o => match o with | .ret r => some r | .go x14 => F_gantryref04_Gcd_j16 K x14
theorem ct_gantryref04_Gcd {K : Nat} {a0 : GInt} {a1 : GInt} {r : GInt} (hF : F_gantryref04_Gcd K a0 a1 = some r) : Ct Tryz.prog 126 [.va (GInt.e a0), .va (GInt.e a1)] (.va (GInt.e r)) := by
  unfold F_gantryref04_Gcd at hF
  refine ctO_intro Tryz.func126 rfl (by kernel_rfl) Tryz.ntmps126 rfl (fun w0 M0 => ?_)
  refine r_seq (r_reg (r_box rfl rfl trivial (fun b1 => ?_)))
  refine r_box rfl rfl trivial (fun b2 => ?_)
  refine r_alloc rfl tyZ33 (fun b3 => ?_)
  refine r_nil (r_next (r_seq (r_reg (r_op (t_fa (off := 0) (k := 1) rfl tyF33_1) ⟨rfl, trivial⟩ ?_))))
  refine r_op (t_l 2 1 rfl rfl rfl rfl (.one tyO22)) ⟨rfl, trivial⟩ ?_
  obtain ⟨v4, h5, hF⟩ := bnd hF
  refine r_op (t_call rfl (ct_gantryref04_normal h5) rfl) ⟨k_B _, rfl, trivial⟩ ?_
  refine r_alloc rfl tyZ33 (fun b6 => ?_)
  refine r_op0 (t_s 0 rfl rfl rfl tyA33.s) ⟨rfl, rfl, trivial⟩ ?_
  refine r_nil (r_next (r_seq (r_reg (r_op (t_fa (off := 0) (k := 1) rfl tyF33_1) ⟨rfl, trivial⟩ ?_))))
  refine r_op (t_l 2 1 rfl rfl rfl rfl (.one tyO22)) ⟨rfl, trivial⟩ ?_
  obtain ⟨v7, h8, hF⟩ := bnd hF
  refine r_op (t_call rfl (ct_gantryref04_normal h8) rfl) ⟨k_B _, rfl, trivial⟩ ?_
  refine r_alloc rfl tyZ33 (fun b9 => ?_)
  refine r_op0 (t_s 0 rfl rfl rfl tyA33.s) ⟨rfl, rfl, trivial⟩ ?_
  refine r_nil (r_next (r_seq (r_blk (r_cutN (fun H E => ∃ (x14 : GInt), F_gantryref04_Gcd_j16 K x14 = some r ∧ H = [⟨some b6, 1, 33, 2, 1, (GInt.e x14)⟩, ⟨some b3, 1, 33, 2, 1, ([pB false] ++ [pS cI ([] : List Int)])⟩] ∧ E = [(4, .vc (pP (some b3) 0)), (5, .vc (pP (some b6) 0))]) ?_ (fun Jj16 => ?_)))))
  · rintro _ _ ⟨x14, hF, rfl, rfl⟩
    unfold F_gantryref04_Gcd_j16 at hF
    refine r_next (r_seq (r_reg (r_op (t_l 0 2 rfl rfl rfl rfl (.agg tyA33)) ⟨rfl, trivial⟩ ?_)))
    refine r_op0 (t_s 1 rfl rfl rfl tyA33.s) ⟨rfl, rfl, trivial⟩ ?_
    refine r_nil (r_next (r_ret (r_toR ?_)))
    obtain rfl := sm1 hF
    exact r_done1 (.inl rfl) Tryz.results126 (rv_cell 1 2 rfl rfl rfl rfl (.agg tyA33) .nil) rfl rfl
  obtain ⟨ol15, hL, hRl15⟩ := bnd hF
  refine r_lp (fun k a w => ∃ (x12 : GInt), ∃ (x13 : GInt), F_gantryref04_Gcd_l15 K k x12 x13 = some ol15 ∧ hs _ [⟨some b9, 1, 33, 2, 1, (GInt.e x12)⟩, ⟨some b6, 1, 33, 2, 1, (GInt.e x13)⟩, ⟨some b3, 1, 33, 2, 1, ([pB false] ++ [pS cI ([] : List Int)])⟩] [(4, .vc (pP (some b3) 0)), (5, .vc (pP (some b6) 0)), (6, .vc (pP (some b9) 0))] a w) K (fun a w ⟨_, _, hF, _⟩ => by cases hF) (fun k a w ⟨x12, x13, hF, hh⟩ => r_at ?_ hh) (fun a w hh => ⟨v7, v4, hL, hs_back [0, 1, 2] rfl (by decide) (by exact ⟨rfl, rfl, rfl, trivial⟩) hh⟩)
  rw [F_gantryref04_Gcd_l15.eq_2] at hF
  refine r_seq (r_seq (r_reg (r_op (t_fa (off := 0) (k := 1) rfl tyF33_1) ⟨rfl, trivial⟩ ?_)))
  refine r_op (t_l 0 1 rfl rfl rfl rfl (.one tyO22)) ⟨rfl, trivial⟩ ?_
  refine r_op (t_ln rfl tyS22) ⟨rfl, trivial⟩ ?_
  refine r_op (t_gt rfl) ⟨rfl, k_I _ _, trivial⟩ ?_
  refine r_nil (r_next (r_if rfl (fun h17 => ?_) (fun h17 => ?_)))
  · have hF := cnd_t h17 hF
    refine r_skip (r_next (r_blk (r_seq (r_seq (r_reg (r_op (t_fa (off := 0) (k := 1) rfl tyF33_1) ⟨rfl, trivial⟩ ?_))))))
    refine r_op (t_l 1 1 rfl rfl rfl rfl (.one tyO22)) ⟨rfl, trivial⟩ ?_
    refine r_op (t_ln rfl tyS22) ⟨rfl, trivial⟩ ?_
    refine r_op (t_le rfl) ⟨rfl, k_I _ _, trivial⟩ ?_
    refine r_mv ?_
    refine r_bool (fun h18 => ?_) (fun h18 => ?_)
    · have hF := cnd_t h18 hF
      refine r_opg (t_fa (off := 0) (k := 1) rfl tyF33_1) ⟨rfl, trivial⟩ ?_
      refine r_opg (t_l 0 1 rfl rfl rfl rfl (.one tyO22)) ⟨rfl, trivial⟩ ?_
      refine r_opg (t_ln rfl tyS22) ⟨rfl, trivial⟩ ?_
      refine r_opg (t_le rfl) ⟨rfl, k_I _ _, trivial⟩ ?_
      refine r_op (t_pickT rfl) ⟨rfl, rfl, trivial⟩ ?_
      refine r_nil (r_next (r_if rfl (fun h19 => ?_) (fun h19 => ?_)))
      · have hF := cnd_t h19 hF
        refine r_seq (r_reg (r_op (t_fa (off := 0) (k := 1) rfl tyF33_1) ⟨rfl, trivial⟩ ?_))
        refine r_op (t_l 1 1 rfl rfl rfl rfl (.one tyO22)) ⟨rfl, trivial⟩ ?_
        obtain ⟨v20, h21, hF⟩ := bnd hF
        refine r_op (t_call rfl (ct_gantryref04_tiny h21) rfl) ⟨rfl, trivial⟩ ?_
        refine r_as ?_
        refine r_nil (r_next (r_seq (r_reg (r_op (t_fa (off := 0) (k := 1) rfl tyF33_1) ⟨rfl, trivial⟩ ?_))))
        refine r_op (t_l 0 1 rfl rfl rfl rfl (.one tyO22)) ⟨rfl, trivial⟩ ?_
        obtain ⟨v22, h23, hF⟩ := bnd hF
        refine r_op (t_call rfl (ct_gantryref04_tiny h23) rfl) ⟨rfl, trivial⟩ ?_
        refine r_as ?_
        refine r_nil (r_next (r_seq (r_blk (r_cutN (fun H E => ∃ (x28 : Int), F_gantryref04_Gcd_j30 K x28 = some ol15 ∧ H = [⟨some b3, 1, 33, 2, 1, ([pB false] ++ [pS cI ([] : List Int)])⟩] ∧ E = [(4, .vc (pP (some b3) 0)), (7, .vc (pI .i64 x28))]) ?_ (fun Jj30 => ?_)))))
        · rintro _ _ ⟨x28, hF, rfl, rfl⟩
          unfold F_gantryref04_Gcd_j30 at hF
          refine r_next (r_seq (r_reg (r_mv ?_)))
          obtain ⟨v31, h32, hF⟩ := bnd hF
          refine r_op (t_call rfl (ct_gantryref04_Of h32) rfl) ⟨rfl, trivial⟩ ?_
          refine r_op0 (t_s 0 rfl rfl rfl tyA33.s) ⟨rfl, rfl, trivial⟩ ?_
          refine r_nil (r_next (r_ret (r_toR ?_)))
          obtain rfl := sm1 hF
          obtain rfl := sm1 hRl15
          exact r_done1 (.inl rfl) Tryz.results126 (rv_cell 0 2 rfl rfl rfl rfl (.agg tyA33) .nil) rfl rfl
        obtain ⟨x28', hL, hRl29⟩ := bnd hF
        refine r_lp (fun k a w => ∃ (x26 : Int), ∃ (x27 : Int), F_gantryref04_Gcd_l29 K k x26 x27 = some x28' ∧ hs _ [⟨some b3, 1, 33, 2, 1, ([pB false] ++ [pS cI ([] : List Int)])⟩] [(4, .vc (pP (some b3) 0)), (7, .vc (pI .i64 x26)), (8, .vc (pI .i64 x27))] a w) K (fun a w ⟨_, _, hF, _⟩ => by cases hF) (fun k a w ⟨x26, x27, hF, hh⟩ => r_at ?_ hh) (fun a w hh => ⟨v20, v22, hL, hs_back [2] rfl (by decide) (by exact ⟨rfl, rfl, rfl, trivial⟩) hh⟩)
        rw [F_gantryref04_Gcd_l29.eq_2] at hF
        refine r_seq (r_seq (r_reg (r_mv ?_)))
        refine r_op (t_gt rfl) ⟨rfl, k_I _ _, trivial⟩ ?_
        refine r_nil (r_next (r_if rfl (fun h33 => ?_) (fun h33 => ?_)))
        · have hF := cnd_t h33 hF
          refine r_skip (r_next (r_blk (r_seq (r_reg (r_mv ?_)))))
          refine r_mv ?_
          obtain ⟨v34, h35, hF⟩ := bnd hF
          refine r_op (t_rem rfl h35) ⟨rfl, rfl, trivial⟩ ?_
          refine r_as ?_
          refine r_nil (r_next (r_seq (r_reg (r_mv ?_))))
          refine r_as ?_
          refine r_nil (r_next (r_reg (r_mv ?_)))
          refine r_as ?_
          refine r_nil (r_blkN ?_)
          exact r_round (fun a w hh => ⟨x27, v34, hF, hs_back [0] rfl (by decide) (by exact ⟨rfl, rfl, rfl, trivial⟩) hh⟩)
        have hF := cnd_f h33 hF
        refine r_brk ?_
        obtain rfl := sm1 hF
        exact r_backJ Jj30 ⟨x26, hRl29, rfl, rfl⟩ [0] rfl ⟨rfl, rfl, trivial⟩
      have hF := cnd_f h19 hF
      refine r_skip (r_next (r_seq (r_reg (r_op (t_l 1 2 rfl rfl rfl rfl (.agg tyA33)) ⟨rfl, trivial⟩ ?_))))
      refine r_op (t_l 0 2 rfl rfl rfl rfl (.agg tyA33)) ⟨rfl, trivial⟩ ?_
      obtain ⟨v36, h37, hF⟩ := bnd hF
      refine r_op (t_call rfl (ct_gantryref04_Div h37) rfl) ⟨rfl, rfl, trivial⟩ ?_
      refine r_mv ?_
      refine r_op (t_ext2a rfl) ⟨rfl, trivial⟩ ?_
      refine r_op (t_ext2b rfl) ⟨rfl, trivial⟩ ?_
      refine r_alloc rfl tyZ33 (fun b38 => ?_)
      refine r_alloc rfl tyZ33 (fun b39 => ?_)
      refine r_op0 (t_s 1 rfl rfl rfl tyA33.s) ⟨rfl, rfl, trivial⟩ ?_
      refine r_op0 (t_s 0 rfl rfl rfl tyA33.s) ⟨rfl, rfl, trivial⟩ ?_
      refine r_nil (r_next (r_seq (r_reg (r_op (t_l 2 2 rfl rfl rfl rfl (.agg tyA33)) ⟨rfl, trivial⟩ ?_))))
      refine r_op0 (t_s 3 rfl rfl rfl tyA33.s) ⟨rfl, rfl, trivial⟩ ?_
      refine r_nil (r_next (r_reg (r_op (t_l 0 2 rfl rfl rfl rfl (.agg tyA33)) ⟨rfl, trivial⟩ ?_)))
      refine r_op0 (t_s 2 rfl rfl rfl tyA33.s) ⟨rfl, rfl, trivial⟩ ?_
      refine r_nil (r_blkN ?_)
      exact r_round (fun a w hh => ⟨v36.2, x12, hF, hs_back [2, 3, 4] rfl (by decide) (by exact ⟨rfl, rfl, rfl, trivial⟩) hh⟩)
    have hF := cnd_f h18 hF
    refine r_opn ?_
    refine r_opn ?_
    refine r_opn ?_
    refine r_opn ?_
    refine r_op (t_pickF rfl) ⟨rfl, k_B _, trivial⟩ ?_
    refine r_nil (r_next (r_ifF rfl ?_))
    refine r_skip (r_next (r_seq (r_reg (r_op (t_l 1 2 rfl rfl rfl rfl (.agg tyA33)) ⟨rfl, trivial⟩ ?_))))
    refine r_op (t_l 0 2 rfl rfl rfl rfl (.agg tyA33)) ⟨rfl, trivial⟩ ?_
    obtain ⟨v40, h41, hF⟩ := bnd hF
    refine r_op (t_call rfl (ct_gantryref04_Div h41) rfl) ⟨rfl, rfl, trivial⟩ ?_
    refine r_mv ?_
    refine r_op (t_ext2a rfl) ⟨rfl, trivial⟩ ?_
    refine r_op (t_ext2b rfl) ⟨rfl, trivial⟩ ?_
    refine r_alloc rfl tyZ33 (fun b42 => ?_)
    refine r_alloc rfl tyZ33 (fun b43 => ?_)
    refine r_op0 (t_s 1 rfl rfl rfl tyA33.s) ⟨rfl, rfl, trivial⟩ ?_
    refine r_op0 (t_s 0 rfl rfl rfl tyA33.s) ⟨rfl, rfl, trivial⟩ ?_
    refine r_nil (r_next (r_seq (r_reg (r_op (t_l 2 2 rfl rfl rfl rfl (.agg tyA33)) ⟨rfl, trivial⟩ ?_))))
    refine r_op0 (t_s 3 rfl rfl rfl tyA33.s) ⟨rfl, rfl, trivial⟩ ?_
    refine r_nil (r_next (r_reg (r_op (t_l 0 2 rfl rfl rfl rfl (.agg tyA33)) ⟨rfl, trivial⟩ ?_)))
    refine r_op0 (t_s 2 rfl rfl rfl tyA33.s) ⟨rfl, rfl, trivial⟩ ?_
    refine r_nil (r_blkN ?_)
    exact r_round (fun a w hh => ⟨v40.2, x12, hF, hs_back [2, 3, 4] rfl (by decide) (by exact ⟨rfl, rfl, rfl, trivial⟩) hh⟩)
  have hF := cnd_f h17 hF
  refine r_brk ?_
  obtain rfl := sm1 hF
  exact r_backJ Jj16 ⟨x13, hRl15, rfl, rfl⟩ [1, 2] rfl ⟨rfl, rfl, trivial⟩
def F_gantryref04_Neg (K : Nat) (a0 : GInt) : Option GInt :=
  (F_gantryref04_normal K (!a0.neg) a0.d).bind fun v3 => some v3
theorem ct_gantryref04_Neg {K : Nat} {a0 : GInt} {r : GInt} (hF : F_gantryref04_Neg K a0 = some r) : Ct Tryz.prog 128 [.va (GInt.e a0)] (.va (GInt.e r)) := by
  unfold F_gantryref04_Neg at hF
  refine ctO_intro Tryz.func128 rfl (by kernel_rfl) Tryz.ntmps128 rfl (fun w0 M0 => ?_)
  refine r_seq (r_reg (r_box rfl rfl trivial (fun b1 => ?_)))
  refine r_alloc rfl tyZ33 (fun b2 => ?_)
  refine r_nil (r_next (r_seq (r_reg (r_op (t_fa (off := 0) (k := 0) rfl tyF33_0) ⟨rfl, trivial⟩ ?_))))
  refine r_op (t_l 1 1 rfl rfl rfl rfl (.one tyO4)) ⟨rfl, trivial⟩ ?_
  refine r_op (t_not rfl) ⟨rfl, trivial⟩ ?_
  refine r_op (t_fa (off := 0) (k := 1) rfl tyF33_1) ⟨rfl, trivial⟩ ?_
  refine r_op (t_l 1 1 rfl rfl rfl rfl (.one tyO22)) ⟨rfl, trivial⟩ ?_
  obtain ⟨v3, h4, hF⟩ := bnd hF
  refine r_op (t_call rfl (ct_gantryref04_normal h4) rfl) ⟨rfl, rfl, trivial⟩ ?_
  refine r_op0 (t_s 0 rfl rfl rfl tyA33.s) ⟨rfl, rfl, trivial⟩ ?_
  refine r_nil (r_next (r_ret (r_toR ?_)))
  obtain rfl := sm1 hF
  exact r_done1 (.inl rfl) Tryz.results128 (rv_cell 0 2 rfl rfl rfl rfl (.agg tyA33) .nil) rfl rfl
def F_integer_plus_j36 (K : Nat) (x2 : List Int) (x28 : List Int) (x34 : Int) : Option (List Int) :=
  (rdL x28 (x2.length : Int)).bind fun v37 => (stL x28 (x2.length : Int) x34).bind fun x39 => some x39
def F_integer_plus_l35 (K : Nat) (x2 : List Int) (x3 : List Int) : Nat → (List Int) → Int → Int → Option ((List Int) × Int)
  | 0, _, _, _ => none
  | k + 1, x20, x26, x27 => bif (decide (x27 < (x2.length : Int))) then ((rdL x2 x27).bind fun v43 => (chk (v43 + x26)).bind fun v45 => bif (decide (x27 < (x3.length : Int))) then ((rdL x3 x27).bind fun v48 => (chk (v45 + v48)).bind fun v50 => bif (decide (1000000000 ≤ v50)) then ((chk (v50 - 1000000000)).bind fun v53 => (rdL x20 x27).bind fun v55 => (stL x20 x27 v53).bind fun x57 => (chk (x27 + 1)).bind fun v60 => F_integer_plus_l35 K x2 x3 k x57 1 v60) else ((rdL x20 x27).bind fun v62 => (stL x20 x27 v50).bind fun x64 => (chk (x27 + 1)).bind fun v67 => F_integer_plus_l35 K x2 x3 k x64 0 v67)) else (bif (decide (1000000000 ≤ v45)) then ((chk (v45 - 1000000000)).bind fun v70 => (rdL x20 x27).bind fun v72 => (stL x20 x27 v70).bind fun x74 => (chk (x27 + 1)).bind fun v77 => F_integer_plus_l35 K x2 x3 k x74 1 v77) else ((rdL x20 x27).bind fun v79 => (stL x20 x27 v45).bind fun x81 => (chk (x27 + 1)).bind fun v84 => F_integer_plus_l35 K x2 x3 k x81 0 v84))) else (some (x20, x26))
def F_integer_plus_j4 (K : Nat) (x2 : List Int) (x3 : List Int) : Option (List Int) :=
  (chk ((x2.length : Int) + 1)).bind fun v5 => (mkL v5 0).bind fun x7 => (F_integer_plus_l35 K x2 x3 K x7 0 0).bind fun (x28, x34) => F_integer_plus_j36 K x2 x28 x34
def F_integer_plus (K : Nat) (a0 : List Int) (a1 : List Int) : Option (List Int) :=
  bif (decide ((a0.length : Int) < (a1.length : Int))) then (F_integer_plus_j4 K a1 a0) else (F_integer_plus_j4 K a0 a1)
theorem ct_integer_plus {K : Nat} {a0 : List Int} {a1 : List Int} {r : List Int} (hF : F_integer_plus K a0 a1 = some r) : Ct Tryz.prog 162 [.vc (pS cI a0), .vc (pS cI a1)] (.vc (pS cI r)) := by
  unfold F_integer_plus at hF
  refine ctO_intro Tryz.func162 rfl (by kernel_rfl) Tryz.ntmps162 rfl (fun w0 M0 => ?_)
  refine r_seq (r_reg (r_op (t_mv (.inr rfl)) ⟨k_nil cI, trivial⟩ ?_))
  refine r_nil (r_next (r_seq (r_cutS (fun H E => ∃ (x2 : List Int), ∃ (x3 : List Int), F_integer_plus_j4 K x2 x3 = some r ∧ H = [] ∧ E = [(0, .vc (pS cI x2)), (1, .vc (pS cI x3))]) ?_ (fun Jj4 => ?_))))
  · rintro _ _ ⟨x2, x3, hF, rfl, rfl⟩
    unfold F_integer_plus_j4 at hF
    refine r_seq (r_reg (r_mv ?_))
    refine r_op (t_ln rfl tyS22) ⟨rfl, trivial⟩ ?_
    obtain ⟨v5, h6, hF⟩ := bnd hF
    refine r_op (t_add rfl h6) ⟨rfl, k_I _ _, trivial⟩ ?_
    obtain ⟨x7, h8, hF⟩ := bnd hF
    refine r_make (C := cI) rfl tyS22 rfl tyZ3 rfl h8 (fun b9 => ?_)
    refine r_as ?_
    refine r_nil (r_next (r_seq (r_reg (r_op (t_mv (.inr rfl)) ⟨k_I _ _, trivial⟩ ?_))))
    refine r_nil (r_next (r_seq (r_seq (r_reg (r_mv ?_)))))
    refine r_op (t_ln rfl tyS22) ⟨rfl, trivial⟩ ?_
    refine r_op (t_mv (.inl rfl)) ⟨k_I _ _, trivial⟩ ?_
    refine r_nil (r_next (r_blk (r_cutN (fun H E => ∃ (x28 : List Int), ∃ (x34 : Int), F_integer_plus_j36 K x2 x28 x34 = some r ∧ x28.length = x7.length ∧ H = [hO cI b9 x7.length 3 x7.length x28] ∧ E = [(0, .vc (pS cI x2)), (5, .vc (pO b9 x7.length x7.length)), (6, .vc (pI .i64 x34))]) ?_ (fun Jj36 => ?_))))
    · rintro _ _ ⟨x28, x34, hF, q32, rfl, rfl⟩
      unfold F_integer_plus_j36 at hF
      refine r_next (r_seq (r_reg (r_mv ?_)))
      refine r_mv ?_
      refine r_op (t_ln rfl tyS22) ⟨rfl, trivial⟩ ?_
      refine r_mv ?_
      obtain ⟨v37, h38, hF⟩ := bnd hF
      refine r_op (t_ixE (C := cI) 0 rfl tyS22 rfl q32 (rdL_some h38).1 (rdL_some h38).2.1) ⟨rfl, rfl, trivial⟩ ?_
      obtain ⟨x39, h40, hF⟩ := bnd hF
      refine r_op0 (t_stE 0 rfl rfl h38 h40 tyO3.s) ⟨rfl, rfl, trivial⟩ ?_
      refine r_nil (r_next (r_seq (r_reg (r_mv ?_))))
      refine r_as ?_
      refine r_nil (r_next (r_ret (r_toR (r_fzX 0 [4, 5, 50, 55] rfl (stL_len h40 q32) ⟨rfl, rfl, rfl, rfl, trivial⟩ rfl ?_))))
      obtain rfl := sm1 hF
      exact r_done1 (.inl rfl) Tryz.results162 (.tmp rfl .nil) rfl rfl
    obtain ⟨⟨x28', x34'⟩, hL, hRl35⟩ := bnd hF
    refine r_lp (fun k a w => ∃ (x20 : List Int), ∃ (x26 : Int), ∃ (x27 : Int), F_integer_plus_l35 K x2 x3 k x20 x26 x27 = some (x28', x34') ∧ x20.length = x7.length ∧ hs _ [hO cI b9 x7.length 3 x7.length x20] [(0, .vc (pS cI x2)), (1, .vc (pS cI x3)), (5, .vc (pO b9 x7.length x7.length)), (6, .vc (pI .i64 x26)), (21, .vc (pS cI x2)), (22, .vc (pI .i64 (x2.length : Int))), (23, .vc (pI .i64 x27))] a w) K (fun a w ⟨_, _, _, hF, _, _⟩ => by cases hF) (fun k a w ⟨x20, x26, x27, hF, q24, hh⟩ => r_at ?_ hh) (fun a w hh => ⟨x7, 0, 0, hL, rfl, hs_back [0] rfl (by decide) (by exact ⟨rfl, rfl, rfl, rfl, rfl, rfl, rfl, trivial⟩) hh⟩)
    rw [F_integer_plus_l35.eq_2] at hF
    refine r_seq (r_reg (r_op (t_lt rfl) ⟨rfl, rfl, trivial⟩ ?_))
    refine r_nil (r_next (r_seq (r_if rfl (fun h42 => ?_) (fun h42 => ?_))))
    · have hF := cnd_t h42 hF
      refine r_skip (r_next (r_seq (r_blk (r_seq (r_reg (r_mv ?_))))))
      obtain ⟨v43, h44, hF⟩ := bnd hF
      refine r_op (t_ix rfl tyS22 h44) ⟨rfl, rfl, trivial⟩ ?_
      refine r_op (t_lM 1 rfl rfl (.one tyO3)) ⟨rfl, trivial⟩ ?_
      refine r_as ?_
      refine r_as ?_
      refine r_nil (r_next (r_seq (r_reg (r_mv ?_))))
      refine r_mv ?_
      obtain ⟨v45, h46, hF⟩ := bnd hF
      refine r_op (t_add rfl h46) ⟨rfl, rfl, trivial⟩ ?_
      refine r_as ?_
      refine r_nil (r_next (r_seq (r_seq (r_reg (r_mv ?_)))))
      refine r_mv ?_
      refine r_op (t_ln rfl tyS22) ⟨rfl, trivial⟩ ?_
      refine r_op (t_lt rfl) ⟨rfl, rfl, trivial⟩ ?_
      refine r_nil (r_next (r_if rfl (fun h47 => ?_) (fun h47 => ?_)))
      · have hF := cnd_t h47 hF
        refine r_reg (r_mv ?_)
        refine r_mv ?_
        refine r_mv ?_
        obtain ⟨v48, h49, hF⟩ := bnd hF
        refine r_op (t_ix rfl tyS22 h49) ⟨rfl, rfl, trivial⟩ ?_
        refine r_op (t_lM 1 rfl rfl (.one tyO3)) ⟨rfl, trivial⟩ ?_
        obtain ⟨v50, h51, hF⟩ := bnd hF
        refine r_op (t_add rfl h51) ⟨rfl, rfl, trivial⟩ ?_
        refine r_as ?_
        refine r_nil (r_next (r_seq (r_reg (r_op (t_mv (.inr rfl)) ⟨k_I _ _, trivial⟩ ?_))))
        refine r_nil (r_next (r_seq (r_seq (r_reg (r_mv ?_)))))
        refine r_op (t_ge rfl) ⟨rfl, k_I _ _, trivial⟩ ?_
        refine r_nil (r_next (r_if rfl (fun h52 => ?_) (fun h52 => ?_)))
        · have hF := cnd_t h52 hF
          refine r_reg (r_mv ?_)
          obtain ⟨v53, h54, hF⟩ := bnd hF
          refine r_op (t_sub rfl h54) ⟨rfl, k_I _ _, trivial⟩ ?_
          refine r_as ?_
          refine r_op (t_mv (.inr rfl)) ⟨k_I _ _, trivial⟩ ?_
          refine r_nil (r_next (r_reg (r_mv ?_)))
          refine r_mv ?_
          refine r_mv ?_
          obtain ⟨v55, h56, hF⟩ := bnd hF
          refine r_op (t_ixE (C := cI) 0 rfl tyS22 rfl q24 (rdL_some h56).1 (rdL_some h56).2.1) ⟨rfl, rfl, trivial⟩ ?_
          obtain ⟨x57, h58, hF⟩ := bnd hF
          refine r_op0 (t_stE 0 rfl rfl h56 h58 tyO3.s) ⟨rfl, rfl, trivial⟩ ?_
          refine r_nil (r_blkN (r_next (r_reg ?_)))
          obtain ⟨v60, h61, hF⟩ := bnd hF
          refine r_op (t_add rfl h61) ⟨rfl, k_I _ _, trivial⟩ ?_
          refine r_mv ?_
          refine r_nil ?_
          exact r_round (fun a w hh => ⟨x57, 1, v60, hF, (stL_len h58 q24), hs_back [0] rfl (by decide) (by exact ⟨rfl, rfl, rfl, rfl, rfl, rfl, rfl, trivial⟩) hh⟩)
        have hF := cnd_f h52 hF
        refine r_skip (r_next (r_reg (r_mv ?_)))
        refine r_mv ?_
        refine r_mv ?_
        obtain ⟨v62, h63, hF⟩ := bnd hF
        refine r_op (t_ixE (C := cI) 0 rfl tyS22 rfl q24 (rdL_some h63).1 (rdL_some h63).2.1) ⟨rfl, rfl, trivial⟩ ?_
        obtain ⟨x64, h65, hF⟩ := bnd hF
        refine r_op0 (t_stE 0 rfl rfl h63 h65 tyO3.s) ⟨rfl, rfl, trivial⟩ ?_
        refine r_nil (r_blkN (r_next (r_reg ?_)))
        obtain ⟨v67, h68, hF⟩ := bnd hF
        refine r_op (t_add rfl h68) ⟨rfl, k_I _ _, trivial⟩ ?_
        refine r_mv ?_
        refine r_nil ?_
        exact r_round (fun a w hh => ⟨x64, 0, v67, hF, (stL_len h65 q24), hs_back [0] rfl (by decide) (by exact ⟨rfl, rfl, rfl, rfl, rfl, rfl, rfl, trivial⟩) hh⟩)
      have hF := cnd_f h47 hF
      refine r_skip (r_next (r_seq (r_reg (r_op (t_mv (.inr rfl)) ⟨k_I _ _, trivial⟩ ?_))))
      refine r_nil (r_next (r_seq (r_seq (r_reg (r_mv ?_)))))
      refine r_op (t_ge rfl) ⟨rfl, k_I _ _, trivial⟩ ?_
      refine r_nil (r_next (r_if rfl (fun h69 => ?_) (fun h69 => ?_)))
      · have hF := cnd_t h69 hF
        refine r_reg (r_mv ?_)
        obtain ⟨v70, h71, hF⟩ := bnd hF
        refine r_op (t_sub rfl h71) ⟨rfl, k_I _ _, trivial⟩ ?_
        refine r_as ?_
        refine r_op (t_mv (.inr rfl)) ⟨k_I _ _, trivial⟩ ?_
        refine r_nil (r_next (r_reg (r_mv ?_)))
        refine r_mv ?_
        refine r_mv ?_
        obtain ⟨v72, h73, hF⟩ := bnd hF
        refine r_op (t_ixE (C := cI) 0 rfl tyS22 rfl q24 (rdL_some h73).1 (rdL_some h73).2.1) ⟨rfl, rfl, trivial⟩ ?_
        obtain ⟨x74, h75, hF⟩ := bnd hF
        refine r_op0 (t_stE 0 rfl rfl h73 h75 tyO3.s) ⟨rfl, rfl, trivial⟩ ?_
        refine r_nil (r_blkN (r_next (r_reg ?_)))
        obtain ⟨v77, h78, hF⟩ := bnd hF
        refine r_op (t_add rfl h78) ⟨rfl, k_I _ _, trivial⟩ ?_
        refine r_mv ?_
        refine r_nil ?_
        exact r_round (fun a w hh => ⟨x74, 1, v77, hF, (stL_len h75 q24), hs_back [0] rfl (by decide) (by exact ⟨rfl, rfl, rfl, rfl, rfl, rfl, rfl, trivial⟩) hh⟩)
      have hF := cnd_f h69 hF
      refine r_skip (r_next (r_reg (r_mv ?_)))
      refine r_mv ?_
      refine r_mv ?_
      obtain ⟨v79, h80, hF⟩ := bnd hF
      refine r_op (t_ixE (C := cI) 0 rfl tyS22 rfl q24 (rdL_some h80).1 (rdL_some h80).2.1) ⟨rfl, rfl, trivial⟩ ?_
      obtain ⟨x81, h82, hF⟩ := bnd hF
      refine r_op0 (t_stE 0 rfl rfl h80 h82 tyO3.s) ⟨rfl, rfl, trivial⟩ ?_
      refine r_nil (r_blkN (r_next (r_reg ?_)))
      obtain ⟨v84, h85, hF⟩ := bnd hF
      refine r_op (t_add rfl h85) ⟨rfl, k_I _ _, trivial⟩ ?_
      refine r_mv ?_
      refine r_nil ?_
      exact r_round (fun a w hh => ⟨x81, 0, v84, hF, (stL_len h82 q24), hs_back [0] rfl (by decide) (by exact ⟨rfl, rfl, rfl, rfl, rfl, rfl, rfl, trivial⟩) hh⟩)
    have hF := cnd_f h42 hF
    refine r_brk ?_
    obtain ⟨rfl, rfl⟩ := sm2 hF
    exact r_backJ Jj36 ⟨x20, x26, hRl35, q24, rfl, rfl⟩ [0] rfl ⟨rfl, rfl, rfl, trivial⟩
  refine r_seq (r_reg (r_mv ?_))
  refine r_op (t_ln rfl tyS22) ⟨rfl, trivial⟩ ?_
  refine r_mv ?_
  refine r_op (t_ln rfl tyS22) ⟨rfl, trivial⟩ ?_
  refine r_op (t_lt rfl) ⟨rfl, rfl, trivial⟩ ?_
  refine r_nil (r_next (r_if rfl (fun h86 => ?_) (fun h86 => ?_)))
  · have hF := cnd_t h86 hF
    refine r_reg (r_mv ?_)
    refine r_mv ?_
    refine r_as ?_
    refine r_as ?_
    refine r_nil ?_
    exact r_backJ Jj4 ⟨a1, a0, hF, rfl, rfl⟩ [] rfl ⟨rfl, rfl, trivial⟩
  have hF := cnd_f h86 hF
  refine r_skip ?_
  exact r_backJ Jj4 ⟨a0, a1, hF, rfl, rfl⟩ [] rfl ⟨rfl, rfl, trivial⟩
def F_cmp_isNaN_isNaN_int (a0 : Int) : Option Bool :=
  some (a0 != a0)
theorem ct_cmp_isNaN_isNaN_int {a0 : Int} {r : Bool} (hF : F_cmp_isNaN_isNaN_int a0 = some r) : Ct Tryz.prog 173 [.vc (pI .i64 a0)] (.vc (pB r)) := by
  unfold F_cmp_isNaN_isNaN_int at hF
  refine ctO_intro Tryz.func173 rfl (by kernel_rfl) Tryz.ntmps173 rfl (fun w0 M0 => ?_)
  refine r_seq (r_reg (r_op (t_mv (.inr rfl)) ⟨k_B _, trivial⟩ ?_))
  refine r_nil (r_next (r_seq (r_reg (r_mv ?_))))
  refine r_mv ?_
  refine r_op (t_ne rfl) ⟨rfl, rfl, trivial⟩ ?_
  refine r_as ?_
  refine r_nil (r_next (r_ret (r_toR ?_)))
  obtain rfl := sm1 hF
  exact r_done1 (.inl rfl) Tryz.results173 (.tmp rfl .nil) rfl rfl
def F_cmp_Compare_Compare_int (a0 : Int) (a1 : Int) : Option Int :=
  (F_cmp_isNaN_isNaN_int a0).bind fun v1 => (F_cmp_isNaN_isNaN_int a1).bind fun v3 => bif v1 then (bif v3 then (some 0) else (some (-1))) else (bif v3 then (some 1) else (bif (decide (a0 < a1)) then (some (-1)) else (bif (decide (a1 < a0)) then (some 1) else (some 0))))
theorem ct_cmp_Compare_Compare_int {a0 : Int} {a1 : Int} {r : Int} (hF : F_cmp_Compare_Compare_int a0 a1 = some r) : Ct Tryz.prog 170 [.vc (pI .i64 a0), .vc (pI .i64 a1)] (.vc (pI .i64 r)) := by
  unfold F_cmp_Compare_Compare_int at hF
  refine ctO_intro Tryz.func170 rfl (by kernel_rfl) Tryz.ntmps170 rfl (fun w0 M0 => ?_)
  refine r_seq (r_reg (r_op (t_mv (.inr rfl)) ⟨k_I _ _, trivial⟩ ?_))
  refine r_nil (r_next (r_seq (r_reg (r_mv ?_))))
  obtain ⟨v1, h2, hF⟩ := bnd hF
  refine r_op (t_call rfl (ct_cmp_isNaN_isNaN_int h2) rfl) ⟨rfl, trivial⟩ ?_
  refine r_as ?_
  refine r_nil (r_next (r_seq (r_reg (r_mv ?_))))
  obtain ⟨v3, h4, hF⟩ := bnd hF
  refine r_op (t_call rfl (ct_cmp_isNaN_isNaN_int h4) rfl) ⟨rfl, trivial⟩ ?_
  refine r_as ?_
  refine r_nil (r_next (r_seq (r_seq (r_reg (r_mv ?_)))))
  refine r_nil (r_next (r_if rfl (fun h5 => ?_) (fun h5 => ?_)))
  · have hF := cnd_t h5 hF
    refine r_seq (r_seq (r_reg (r_mv ?_)))
    refine r_nil (r_next (r_if rfl (fun h6 => ?_) (fun h6 => ?_)))
    · have hF := cnd_t h6 hF
      refine r_seq (r_reg (r_op (t_mv (.inr rfl)) ⟨k_I _ _, trivial⟩ ?_))
      refine r_nil (r_next (r_ret (r_toR ?_)))
      obtain rfl := sm1 hF
      exact r_done1 (.inl rfl) Tryz.results170 (.tmp rfl .nil) rfl rfl
    have hF := cnd_f h6 hF
    refine r_skip (r_next (r_seq (r_reg (r_op (t_mv (.inr rfl)) ⟨k_I _ _, trivial⟩ ?_))))
    refine r_nil (r_next (r_ret (r_toR ?_)))
    obtain rfl := sm1 hF
    exact r_done1 (.inl rfl) Tryz.results170 (.tmp rfl .nil) rfl rfl
  have hF := cnd_f h5 hF
  refine r_skip (r_next (r_seq (r_seq (r_reg (r_mv ?_)))))
  refine r_nil (r_next (r_if rfl (fun h7 => ?_) (fun h7 => ?_)))
  · have hF := cnd_t h7 hF
    refine r_seq (r_reg (r_op (t_mv (.inr rfl)) ⟨k_I _ _, trivial⟩ ?_))
    refine r_nil (r_next (r_ret (r_toR ?_)))
    obtain rfl := sm1 hF
    exact r_done1 (.inl rfl) Tryz.results170 (.tmp rfl .nil) rfl rfl
  have hF := cnd_f h7 hF
  refine r_skip (r_next (r_seq (r_seq (r_reg (r_mv ?_)))))
  refine r_mv ?_
  refine r_op (t_lt rfl) ⟨rfl, rfl, trivial⟩ ?_
  refine r_nil (r_next (r_if rfl (fun h8 => ?_) (fun h8 => ?_)))
  · have hF := cnd_t h8 hF
    refine r_seq (r_reg (r_op (t_mv (.inr rfl)) ⟨k_I _ _, trivial⟩ ?_))
    refine r_nil (r_next (r_ret (r_toR ?_)))
    obtain rfl := sm1 hF
    exact r_done1 (.inl rfl) Tryz.results170 (.tmp rfl .nil) rfl rfl
  have hF := cnd_f h8 hF
  refine r_skip (r_next (r_seq (r_seq (r_reg (r_mv ?_)))))
  refine r_mv ?_
  refine r_op (t_gt rfl) ⟨rfl, rfl, trivial⟩ ?_
  refine r_nil (r_next (r_if rfl (fun h9 => ?_) (fun h9 => ?_)))
  · have hF := cnd_t h9 hF
    refine r_seq (r_reg (r_op (t_mv (.inr rfl)) ⟨k_I _ _, trivial⟩ ?_))
    refine r_nil (r_next (r_ret (r_toR ?_)))
    obtain rfl := sm1 hF
    exact r_done1 (.inl rfl) Tryz.results170 (.tmp rfl .nil) rfl rfl
  have hF := cnd_f h9 hF
  refine r_skip (r_next (r_seq (r_reg (r_op (t_mv (.inr rfl)) ⟨k_I _ _, trivial⟩ ?_))))
  refine r_nil (r_next (r_ret (r_toR ?_)))
  obtain rfl := sm1 hF
  exact r_done1 (.inl rfl) Tryz.results170 (.tmp rfl .nil) rfl rfl
def F_integer_compare_j9 (K : Nat) : Option Int :=
  some 0
def F_integer_compare_l8 (K : Nat) (a0 : List Int) (a1 : List Int) : Nat → Int → Option (LR Int Unit)
  | 0, _ => none
  | k + 1, x7 => bif (decide (0 ≤ x7)) then ((rdL a0 x7).bind fun v13 => (rdL a1 x7).bind fun v15 => bif (v13 != v15) then ((rdL a0 x7).bind fun v20 => (rdL a1 x7).bind fun v22 => (F_cmp_Compare_Compare_int v20 v22).bind fun v24 => some (.ret v24)) else ((chk (x7 - 1)).bind fun v26 => F_integer_compare_l8 K a0 a1 k v26)) else (some (.go ()))
def F_integer_compare (K : Nat) (a0 : List Int) (a1 : List Int) : Option Int :=
  bif ((a0.length : Int) != (a1.length : Int)) then ((F_cmp_Compare_Compare_int (a0.length : Int) (a1.length : Int)).bind fun v2 => some v2) else ((chk ((a0.length : Int) - 1)).bind fun v4 => (F_integer_compare_l8 K a0 a1 K v4).bind fun o => match o with | .ret r => some r | .go _ => F_integer_compare_j9 K )
theorem ct_integer_compare {K : Nat} {a0 : List Int} {a1 : List Int} {r : Int} (hF : F_integer_compare K a0 a1 = some r) : Ct Tryz.prog 163 [.vc (pS cI a0), .vc (pS cI a1)] (.vc (pI .i64 r)) := by
  unfold F_integer_compare at hF
  refine ctO_intro Tryz.func163 rfl (by kernel_rfl) Tryz.ntmps163 rfl (fun w0 M0 => ?_)
  refine r_seq (r_reg (r_op (t_mv (.inr rfl)) ⟨k_I _ _, trivial⟩ ?_))
  refine r_nil (r_next (r_seq (r_seq (r_reg (r_mv ?_)))))
  refine r_op (t_ln rfl tyS22) ⟨rfl, trivial⟩ ?_
  refine r_mv ?_
  refine r_op (t_ln rfl tyS22) ⟨rfl, trivial⟩ ?_
  refine r_op (t_ne rfl) ⟨rfl, rfl, trivial⟩ ?_
  refine r_nil (r_next (r_if rfl (fun h1 => ?_) (fun h1 => ?_)))
  · have hF := cnd_t h1 hF
    refine r_seq (r_reg (r_mv ?_))
    refine r_op (t_ln rfl tyS22) ⟨rfl, trivial⟩ ?_
    refine r_mv ?_
    refine r_op (t_ln rfl tyS22) ⟨rfl, trivial⟩ ?_
    obtain ⟨v2, h3, hF⟩ := bnd hF
    refine r_op (t_call rfl (ct_cmp_Compare_Compare_int h3) rfl) ⟨rfl, rfl, trivial⟩ ?_
    refine r_as ?_
    refine r_nil (r_next (r_ret (r_toR ?_)))
    obtain rfl := sm1 hF
    exact r_done1 (.inl rfl) Tryz.results163 (.tmp rfl .nil) rfl rfl
  have hF := cnd_f h1 hF
  refine r_skip (r_next (r_seq (r_seq (r_reg (r_mv ?_)))))
  refine r_op (t_ln rfl tyS22) ⟨rfl, trivial⟩ ?_
  obtain ⟨v4, h5, hF⟩ := bnd hF
  refine r_op (t_sub rfl h5) ⟨rfl, k_I _ _, trivial⟩ ?_
  refine r_as ?_
  refine r_nil (r_next (r_blk (r_cutN (fun H E => F_integer_compare_j9 K = some r ∧ H = [] ∧ E = []) ?_ (fun Jj9 => ?_))))
  · rintro _ _ ⟨hF, rfl, rfl⟩
    unfold F_integer_compare_j9 at hF
    refine r_next (r_seq (r_reg (r_op (t_mv (.inr rfl)) ⟨k_I _ _, trivial⟩ ?_)))
    refine r_nil (r_next (r_ret (r_toR ?_)))
    obtain rfl := sm1 hF
    exact r_done1 (.inl rfl) Tryz.results163 (.tmp rfl .nil) rfl rfl
  obtain ⟨ol8, hL, hRl8⟩ := bnd hF
  refine r_lp (fun k a w => ∃ (x7 : Int), F_integer_compare_l8 K a0 a1 k x7 = some ol8 ∧ hs _ [] [(0, .vc (pS cI a0)), (1, .vc (pS cI a1)), (5, .vc (pI .i64 x7))] a w) K (fun a w ⟨_, hF, _⟩ => by cases hF) (fun k a w ⟨x7, hF, hh⟩ => r_at ?_ hh) (fun a w hh => ⟨v4, hL, hs_back [] rfl (by decide) (by exact ⟨rfl, rfl, rfl, trivial⟩) hh⟩)
  rw [F_integer_compare_l8.eq_2] at hF
  refine r_seq (r_seq (r_reg (r_mv ?_)))
  refine r_op (t_ge rfl) ⟨rfl, k_I _ _, trivial⟩ ?_
  refine r_nil (r_next (r_if rfl (fun h10 => ?_) (fun h10 => ?_)))
  · have hF := cnd_t h10 hF
    refine r_skip (r_next (r_seq (r_blk (r_seq ?_))))
    obtain ⟨v13, h14, hF⟩ := bnd hF
    obtain ⟨v15, h16, hF⟩ := bnd hF
    refine r_draw [0, 0, 3, 7, 0, 0, 48, 112, 255] 9 0 [.v (.vc (pS cI a0)), .v (.vc (pI .i64 x7)), .v (.vc (pM (cI.e v13))), .v (.vc (pI .i64 v13)), .v (.vc (pS cI a1)), .v (.vc (pI .i64 x7)), .v (.vc (pM (cI.e v15))), .v (.vc (pI .i64 v15)), .v (.vc (pB (v13 != v15)))] Tryz_mixed ⟨d0 (t_mv (.inl rfl)) ⟨rfl, trivial⟩, d0 (t_mv (.inl rfl)) ⟨rfl, trivial⟩, d0 (t_ix rfl tyS22 h14) ⟨rfl, rfl, trivial⟩, d0 (t_lM 1 rfl rfl (.one tyO3)) ⟨rfl, trivial⟩, d0 (t_mv (.inl rfl)) ⟨rfl, trivial⟩, d0 (t_mv (.inl rfl)) ⟨rfl, trivial⟩, d0 (t_ix rfl tyS22 h16) ⟨rfl, rfl, trivial⟩, d0 (t_lM 1 rfl rfl (.one tyO3)) ⟨rfl, trivial⟩, d0 (t_ne rfl) ⟨rfl, rfl, trivial⟩, trivial⟩ (fun bs12 G11 => ?_)
    refine r_nil (r_next (r_if rfl (fun h17 => ?_) (fun h17 => ?_)))
    · have hF := cnd_t h17 hF
      refine r_seq ?_
      obtain ⟨v20, h21, hF⟩ := bnd hF
      obtain ⟨v22, h23, hF⟩ := bnd hF
      obtain ⟨v24, h25, hF⟩ := bnd hF
      refine r_draw [0, 0, 3, 7, 0, 0, 48, 112, 255, 511] 10 0 [.v (.vc (pS cI a0)), .v (.vc (pI .i64 x7)), .v (.vc (pM (cI.e v20))), .v (.vc (pI .i64 v20)), .v (.vc (pS cI a1)), .v (.vc (pI .i64 x7)), .v (.vc (pM (cI.e v22))), .v (.vc (pI .i64 v22)), .v (.vc (pI .i64 v24)), .v (.vc (pI .i64 v24))] Tryz_mixed ⟨d0 (t_mv (.inl rfl)) ⟨rfl, trivial⟩, d0 (t_mv (.inl rfl)) ⟨rfl, trivial⟩, d0 (t_ix rfl tyS22 h21) ⟨rfl, rfl, trivial⟩, d0 (t_lM 1 rfl rfl (.one tyO3)) ⟨rfl, trivial⟩, d0 (t_mv (.inl rfl)) ⟨rfl, trivial⟩, d0 (t_mv (.inl rfl)) ⟨rfl, trivial⟩, d0 (t_ix rfl tyS22 h23) ⟨rfl, rfl, trivial⟩, d0 (t_lM 1 rfl rfl (.one tyO3)) ⟨rfl, trivial⟩, d0 (t_call rfl (ct_cmp_Compare_Compare_int h25) rfl) ⟨rfl, rfl, trivial⟩, d0 (t_mv (.inr rfl)) ⟨rfl, trivial⟩, trivial⟩ (fun bs19 G18 => ?_)
      refine r_nil (r_next (r_ret (r_toR ?_)))
      obtain rfl := sm1 hF
      obtain rfl := sm1 hRl8
      exact r_done1 (.inl rfl) Tryz.results163 (.tmp rfl .nil) rfl rfl
    have hF := cnd_f h17 hF
    refine r_skip (r_blkN (r_next (r_reg (r_mv ?_))))
    obtain ⟨v26, h27, hF⟩ := bnd hF
    refine r_op (t_sub rfl h27) ⟨rfl, k_I _ _, trivial⟩ ?_
    refine r_as ?_
    refine r_nil ?_
    exact r_round (fun a w hh => ⟨v26, hF, hs_back [] rfl (by decide) (by exact ⟨rfl, rfl, rfl, trivial⟩) hh⟩)
  have hF := cnd_f h10 hF
  refine r_brk ?_
  obtain rfl := sm1 hF
  exact r_backJ Jj9 ⟨hRl8, rfl, rfl⟩ [] rfl trivial
def F_integer_minus_j28 (K : Nat) (x21 : List Int) : Option (List Int) :=
  some x21
def F_integer_minus_j37 (K : Nat) (x20 : Int) (recl27 : (List Int) → Int → Option (List Int)) (x31 : List Int) : Option (List Int) :=
  (rdL x31 x20).bind fun v38 => bif (decide (v38 < 0)) then ((rdL x31 x20).bind fun v41 => (chk (v41 + 1000000000)).bind fun v43 => (rdL x31 x20).bind fun v45 => (stL x31 x20 v43).bind fun x47 => (chk (x20 + 1)).bind fun v50 => (rdL x47 v50).bind fun v52 => (chk (v52 - 1)).bind fun v54 => (rdL x47 v50).bind fun v56 => (stL x47 v50 v54).bind fun x58 => (chk (x20 + 1)).bind fun v61 => recl27 x58 v61) else ((chk (x20 + 1)).bind fun v63 => recl27 x31 v63)
def F_integer_minus_l27 (K : Nat) (a0 : List Int) (a1 : List Int) (x1 : List Int) : Nat → (List Int) → Int → Option (List Int)
  | 0, _, _ => none
  | k + 1, x14, x20 => bif (decide (x20 < ((cpL x1 a0).length : Int))) then (bif (decide (x20 < (a1.length : Int))) then ((rdL x14 x20).bind fun v68 => (rdL a1 x20).bind fun v70 => (chk (v68 - v70)).bind fun v72 => (rdL x14 x20).bind fun v74 => (stL x14 x20 v72).bind fun x76 => F_integer_minus_j37 K x20 (F_integer_minus_l27 K a0 a1 x1 k) x76) else (F_integer_minus_j37 K x20 (F_integer_minus_l27 K a0 a1 x1 k) x14)) else (some x14)
def F_integer_minus (K : Nat) (a0 : List Int) (a1 : List Int) : Option (List Int) :=
  (mkL (a0.length : Int) 0).bind fun x1 => (F_integer_minus_l27 K a0 a1 x1 K (cpL x1 a0) 0).bind fun x21 => F_integer_minus_j28 K x21
theorem ct_integer_minus {K : Nat} {a0 : List Int} {a1 : List Int} {r : List Int} (hF : F_integer_minus K a0 a1 = some r) : Ct Tryz.prog 164 [.vc (pS cI a0), .vc (pS cI a1)] (.vc (pS cI r)) := by
  unfold F_integer_minus at hF
  refine ctO_intro Tryz.func164 rfl (by kernel_rfl) Tryz.ntmps164 rfl (fun w0 M0 => ?_)
  refine r_seq (r_reg (r_op (t_mv (.inr rfl)) ⟨k_nil cI, trivial⟩ ?_))
  refine r_nil (r_next (r_seq (r_reg (r_mv ?_))))
  refine r_op (t_ln rfl tyS22) ⟨rfl, trivial⟩ ?_
  obtain ⟨x1, h2, hF⟩ := bnd hF
  refine r_make (C := cI) rfl tyS22 rfl tyZ3 rfl h2 (fun b3 => ?_)
  refine r_as ?_
  refine r_nil (r_next (r_seq (r_reg (r_mv ?_))))
  refine r_mv ?_
  refine r_op (t_cp 0 rfl tyS22 rfl rfl rfl) ⟨rfl, rfl, trivial⟩ ?_
  refine r_nil (r_next (r_seq (r_seq (r_reg (r_mv ?_)))))
  refine r_op (t_lnE (C := cI) (xs := (cpL x1 a0)) (T := 3) rfl tyS22 (cpL_len rfl)) ⟨rfl, trivial⟩ ?_
  refine r_op (t_mv (.inl rfl)) ⟨k_I _ _, trivial⟩ ?_
  refine r_nil (r_next (r_blk (r_cutN (fun H E => ∃ (x21 : List Int), F_integer_minus_j28 K x21 = some r ∧ x21.length = x1.length ∧ H = [hO cI b3 x1.length 3 x1.length x21] ∧ E = [(5, .vc (pO b3 x1.length x1.length))]) ?_ (fun Jj28 => ?_))))
  · rintro _ _ ⟨x21, hF, q25, rfl, rfl⟩
    unfold F_integer_minus_j28 at hF
    refine r_next (r_seq (r_reg (r_mv ?_)))
    refine r_as ?_
    refine r_nil (r_next (r_ret (r_toR (r_fzX 0 [4, 5, 51] rfl q25 ⟨rfl, rfl, rfl, trivial⟩ rfl ?_))))
    obtain rfl := sm1 hF
    exact r_done1 (.inl rfl) Tryz.results164 (.tmp rfl .nil) rfl rfl
  obtain ⟨x21', hL, hRl27⟩ := bnd hF
  refine r_lp (fun k a w => ∃ (x14 : List Int), ∃ (x20 : Int), F_integer_minus_l27 K a0 a1 x1 k x14 x20 = some x21' ∧ x14.length = x1.length ∧ hs _ [hO cI b3 x1.length 3 x1.length x14] [(1, .vc (pS cI a1)), (5, .vc (pO b3 x1.length x1.length)), (14, .vc (pI .i64 ((cpL x1 a0).length : Int))), (15, .vc (pI .i64 x20))] a w) K (fun a w ⟨_, _, hF, _, _⟩ => by cases hF) (fun k a w ⟨x14, x20, hF, q18, hh⟩ => r_at ?_ hh) (fun a w hh => ⟨(cpL x1 a0), 0, hL, (cpL_len rfl), hs_back [0] rfl (by decide) (by exact ⟨rfl, rfl, rfl, rfl, trivial⟩) hh⟩)
  rw [F_integer_minus_l27.eq_2] at hF
  refine r_seq (r_reg (r_op (t_lt rfl) ⟨rfl, rfl, trivial⟩ ?_))
  refine r_nil (r_next (r_seq (r_if rfl (fun h29 => ?_) (fun h29 => ?_))))
  · have hF := cnd_t h29 hF
    refine r_skip (r_next (r_seq (r_blk (r_seq (r_reg (r_mv ?_))))))
    refine r_as ?_
    refine r_nil (r_next (r_seq (r_cutS (fun H E => ∃ (x31 : List Int), F_integer_minus_j37 K x20 (F_integer_minus_l27 K a0 a1 x1 k) x31 = some x21' ∧ x31.length = x1.length ∧ H = [hO cI b3 x1.length 3 x1.length x31] ∧ E = [(1, .vc (pS cI a1)), (5, .vc (pO b3 x1.length x1.length)), (6, .vc (pI .i64 x20)), (14, .vc (pI .i64 ((cpL x1 a0).length : Int))), (15, .vc (pI .i64 x20))]) ?_ (fun Jj37 => ?_))))
    · rintro _ _ ⟨x31, hF, q35, rfl, rfl⟩
      unfold F_integer_minus_j37 at hF
      refine r_seq (r_reg (r_mv ?_))
      refine r_mv ?_
      obtain ⟨v38, h39, hF⟩ := bnd hF
      refine r_op (t_ixE (C := cI) 0 rfl tyS22 rfl q35 (rdL_some h39).1 (rdL_some h39).2.1) ⟨rfl, rfl, trivial⟩ ?_
      refine r_op (t_ldE (k := 1) 0 rfl rfl h39 rfl (.one tyO3) rfl) ⟨rfl, trivial⟩ ?_
      refine r_op (t_lt rfl) ⟨rfl, k_I _ _, trivial⟩ ?_
      refine r_nil (r_next (r_if rfl (fun h40 => ?_) (fun h40 => ?_)))
      · have hF := cnd_t h40 hF
        refine r_seq (r_reg (r_mv ?_))
        refine r_mv ?_
        obtain ⟨v41, h42, hF⟩ := bnd hF
        refine r_op (t_ixE (C := cI) 0 rfl tyS22 rfl q35 (rdL_some h42).1 (rdL_some h42).2.1) ⟨rfl, rfl, trivial⟩ ?_
        refine r_op (t_ldE (k := 1) 0 rfl rfl h42 rfl (.one tyO3) rfl) ⟨rfl, trivial⟩ ?_
        obtain ⟨v43, h44, hF⟩ := bnd hF
        refine r_op (t_add rfl h44) ⟨rfl, k_I _ _, trivial⟩ ?_
        obtain ⟨v45, h46, hF⟩ := bnd hF
        refine r_op (t_ixE (C := cI) 0 rfl tyS22 rfl q35 (rdL_some h46).1 (rdL_some h46).2.1) ⟨rfl, rfl, trivial⟩ ?_
        obtain ⟨x47, h48, hF⟩ := bnd hF
        refine r_op0 (t_stE 0 rfl rfl h46 h48 tyO3.s) ⟨rfl, rfl, trivial⟩ ?_
        refine r_nil (r_next (r_reg (r_mv ?_)))
        refine r_mv ?_
        obtain ⟨v50, h51, hF⟩ := bnd hF
        refine r_op (t_add rfl h51) ⟨rfl, k_I _ _, trivial⟩ ?_
        obtain ⟨v52, h53, hF⟩ := bnd hF
        refine r_op (t_ixE (C := cI) 0 rfl tyS22 rfl (stL_len h48 q35) (rdL_some h53).1 (rdL_some h53).2.1) ⟨rfl, rfl, trivial⟩ ?_
        refine r_op (t_ldE (k := 1) 0 rfl rfl h53 rfl (.one tyO3) rfl) ⟨rfl, trivial⟩ ?_
        obtain ⟨v54, h55, hF⟩ := bnd hF
        refine r_op (t_sub rfl h55) ⟨rfl, k_I _ _, trivial⟩ ?_
        obtain ⟨v56, h57, hF⟩ := bnd hF
        refine r_op (t_ixE (C := cI) 0 rfl tyS22 rfl (stL_len h48 q35) (rdL_some h57).1 (rdL_some h57).2.1) ⟨rfl, rfl, trivial⟩ ?_
        obtain ⟨x58, h59, hF⟩ := bnd hF
        refine r_op0 (t_stE 0 rfl rfl h57 h59 tyO3.s) ⟨rfl, rfl, trivial⟩ ?_
        refine r_nil (r_blkN (r_next (r_reg ?_)))
        obtain ⟨v61, h62, hF⟩ := bnd hF
        refine r_op (t_add rfl h62) ⟨rfl, k_I _ _, trivial⟩ ?_
        refine r_mv ?_
        refine r_nil ?_
        exact r_round (fun a w hh => ⟨x58, v61, hF, (stL_len h59 (stL_len h48 q35)), hs_back [0] rfl (by decide) (by exact ⟨rfl, rfl, rfl, rfl, trivial⟩) hh⟩)
      have hF := cnd_f h40 hF
      refine r_skip (r_blkN (r_next (r_reg ?_)))
      obtain ⟨v63, h64, hF⟩ := bnd hF
      refine r_op (t_add rfl h64) ⟨rfl, k_I _ _, trivial⟩ ?_
      refine r_mv ?_
      refine r_nil ?_
      exact r_round (fun a w hh => ⟨x31, v63, hF, q35, hs_back [0] rfl (by decide) (by exact ⟨rfl, rfl, rfl, rfl, trivial⟩) hh⟩)
    refine r_seq (r_reg (r_mv ?_))
    refine r_mv ?_
    refine r_op (t_ln rfl tyS22) ⟨rfl, trivial⟩ ?_
    refine r_op (t_lt rfl) ⟨rfl, rfl, trivial⟩ ?_
    refine r_nil (r_next (r_if rfl (fun h65 => ?_) (fun h65 => ?_)))
    · have hF := cnd_t h65 hF
      obtain ⟨v68, h69, hF⟩ := bnd hF
      obtain ⟨v70, h71, hF⟩ := bnd hF
      obtain ⟨v72, h73, hF⟩ := bnd hF
      obtain ⟨v74, h75, hF⟩ := bnd hF
      refine r_draw [0, 0, 3, 7, 0, 0, 48, 112, 255, 511, 1023] 10 1 [.v (.vc (pO b3 x1.length x1.length)), .v (.vc (pI .i64 x20)), .v (.vc (pE b3 x20 cI.n 0)), .v (.vc (pI .i64 v68)), .v (.vc (pS cI a1)), .v (.vc (pI .i64 x20)), .v (.vc (pM (cI.e v70))), .v (.vc (pI .i64 v70)), .v (.vc (pI .i64 v72)), .v (.vc (pE b3 x20 cI.n 0))] Tryz_mixed ⟨d0 (t_mv (.inl rfl)) ⟨rfl, trivial⟩, d0 (t_mv (.inl rfl)) ⟨rfl, trivial⟩, d0 (t_ixE (C := cI) 0 rfl tyS22 rfl q18 (rdL_some h69).1 (rdL_some h69).2.1) ⟨rfl, rfl, trivial⟩, d0 (t_ldE (k := 1) 0 rfl rfl h69 rfl (.one tyO3) rfl) ⟨rfl, trivial⟩, d0 (t_mv (.inl rfl)) ⟨rfl, trivial⟩, d0 (t_mv (.inl rfl)) ⟨rfl, trivial⟩, d0 (t_ix rfl tyS22 h71) ⟨rfl, rfl, trivial⟩, d0 (t_lM 1 rfl rfl (.one tyO3)) ⟨rfl, trivial⟩, d0 (t_sub rfl h73) ⟨rfl, rfl, trivial⟩, d0 (t_ixE (C := cI) 0 rfl tyS22 rfl q18 (rdL_some h75).1 (rdL_some h75).2.1) ⟨rfl, rfl, trivial⟩, trivial⟩ (fun bs67 G66 => ?_)
      obtain ⟨x76, h77, hF⟩ := bnd hF
      refine r_op0 (t_stE 0 rfl rfl h75 h77 tyO3.s) ⟨rfl, rfl, trivial⟩ ?_
      refine r_nil ?_
      exact r_backJ Jj37 ⟨x76, hF, (stL_len h77 q18), rfl, rfl⟩ [0] rfl ⟨rfl, rfl, rfl, rfl, rfl, trivial⟩
    have hF := cnd_f h65 hF
    refine r_skip ?_
    exact r_backJ Jj37 ⟨x14, hF, q18, rfl, rfl⟩ [0] rfl ⟨rfl, rfl, rfl, rfl, rfl, trivial⟩
  have hF := cnd_f h29 hF
  refine r_brk ?_
  obtain rfl := sm1 hF
  exact r_backJ Jj28 ⟨x14, hRl27, q18, rfl, rfl⟩ [0] rfl ⟨rfl, trivial⟩
def F_integer_Add (K : Nat) (a0 : GInt) (a1 : GInt) : Option GInt :=
  bif (a0.neg == a1.neg) then ((F_integer_plus K a0.d a1.d).bind fun v7 => (F_integer_of K a0.neg v7).bind fun v9 => some v9) else ((F_integer_compare K a0.d a1.d).bind fun v11 => bif (decide (v11 < 0)) then ((F_integer_minus K a1.d a0.d).bind fun v16 => (F_integer_of K a1.neg v16).bind fun v18 => some v18) else ((F_integer_minus K a0.d a1.d).bind fun v22 => (F_integer_of K a0.neg v22).bind fun v24 => some v24))
theorem ct_integer_Add {K : Nat} {a0 : GInt} {a1 : GInt} {r : GInt} (hF : F_integer_Add K a0 a1 = some r) : Ct Tryz.prog 133 [.va (GInt.e a0), .va (GInt.e a1)] (.va (GInt.e r)) := by
  unfold F_integer_Add at hF
  refine ctO_intro Tryz.func133 rfl (by kernel_rfl) Tryz.ntmps133 rfl (fun w0 M0 => ?_)
  refine r_seq (r_reg (r_box rfl rfl trivial (fun b1 => ?_)))
  refine r_box rfl rfl trivial (fun b2 => ?_)
  refine r_alloc rfl tyZ33 (fun b3 => ?_)
  refine r_nil (r_next (r_seq (r_blk (r_seq (r_reg (r_op (t_fa (off := 0) (k := 0) rfl tyF33_0) ⟨rfl, trivial⟩ ?_))))))
  refine r_op (t_l 2 1 rfl rfl rfl rfl (.one tyO4)) ⟨rfl, trivial⟩ ?_
  refine r_op (t_fa (off := 0) (k := 0) rfl tyF33_0) ⟨rfl, trivial⟩ ?_
  refine r_op (t_l 1 1 rfl rfl rfl rfl (.one tyO4)) ⟨rfl, trivial⟩ ?_
  refine r_op (t_eqB rfl Tryz.underlying4) ⟨rfl, rfl, trivial⟩ ?_
  refine r_as ?_
  refine r_nil (r_next (r_if rfl (fun h4 => ?_) (fun h4 => ?_)))
  · have hF := cnd_t h4 hF
    refine r_seq ?_
    obtain ⟨v7, h8, hF⟩ := bnd hF
    obtain ⟨v9, h10, hF⟩ := bnd hF
    refine r_draw [0, 1, 0, 4, 0, 16, 60, 127, 255] 8 1 [.v (.vc (pP (some b1) 0)), .v (.vc (pB a0.neg)), .v (.vc (pP (some b1) 1)), .v (.vc (pS cI a0.d)), .v (.vc (pP (some b2) 1)), .v (.vc (pS cI a1.d)), .v (.vc (pS cI v7)), .v (.va (GInt.e v9))] Tryz_mixed ⟨d0 (t_fa (off := 0) (k := 0) rfl tyF33_0) ⟨rfl, trivial⟩, d0 (t_l 2 1 rfl rfl rfl rfl (.one tyO4)) ⟨rfl, trivial⟩, d0 (t_fa (off := 0) (k := 1) rfl tyF33_1) ⟨rfl, trivial⟩, d0 (t_l 2 1 rfl rfl rfl rfl (.one tyO22)) ⟨rfl, trivial⟩, d0 (t_fa (off := 0) (k := 1) rfl tyF33_1) ⟨rfl, trivial⟩, d0 (t_l 1 1 rfl rfl rfl rfl (.one tyO22)) ⟨rfl, trivial⟩, d0 (t_call rfl (ct_integer_plus h8) rfl) ⟨rfl, rfl, trivial⟩, d0 (t_call rfl (ct_integer_of h10) rfl) ⟨rfl, rfl, trivial⟩, trivial⟩ (fun bs6 G5 => ?_)
    refine r_op0 (t_s 0 rfl rfl rfl tyA33.s) ⟨rfl, rfl, trivial⟩ ?_
    refine r_nil (r_next (r_ret (r_toR ?_)))
    obtain rfl := sm1 hF
    exact r_done1 (.inl rfl) Tryz.results133 (rv_cell 0 2 rfl rfl rfl rfl (.agg tyA33) .nil) rfl rfl
  have hF := cnd_f h4 hF
  refine r_seq (r_reg (r_op (t_fa (off := 0) (k := 1) rfl tyF33_1) ⟨rfl, trivial⟩ ?_))
  refine r_op (t_l 2 1 rfl rfl rfl rfl (.one tyO22)) ⟨rfl, trivial⟩ ?_
  refine r_op (t_fa (off := 0) (k := 1) rfl tyF33_1) ⟨rfl, trivial⟩ ?_
  refine r_op (t_l 1 1 rfl rfl rfl rfl (.one tyO22)) ⟨rfl, trivial⟩ ?_
  obtain ⟨v11, h12, hF⟩ := bnd hF
  refine r_op (t_call rfl (ct_integer_compare h12) rfl) ⟨rfl, rfl, trivial⟩ ?_
  refine r_op (t_lt rfl) ⟨rfl, k_I _ _, trivial⟩ ?_
  refine r_as ?_
  refine r_nil (r_next (r_if rfl (fun h13 => ?_) (fun h13 => ?_)))
  · have hF := cnd_t h13 hF
    refine r_seq ?_
    obtain ⟨v16, h17, hF⟩ := bnd hF
    obtain ⟨v18, h19, hF⟩ := bnd hF
    refine r_draw [0, 1, 0, 4, 0, 16, 60, 127, 255] 8 1 [.v (.vc (pP (some b2) 0)), .v (.vc (pB a1.neg)), .v (.vc (pP (some b2) 1)), .v (.vc (pS cI a1.d)), .v (.vc (pP (some b1) 1)), .v (.vc (pS cI a0.d)), .v (.vc (pS cI v16)), .v (.va (GInt.e v18))] Tryz_mixed ⟨d0 (t_fa (off := 0) (k := 0) rfl tyF33_0) ⟨rfl, trivial⟩, d0 (t_l 1 1 rfl rfl rfl rfl (.one tyO4)) ⟨rfl, trivial⟩, d0 (t_fa (off := 0) (k := 1) rfl tyF33_1) ⟨rfl, trivial⟩, d0 (t_l 1 1 rfl rfl rfl rfl (.one tyO22)) ⟨rfl, trivial⟩, d0 (t_fa (off := 0) (k := 1) rfl tyF33_1) ⟨rfl, trivial⟩, d0 (t_l 2 1 rfl rfl rfl rfl (.one tyO22)) ⟨rfl, trivial⟩, d0 (t_call rfl (ct_integer_minus h17) rfl) ⟨rfl, rfl, trivial⟩, d0 (t_call rfl (ct_integer_of h19) rfl) ⟨rfl, rfl, trivial⟩, trivial⟩ (fun bs15 G14 => ?_)
    refine r_op0 (t_s 0 rfl rfl rfl tyA33.s) ⟨rfl, rfl, trivial⟩ ?_
    refine r_nil (r_next (r_ret (r_toR ?_)))
    obtain rfl := sm1 hF
    exact r_done1 (.inl rfl) Tryz.results133 (rv_cell 0 2 rfl rfl rfl rfl (.agg tyA33) .nil) rfl rfl
  have hF := cnd_f h13 hF
  refine r_skip (r_blkN (r_next (r_seq ?_)))
  obtain ⟨v22, h23, hF⟩ := bnd hF
  obtain ⟨v24, h25, hF⟩ := bnd hF
  refine r_draw [0, 1, 0, 4, 0, 16, 60, 127, 255] 8 1 [.v (.vc (pP (some b1) 0)), .v (.vc (pB a0.neg)), .v (.vc (pP (some b1) 1)), .v (.vc (pS cI a0.d)), .v (.vc (pP (some b2) 1)), .v (.vc (pS cI a1.d)), .v (.vc (pS cI v22)), .v (.va (GInt.e v24))] Tryz_mixed ⟨d0 (t_fa (off := 0) (k := 0) rfl tyF33_0) ⟨rfl, trivial⟩, d0 (t_l 2 1 rfl rfl rfl rfl (.one tyO4)) ⟨rfl, trivial⟩, d0 (t_fa (off := 0) (k := 1) rfl tyF33_1) ⟨rfl, trivial⟩, d0 (t_l 2 1 rfl rfl rfl rfl (.one tyO22)) ⟨rfl, trivial⟩, d0 (t_fa (off := 0) (k := 1) rfl tyF33_1) ⟨rfl, trivial⟩, d0 (t_l 1 1 rfl rfl rfl rfl (.one tyO22)) ⟨rfl, trivial⟩, d0 (t_call rfl (ct_integer_minus h23) rfl) ⟨rfl, rfl, trivial⟩, d0 (t_call rfl (ct_integer_of h25) rfl) ⟨rfl, rfl, trivial⟩, trivial⟩ (fun bs21 G20 => ?_)
  refine r_op0 (t_s 0 rfl rfl rfl tyA33.s) ⟨rfl, rfl, trivial⟩ ?_
  refine r_nil (r_next (r_ret (r_toR ?_)))
  obtain rfl := sm1 hF
  exact r_done1 (.inl rfl) Tryz.results133 (rv_cell 0 2 rfl rfl rfl rfl (.agg tyA33) .nil) rfl rfl
def F_integer_two (a0 : List Int) : Option (Int × Bool) :=
  bif ((a0.length : Int) == 0) then (some (0, true)) else (bif ((a0.length : Int) == 1) then ((rdL a0 0).bind fun v3 => some (v3, true)) else (bif ((a0.length : Int) == 2) then ((rdL a0 1).bind fun v8 => (chk (v8 * 1000000000)).bind fun v10 => (rdL a0 0).bind fun v12 => (chk (v10 + v12)).bind fun v14 => some (v14, true)) else (some (0, false))))
theorem ct_integer_two {a0 : List Int} {r : Int × Bool} (hF : F_integer_two a0 = some r) : Ct Tryz.prog 165 [.vc (pS cI a0)] (.t2 (.vc (pI .i64 r.1)) (.vc (pB r.2))) := by
  unfold F_integer_two at hF
  refine ctO_intro Tryz.func165 rfl (by kernel_rfl) Tryz.ntmps165 rfl (fun w0 M0 => ?_)
  refine r_seq (r_reg (r_op (t_mv (.inr rfl)) ⟨k_I _ _, trivial⟩ ?_))
  refine r_op (t_mv (.inr rfl)) ⟨k_B _, trivial⟩ ?_
  refine r_nil (r_next (r_seq (r_seq (r_reg (r_mv ?_)))))
  refine r_op (t_ln rfl tyS22) ⟨rfl, trivial⟩ ?_
  refine r_nil (r_next (r_blk (r_seq (r_reg (r_op (t_eq rfl) ⟨rfl, k_I _ _, trivial⟩ ?_)))))
  refine r_as ?_
  refine r_nil (r_next (r_if rfl (fun h1 => ?_) (fun h1 => ?_)))
  · have hF := cnd_t h1 hF
    refine r_seq (r_reg (r_op (t_mv (.inr rfl)) ⟨k_I _ _, trivial⟩ ?_))
    refine r_op (t_mv (.inr rfl)) ⟨k_B _, trivial⟩ ?_
    refine r_nil (r_next (r_ret (r_toR ?_)))
    obtain rfl := sm1 hF
    exact r_done1 (.inl rfl) Tryz.results165 (.tmp rfl (.tmp rfl .nil)) rfl rfl
  have hF := cnd_f h1 hF
  refine r_seq (r_reg (r_op (t_eq rfl) ⟨rfl, k_I _ _, trivial⟩ ?_))
  refine r_as ?_
  refine r_nil (r_next (r_if rfl (fun h2 => ?_) (fun h2 => ?_)))
  · have hF := cnd_t h2 hF
    refine r_seq (r_reg (r_mv ?_))
    obtain ⟨v3, h4, hF⟩ := bnd hF
    refine r_op (t_ix rfl tyS22 h4) ⟨rfl, k_I _ _, trivial⟩ ?_
    refine r_op (t_lM 1 rfl rfl (.one tyO3)) ⟨rfl, trivial⟩ ?_
    refine r_as ?_
    refine r_op (t_mv (.inr rfl)) ⟨k_B _, trivial⟩ ?_
    refine r_nil (r_next (r_ret (r_toR ?_)))
    obtain rfl := sm1 hF
    exact r_done1 (.inl rfl) Tryz.results165 (.tmp rfl (.tmp rfl .nil)) rfl rfl
  have hF := cnd_f h2 hF
  refine r_seq (r_reg (r_op (t_eq rfl) ⟨rfl, k_I _ _, trivial⟩ ?_))
  refine r_as ?_
  refine r_nil (r_next (r_if rfl (fun h5 => ?_) (fun h5 => ?_)))
  · have hF := cnd_t h5 hF
    refine r_seq ?_
    obtain ⟨v8, h9, hF⟩ := bnd hF
    obtain ⟨v10, h11, hF⟩ := bnd hF
    obtain ⟨v12, h13, hF⟩ := bnd hF
    obtain ⟨v14, h15, hF⟩ := bnd hF
    refine r_draw [0, 1, 3, 7, 0, 16, 48, 127, 255, 511] 10 0 [.v (.vc (pS cI a0)), .v (.vc (pM (cI.e v8))), .v (.vc (pI .i64 v8)), .v (.vc (pI .i64 v10)), .v (.vc (pS cI a0)), .v (.vc (pM (cI.e v12))), .v (.vc (pI .i64 v12)), .v (.vc (pI .i64 v14)), .v (.vc (pI .i64 v14)), .v (.vc (pB true))] Tryz_mixed ⟨d0 (t_mv (.inl rfl)) ⟨rfl, trivial⟩, d0 (t_ix rfl tyS22 h9) ⟨rfl, k_I _ _, trivial⟩, d0 (t_lM 1 rfl rfl (.one tyO3)) ⟨rfl, trivial⟩, d0 (t_mul rfl h11) ⟨rfl, k_I _ _, trivial⟩, d0 (t_mv (.inl rfl)) ⟨rfl, trivial⟩, d0 (t_ix rfl tyS22 h13) ⟨rfl, k_I _ _, trivial⟩, d0 (t_lM 1 rfl rfl (.one tyO3)) ⟨rfl, trivial⟩, d0 (t_add rfl h15) ⟨rfl, rfl, trivial⟩, d0 (t_mv (.inr rfl)) ⟨rfl, trivial⟩, d0 (t_mv (.inr rfl)) ⟨k_B _, trivial⟩, trivial⟩ (fun bs7 G6 => ?_)
    refine r_nil (r_next (r_ret (r_toR ?_)))
    obtain rfl := sm1 hF
    exact r_done1 (.inl rfl) Tryz.results165 (.tmp rfl (.tmp rfl .nil)) rfl rfl
  have hF := cnd_f h5 hF
  refine r_skip (r_blkN (r_next (r_seq (r_reg (r_op (t_mv (.inr rfl)) ⟨k_I _ _, trivial⟩ ?_)))))
  refine r_op (t_mv (.inr rfl)) ⟨k_B _, trivial⟩ ?_
  refine r_nil (r_next (r_ret (r_toR ?_)))
  obtain rfl := sm1 hF
  exact r_done1 (.inl rfl) Tryz.results165 (.tmp rfl (.tmp rfl .nil)) rfl rfl
def F_integer_short_j32 (K : Nat) (x24 : List Int) (x30 : Int) : Option ((List Int) × Int) :=
  some (x24, x30)
def F_integer_short_l31 (K : Nat) (a0 : List Int) (a1 : Int) : Nat → (List Int) → Int → Int → Option ((List Int) × Int)
  | 0, _, _, _ => none
  | k + 1, x16, x22, x23 => bif (decide (0 ≤ x23)) then ((chk (x22 * 1000000000)).bind fun v34 => (rdL a0 x23).bind fun v36 => (chk (v34 + v36)).bind fun v38 => (chq v38 a1).bind fun v42 => (chr v38 a1).bind fun v44 => (rdL x16 x23).bind fun v46 => (stL x16 x23 v42).bind fun x48 => (chk (x23 - 1)).bind fun v51 => F_integer_short_l31 K a0 a1 k x48 v44 v51) else (some (x16, x22))
def F_integer_short (K : Nat) (a0 : List Int) (a1 : Int) : Option ((List Int) × Int) :=
  (mkL (a0.length : Int) 0).bind fun x1 => (chk ((a0.length : Int) - 1)).bind fun v6 => (F_integer_short_l31 K a0 a1 K x1 0 v6).bind fun (x24, x30) => F_integer_short_j32 K x24 x30
theorem ct_integer_short {K : Nat} {a0 : List Int} {a1 : Int} {r : (List Int) × Int} (hF : F_integer_short K a0 a1 = some r) : Ct Tryz.prog 171 [.vc (pS cI a0), .vc (pI .i64 a1)] (.t2 (.vc (pS cI r.1)) (.vc (pI .i64 r.2))) := by
  unfold F_integer_short at hF
  refine ctO_intro Tryz.func171 rfl (by kernel_rfl) Tryz.ntmps171 rfl (fun w0 M0 => ?_)
  refine r_seq (r_reg (r_op (t_mv (.inr rfl)) ⟨k_nil cI, trivial⟩ ?_))
  refine r_op (t_mv (.inr rfl)) ⟨k_I _ _, trivial⟩ ?_
  refine r_nil (r_next (r_seq (r_reg (r_mv ?_))))
  refine r_op (t_ln rfl tyS22) ⟨rfl, trivial⟩ ?_
  obtain ⟨x1, h2, hF⟩ := bnd hF
  refine r_make (C := cI) rfl tyS22 rfl tyZ3 rfl h2 (fun b3 => ?_)
  refine r_as ?_
  refine r_nil (r_next (r_seq (r_reg (r_op (t_mv (.inr rfl)) ⟨k_I _ _, trivial⟩ ?_))))
  refine r_nil (r_next (r_seq (r_seq (r_reg (r_mv ?_)))))
  refine r_op (t_ln rfl tyS22) ⟨rfl, trivial⟩ ?_
  obtain ⟨v6, h7, hF⟩ := bnd hF
  refine r_op (t_sub rfl h7) ⟨rfl, k_I _ _, trivial⟩ ?_
  refine r_as ?_
  refine r_nil (r_next (r_blk (r_cutN (fun H E => ∃ (x24 : List Int), ∃ (x30 : Int), F_integer_short_j32 K x24 x30 = some r ∧ x24.length = x1.length ∧ H = [hO cI b3 x1.length 3 x1.length x24] ∧ E = [(6, .vc (pO b3 x1.length x1.length)), (7, .vc (pI .i64 x30))]) ?_ (fun Jj32 => ?_))))
  · rintro _ _ ⟨x24, x30, hF, q28, rfl, rfl⟩
    unfold F_integer_short_j32 at hF
    refine r_next (r_seq (r_reg (r_mv ?_)))
    refine r_mv ?_
    refine r_as ?_
    refine r_as ?_
    refine r_nil (r_next (r_ret (r_toR (r_fzX 0 [4, 6, 36] rfl q28 ⟨rfl, rfl, rfl, trivial⟩ rfl ?_))))
    obtain rfl := sm1 hF
    exact r_done1 (.inl rfl) Tryz.results171 (.tmp rfl (.tmp rfl .nil)) rfl rfl
  obtain ⟨⟨x24', x30'⟩, hL, hRl31⟩ := bnd hF
  refine r_lp (fun k a w => ∃ (x16 : List Int), ∃ (x22 : Int), ∃ (x23 : Int), F_integer_short_l31 K a0 a1 k x16 x22 x23 = some (x24', x30') ∧ x16.length = x1.length ∧ hs _ [hO cI b3 x1.length 3 x1.length x16] [(0, .vc (pS cI a0)), (1, .vc (pI .i64 a1)), (6, .vc (pO b3 x1.length x1.length)), (7, .vc (pI .i64 x22)), (8, .vc (pI .i64 x23))] a w) K (fun a w ⟨_, _, _, hF, _, _⟩ => by cases hF) (fun k a w ⟨x16, x22, x23, hF, q20, hh⟩ => r_at ?_ hh) (fun a w hh => ⟨x1, 0, v6, hL, rfl, hs_back [0] rfl (by decide) (by exact ⟨rfl, rfl, rfl, rfl, rfl, trivial⟩) hh⟩)
  rw [F_integer_short_l31.eq_2] at hF
  refine r_seq (r_seq (r_reg (r_mv ?_)))
  refine r_op (t_ge rfl) ⟨rfl, k_I _ _, trivial⟩ ?_
  refine r_nil (r_next (r_if rfl (fun h33 => ?_) (fun h33 => ?_)))
  · have hF := cnd_t h33 hF
    refine r_skip (r_next (r_seq (r_blk (r_seq (r_reg (r_mv ?_))))))
    obtain ⟨v34, h35, hF⟩ := bnd hF
    refine r_op (t_mul rfl h35) ⟨rfl, k_I _ _, trivial⟩ ?_
    refine r_mv ?_
    refine r_mv ?_
    obtain ⟨v36, h37, hF⟩ := bnd hF
    refine r_op (t_ix rfl tyS22 h37) ⟨rfl, rfl, trivial⟩ ?_
    refine r_op (t_lM 1 rfl rfl (.one tyO3)) ⟨rfl, trivial⟩ ?_
    obtain ⟨v38, h39, hF⟩ := bnd hF
    refine r_op (t_add rfl h39) ⟨rfl, rfl, trivial⟩ ?_
    refine r_as ?_
    refine r_nil (r_next ?_)
    obtain ⟨v42, h43, hF⟩ := bnd hF
    obtain ⟨v44, h45, hF⟩ := bnd hF
    obtain ⟨v46, h47, hF⟩ := bnd hF
    obtain ⟨x48, h49, hF⟩ := bnd hF
    refine r_drawH (HsL [fun G40 => [hO cI b3 x1.length 3 x1.length x16], fun G40 => [hO cI b3 x1.length 3 x1.length x48]]) [9] [0, 0, 0, 0, 12, 0, 0, 96, 31, 287, 1023] 11 0 [.v (.vc (pO b3 x1.length x1.length)), .v (.vc (pI .i64 x23)), .v (.vc (pI .i64 v38)), .v (.vc (pI .i64 a1)), .v (.vc (pI .i64 v42)), .v (.vc (pI .i64 v38)), .v (.vc (pI .i64 a1)), .v (.vc (pI .i64 v44)), .v (.vc (pE b3 x23 cI.n 0)), .g (fun _ _ => .any), .v (.vc (pI .i64 v44))] Tryz_mixed ⟨d1 0 (t_mv (.inl rfl)) ⟨rfl, trivial⟩, d1 0 (t_mv (.inl rfl)) ⟨rfl, trivial⟩, d1 0 (t_mv (.inl rfl)) ⟨rfl, trivial⟩, d1 0 (t_mv (.inl rfl)) ⟨rfl, trivial⟩, d1 0 (t_quo rfl h43) ⟨rfl, rfl, trivial⟩, ⟨rfl, .run (lo := 0) (n := 2) ⟨fun G40 A => t_mv (.inl rfl), fun G40 A => t_mv (.inl rfl), trivial⟩ (fun G40 => ⟨rfl, trivial⟩)⟩, ⟨rfl, .run (lo := 0) (n := 2) ⟨fun G40 A => t_mv (.inl rfl), fun G40 A => t_mv (.inl rfl), trivial⟩ (fun G40 => ⟨rfl, trivial⟩)⟩, ⟨rfl, .run (lo := 0) (n := 2) ⟨fun G40 A => t_rem rfl h45, fun G40 A => t_rem rfl h45, trivial⟩ (fun G40 => ⟨rfl, rfl, trivial⟩)⟩, d1 0 (t_ixE (C := cI) 0 rfl tyS22 rfl q20 (rdL_some h47).1 (rdL_some h47).2.1) ⟨rfl, rfl, trivial⟩, ⟨rfl, .hvy 0 (fun G40 A => hv_tr (t_stE 0 rfl rfl h47 h49 tyO3.s)) (fun G40 => ⟨rfl, rfl, trivial⟩)⟩, d1 1 (t_mv (.inr rfl)) ⟨rfl, trivial⟩, trivial⟩ (fun bs41 G40 => ?_)
    refine r_nil (r_blkN (r_next (r_reg (r_mv ?_))))
    obtain ⟨v51, h52, hF⟩ := bnd hF
    refine r_op (t_sub rfl h52) ⟨rfl, k_I _ _, trivial⟩ ?_
    refine r_as ?_
    refine r_nil ?_
    exact r_round (fun a w hh => ⟨x48, v44, v51, hF, (stL_len h49 q20), hs_back [0] rfl (by decide) (by exact ⟨rfl, rfl, rfl, rfl, rfl, trivial⟩) hh⟩)
  have hF := cnd_f h33 hF
  refine r_brk ?_
  obtain ⟨rfl, rfl⟩ := sm2 hF
  exact r_backJ Jj32 ⟨x16, x22, hRl31, q20, rfl, rfl⟩ [0] rfl ⟨rfl, rfl, trivial⟩
def F_integer_scaled_j34 (K : Nat) (a0 : List Int) (x26 : List Int) (x32 : Int) : Option (List Int) :=
  (rdL x26 (a0.length : Int)).bind fun v35 => (stL x26 (a0.length : Int) x32).bind fun x37 => some x37
def F_integer_scaled_l33 (K : Nat) (a0 : List Int) (a1 : Int) : Nat → (List Int) → Int → Int → Option ((List Int) × Int)
  | 0, _, _, _ => none
  | k + 1, x18, x24, x25 => bif (decide (x25 < (a0.length : Int))) then ((rdL a0 x25).bind fun v41 => (chk (v41 * a1)).bind fun v43 => (chk (v43 + x24)).bind fun v45 => (chr v45 1000000000).bind fun v47 => (chq v45 1000000000).bind fun v49 => (rdL x18 x25).bind fun v51 => (stL x18 x25 v47).bind fun x53 => (chk (x25 + 1)).bind fun v56 => F_integer_scaled_l33 K a0 a1 k x53 v49 v56) else (some (x18, x24))
def F_integer_scaled (K : Nat) (a0 : List Int) (a1 : Int) : Option (List Int) :=
  (chk ((a0.length : Int) + 1)).bind fun v3 => (mkL v3 0).bind fun x5 => (F_integer_scaled_l33 K a0 a1 K x5 0 0).bind fun (x26, x32) => F_integer_scaled_j34 K a0 x26 x32
theorem ctO_integer_scaled {K : Nat} {a0 : List Int} {a1 : Int} {r : List Int} (hF : F_integer_scaled K a0 a1 = some r) : CtO Tryz.prog 174 [] [.vc (pS cI a0), .vc (pI .i64 a1)] (fun Ho q => ∃ b60 c61 n59, r.length = n59 ∧ Ho = [hO cI b60 c61 3 n59 r] ∧ q = .vc (pO b60 n59 c61)) := by
  unfold F_integer_scaled at hF
  refine ctO_intro Tryz.func174 rfl (by kernel_rfl) Tryz.ntmps174 rfl (fun w0 M0 => ?_)
  refine r_seq (r_reg (r_nilO cI 3 rfl ?_))
  refine r_nil (r_next (r_seq (r_reg (r_mv ?_))))
  refine r_op (t_ln rfl tyS22) ⟨rfl, trivial⟩ ?_
  obtain ⟨v3, h4, hF⟩ := bnd hF
  refine r_op (t_add rfl h4) ⟨rfl, k_I _ _, trivial⟩ ?_
  obtain ⟨x5, h6, hF⟩ := bnd hF
  refine r_make (C := cI) rfl tyS22 rfl tyZ3 rfl h6 (fun b7 => ?_)
  refine r_as ?_
  refine r_nil (r_next (r_seq (r_reg (r_op (t_mv (.inr rfl)) ⟨k_I _ _, trivial⟩ ?_))))
  refine r_nil (r_next (r_seq (r_seq (r_reg (r_mv ?_)))))
  refine r_op (t_ln rfl tyS22) ⟨rfl, trivial⟩ ?_
  refine r_op (t_mv (.inl rfl)) ⟨k_I _ _, trivial⟩ ?_
  refine r_nil (r_next (r_blk (r_cutN (fun H E => ∃ (x26 : List Int), ∃ (x32 : Int), F_integer_scaled_j34 K a0 x26 x32 = some r ∧ x26.length = x5.length ∧ H = [hO cI b7 x5.length 3 x5.length x26] ∧ E = [(0, .vc (pS cI a0)), (5, .vc (pO b7 x5.length x5.length)), (6, .vc (pI .i64 x32))]) ?_ (fun Jj34 => ?_))))
  · rintro _ _ ⟨x26, x32, hF, q30, rfl, rfl⟩
    unfold F_integer_scaled_j34 at hF
    refine r_next (r_seq (r_reg (r_mv ?_)))
    refine r_mv ?_
    refine r_op (t_ln rfl tyS22) ⟨rfl, trivial⟩ ?_
    refine r_mv ?_
    obtain ⟨v35, h36, hF⟩ := bnd hF
    refine r_op (t_ixE (C := cI) 0 rfl tyS22 rfl q30 (rdL_some h36).1 (rdL_some h36).2.1) ⟨rfl, rfl, trivial⟩ ?_
    obtain ⟨x37, h38, hF⟩ := bnd hF
    refine r_op0 (t_stE 0 rfl rfl h36 h38 tyO3.s) ⟨rfl, rfl, trivial⟩ ?_
    refine r_nil (r_next (r_seq (r_reg (r_mv ?_))))
    refine r_as ?_
    refine r_nil (r_next (r_ret (r_toR ?_)))
    obtain rfl := sm1 hF
    exact r_done (.inl rfl) Tryz.results174 (.tmp rfl .nil) rfl [0] rfl (by decide) ⟨b7, x5.length, x5.length, (stL_len h38 q30), rfl, rfl⟩
  obtain ⟨⟨x26', x32'⟩, hL, hRl33⟩ := bnd hF
  refine r_lp (fun k a w => ∃ (x18 : List Int), ∃ (x24 : Int), ∃ (x25 : Int), F_integer_scaled_l33 K a0 a1 k x18 x24 x25 = some (x26', x32') ∧ x18.length = x5.length ∧ hs _ [hO cI b7 x5.length 3 x5.length x18] [(0, .vc (pS cI a0)), (1, .vc (pI .i64 a1)), (5, .vc (pO b7 x5.length x5.length)), (6, .vc (pI .i64 x24)), (14, .vc (pS cI a0)), (15, .vc (pI .i64 (a0.length : Int))), (16, .vc (pI .i64 x25))] a w) K (fun a w ⟨_, _, _, hF, _, _⟩ => by cases hF) (fun k a w ⟨x18, x24, x25, hF, q22, hh⟩ => r_at ?_ hh) (fun a w hh => ⟨x5, 0, 0, hL, rfl, hs_back [0] rfl (by decide) (by exact ⟨rfl, rfl, rfl, rfl, rfl, rfl, rfl, trivial⟩) hh⟩)
  rw [F_integer_scaled_l33.eq_2] at hF
  refine r_seq (r_reg (r_op (t_lt rfl) ⟨rfl, rfl, trivial⟩ ?_))
  refine r_nil (r_next (r_seq (r_if rfl (fun h40 => ?_) (fun h40 => ?_))))
  · have hF := cnd_t h40 hF
    refine r_skip (r_next (r_seq (r_blk (r_seq (r_reg (r_mv ?_))))))
    obtain ⟨v41, h42, hF⟩ := bnd hF
    refine r_op (t_ix rfl tyS22 h42) ⟨rfl, rfl, trivial⟩ ?_
    refine r_op (t_lM 1 rfl rfl (.one tyO3)) ⟨rfl, trivial⟩ ?_
    refine r_as ?_
    refine r_as ?_
    refine r_nil (r_next (r_seq (r_reg (r_mv ?_))))
    refine r_mv ?_
    obtain ⟨v43, h44, hF⟩ := bnd hF
    refine r_op (t_mul rfl h44) ⟨rfl, rfl, trivial⟩ ?_
    refine r_mv ?_
    obtain ⟨v45, h46, hF⟩ := bnd hF
    refine r_op (t_add rfl h46) ⟨rfl, rfl, trivial⟩ ?_
    refine r_as ?_
    refine r_nil (r_next (r_reg (r_mv ?_)))
    refine r_mv ?_
    refine r_mv ?_
    obtain ⟨v47, h48, hF⟩ := bnd hF
    refine r_op (t_rem rfl h48) ⟨rfl, k_I _ _, trivial⟩ ?_
    refine r_mv ?_
    obtain ⟨v49, h50, hF⟩ := bnd hF
    refine r_op (t_quo rfl h50) ⟨rfl, k_I _ _, trivial⟩ ?_
    obtain ⟨v51, h52, hF⟩ := bnd hF
    refine r_op (t_ixE (C := cI) 0 rfl tyS22 rfl q22 (rdL_some h52).1 (rdL_some h52).2.1) ⟨rfl, rfl, trivial⟩ ?_
    obtain ⟨x53, h54, hF⟩ := bnd hF
    refine r_op0 (t_stE 0 rfl rfl h52 h54 tyO3.s) ⟨rfl, rfl, trivial⟩ ?_
    refine r_as ?_
    refine r_nil (r_blkN (r_next (r_reg ?_)))
    obtain ⟨v56, h57, hF⟩ := bnd hF
    refine r_op (t_add rfl h57) ⟨rfl, k_I _ _, trivial⟩ ?_
    refine r_mv ?_
    refine r_nil ?_
    exact r_round (fun a w hh => ⟨x53, v49, v56, hF, (stL_len h54 q22), hs_back [0] rfl (by decide) (by exact ⟨rfl, rfl, rfl, rfl, rfl, rfl, rfl, trivial⟩) hh⟩)
  have hF := cnd_f h40 hF
  refine r_brk ?_
  obtain ⟨rfl, rfl⟩ := sm2 hF
  exact r_backJ Jj34 ⟨x18, x24, hRl33, q22, rfl, rfl⟩ [0] rfl ⟨rfl, rfl, rfl, trivial⟩
theorem ct_integer_scaled {K : Nat} {a0 : List Int} {a1 : Int} {r : List Int} (hF : F_integer_scaled K a0 a1 = some r) : Ct Tryz.prog 174 [.vc (pS cI a0), .vc (pI .i64 a1)] (.vc (pS cI r)) := ct_ofO (ctO_integer_scaled hF)
def F_integer_long_j70 (K : Nat) (a1 : List Int) (v7 : Int) (x57 : List Int) (x63 : List Int) : Option ((List Int) × (List Int)) :=
  (slL x63 0 (a1.length : Int)).bind fun x71 => (F_integer_short K x71 v7).bind fun v73 => some (x57, v73.1)
def F_integer_long_j180 (K : Nat) (a1 : List Int) (x44 : List Int) (x56 : Int) (v154 : Int) (recl69 : (List Int) → (List Int) → Int → Option ((List Int) × (List Int))) (x172 : List Int) (x178 : Int) : Option ((List Int) × (List Int)) :=
  (chk (x56 + (a1.length : Int))).bind fun v181 => (rdL x172 v181).bind fun v183 => (chk (v183 + x178)).bind fun v185 => (rdL x172 v181).bind fun v187 => (stL x172 v181 v185).bind fun x189 => (rdL x44 x56).bind fun v192 => (stL x44 x56 v154).bind fun x194 => (chk (x56 - 1)).bind fun v197 => recl69 x194 x189 v197
def F_integer_long_l179 (K : Nat) (a1 : List Int) (x17 : List Int) (x56 : Int) : Nat → (List Int) → Int → Int → Option ((List Int) × Int)
  | 0, _, _, _ => none
  | k + 1, x164, x170, x171 => bif (decide (x171 < (a1.length : Int))) then ((chk (x171 + x56)).bind fun v202 => (rdL x164 v202).bind fun v204 => (rdL x17 x171).bind fun v206 => (chk (v204 + v206)).bind fun v208 => (chk (v208 + x170)).bind fun v210 => (chk (x171 + x56)).bind fun v212 => (chr v210 1000000000).bind fun v214 => (chq v210 1000000000).bind fun v216 => (rdL x164 v212).bind fun v218 => (stL x164 v212 v214).bind fun x220 => (chk (x171 + 1)).bind fun v223 => F_integer_long_l179 K a1 x17 x56 k x220 v216 v223) else (some (x164, x170))
def F_integer_long_j137 (K : Nat) (a1 : List Int) (x17 : List Int) (x44 : List Int) (x56 : Int) (x110 : Int) (recl69 : (List Int) → (List Int) → Int → Option ((List Int) × (List Int))) (x129 : List Int) (x135 : Int) : Option ((List Int) × (List Int)) :=
  (chk (x56 + (a1.length : Int))).bind fun v138 => (rdL x129 v138).bind fun v140 => (chk (v140 - x135)).bind fun v142 => (rdL x129 v138).bind fun v144 => (stL x129 v138 v142).bind fun x146 => (chk (x56 + (a1.length : Int))).bind fun v149 => (rdL x146 v149).bind fun v151 => bif (decide (v151 < 0)) then ((chk (x110 - 1)).bind fun v154 => (F_integer_long_l179 K a1 x17 x56 K x146 0 0).bind fun (x172, x178) => F_integer_long_j180 K a1 x44 x56 v154 recl69 x172 x178) else ((rdL x44 x56).bind fun v225 => (stL x44 x56 x110).bind fun x227 => (chk (x56 - 1)).bind fun v230 => recl69 x227 x146 v230)
def F_integer_long_l136 (K : Nat) (a1 : List Int) (x17 : List Int) (x56 : Int) (x110 : Int) : Nat → (List Int) → Int → Int → Option ((List Int) × Int)
  | 0, _, _, _ => none
  | k + 1, x121, x127, x128 => bif (decide (x128 < (a1.length : Int))) then ((chk (x128 + x56)).bind fun v235 => (rdL x121 v235).bind fun v237 => (rdL x17 x128).bind fun v239 => (chk (x110 * v239)).bind fun v241 => (chk (v237 - v241)).bind fun v243 => (chk (v243 - x127)).bind fun v245 => bif (decide (v245 < 0)) then ((chk (-v245)).bind fun v248 => (chk (v248 + 1000000000)).bind fun v250 => (chk (v250 - 1)).bind fun v252 => (chq v252 1000000000).bind fun v254 => (chk (v254 * 1000000000)).bind fun v256 => (chk (v245 + v256)).bind fun v258 => (chk (x128 + x56)).bind fun v260 => (rdL x121 v260).bind fun v262 => (stL x121 v260 v258).bind fun x264 => (chk (x128 + 1)).bind fun v267 => F_integer_long_l136 K a1 x17 x56 x110 k x264 v254 v267) else ((chk (x128 + x56)).bind fun v269 => (rdL x121 v269).bind fun v271 => (stL x121 v269 v245).bind fun x273 => (chk (x128 + 1)).bind fun v276 => F_integer_long_l136 K a1 x17 x56 x110 k x273 0 v276)) else (some (x121, x127))
def F_integer_long_j112 (K : Nat) (a1 : List Int) (x17 : List Int) (x44 : List Int) (x50 : List Int) (x56 : Int) (recl69 : (List Int) → (List Int) → Int → Option ((List Int) × (List Int))) (x110 : Int) : Option ((List Int) × (List Int)) :=
  (F_integer_long_l136 K a1 x17 x56 x110 K x50 0 0).bind fun (x129, x135) => F_integer_long_j137 K a1 x17 x44 x56 x110 recl69 x129 x135
def F_integer_long_l111 (K : Nat) (a1 : List Int) (x17 : List Int) (x50 : List Int) (x56 : Int) : Nat → Int → Int → Option Int
  | 0, _, _ => none
  | k + 1, x108, x109 => bif (decide (1000000000 ≤ x108)) then ((chk (x108 - 1)).bind fun v281 => (chk ((a1.length : Int) - 1)).bind fun v283 => (rdL x17 v283).bind fun v285 => (chk (x109 + v285)).bind fun v287 => bif (decide (1000000000 ≤ v287)) then (some v281) else (F_integer_long_l111 K a1 x17 x50 x56 k v281 v287)) else ((chk ((a1.length : Int) - 2)).bind fun v290 => (rdL x17 v290).bind fun v292 => (chk (x108 * v292)).bind fun v294 => (chk (x109 * 1000000000)).bind fun v296 => (chk (x56 + (a1.length : Int))).bind fun v298 => (chk (v298 - 2)).bind fun v300 => (rdL x50 v300).bind fun v302 => (chk (v296 + v302)).bind fun v304 => bif (decide (v304 < v294)) then ((chk (x108 - 1)).bind fun v307 => (chk ((a1.length : Int) - 1)).bind fun v309 => (rdL x17 v309).bind fun v311 => (chk (x109 + v311)).bind fun v313 => bif (decide (1000000000 ≤ v313)) then (some v307) else (F_integer_long_l111 K a1 x17 x50 x56 k v307 v313)) else (some x108))
def F_integer_long_l69 (K : Nat) (a1 : List Int) (x17 : List Int) : Nat → (List Int) → (List Int) → Int → Option ((List Int) × (List Int))
  | 0, _, _, _ => none
  | k + 1, x44, x50, x56 => bif (decide (0 ≤ x56)) then ((chk (x56 + (a1.length : Int))).bind fun v78 => (rdL x50 v78).bind fun v80 => (chk (v80 * 1000000000)).bind fun v82 => (chk (x56 + (a1.length : Int))).bind fun v84 => (chk (v84 - 1)).bind fun v86 => (rdL x50 v86).bind fun v88 => (chk (v82 + v88)).bind fun v90 => (chk ((a1.length : Int) - 1)).bind fun v94 => (rdL x17 v94).bind fun v96 => (chq v90 v96).bind fun v98 => (chk ((a1.length : Int) - 1)).bind fun v100 => (rdL x17 v100).bind fun v102 => (chr v90 v102).bind fun v104 => (F_integer_long_l111 K a1 x17 x50 x56 K v98 v104).bind fun x110 => F_integer_long_j112 K a1 x17 x44 x50 x56 (F_integer_long_l69 K a1 x17 k) x110) else (some (x44, x50))
def F_integer_long (K : Nat) (a0 : List Int) (a1 : List Int) : Option ((List Int) × (List Int)) :=
  (chk ((a1.length : Int) - 1)).bind fun v1 => (rdL a1 v1).bind fun v3 => (chk (v3 + 1)).bind fun v5 => (chq 1000000000 v5).bind fun v7 => (F_integer_scaled K a0 v7).bind fun v11 => (F_integer_scaled K a1 v7).bind fun v15 => (slL v15 0 (a1.length : Int)).bind fun x17 => (chk ((a0.length : Int) - (a1.length : Int))).bind fun v20 => (chk (v20 + 1)).bind fun v22 => (mkL v22 0).bind fun x24 => (chk ((a0.length : Int) - (a1.length : Int))).bind fun v29 => (F_integer_long_l69 K a1 x17 K x24 v11 v29).bind fun (x57, x63) => F_integer_long_j70 K a1 v7 x57 x63
theorem ct_integer_long {K : Nat} {a0 : List Int} {a1 : List Int} {r : (List Int) × (List Int)} (hF : F_integer_long K a0 a1 = some r) : Ct Tryz.prog 172 [.vc (pS cI a0), .vc (pS cI a1)] (.t2 (.vc (pS cI r.1)) (.vc (pS cI r.2))) := by
  unfold F_integer_long at hF
  refine ctO_intro Tryz.func172 rfl (by kernel_rfl) Tryz.ntmps172 rfl (fun w0 M0 => ?_)
  refine r_seq (r_reg (r_op (t_mv (.inr rfl)) ⟨k_nil cI, trivial⟩ ?_))
  refine r_op (t_mv (.inr rfl)) ⟨k_nil cI, trivial⟩ ?_
  refine r_nil (r_next (r_seq (r_reg (r_mv ?_))))
  refine r_mv ?_
  refine r_op (t_ln rfl tyS22) ⟨rfl, trivial⟩ ?_
  obtain ⟨v1, h2, hF⟩ := bnd hF
  refine r_op (t_sub rfl h2) ⟨rfl, k_I _ _, trivial⟩ ?_
  obtain ⟨v3, h4, hF⟩ := bnd hF
  refine r_op (t_ix rfl tyS22 h4) ⟨rfl, rfl, trivial⟩ ?_
  refine r_op (t_lM 1 rfl rfl (.one tyO3)) ⟨rfl, trivial⟩ ?_
  obtain ⟨v5, h6, hF⟩ := bnd hF
  refine r_op (t_add rfl h6) ⟨rfl, k_I _ _, trivial⟩ ?_
  obtain ⟨v7, h8, hF⟩ := bnd hF
  refine r_op (t_quo rfl h8) ⟨k_I _ _, rfl, trivial⟩ ?_
  refine r_as ?_
  refine r_nil (r_next (r_seq ?_))
  obtain ⟨v11, h12, hF⟩ := bnd hF
  obtain ⟨v15, h16, hF⟩ := bnd hF
  obtain ⟨x17, h18, hF⟩ := bnd hF
  refine r_drawH (HsL [fun G9 => [], fun G9 => [hO cI ((G9 2).1) ((G9 2).2) 3 v11.length v11], fun G9 => [hO cI ((G9 9).1) ((G9 9).2) 3 v11.length v11]]) [2, 9] [0, 0, 3, 0, 0, 31, 0, 64, 255, 63, 1023] 11 0 [.v (.vc (pS cI a0)), .v (.vc (pI .i64 v7)), .g (fun b c => .vc (pO b v11.length c)), .v (.vc (pS cI a1)), .v (.vc (pI .i64 v7)), .v (.vc (pS cI v15)), .v (.vc (pS cI a1)), .v (.vc (pI .i64 (a1.length : Int))), .v (.vc (pS cI x17)), .g (fun b c => .vc (pO b v11.length c)), .v (.vc (pS cI x17))] Tryz_mixed ⟨d1 0 (t_mv (.inl rfl)) ⟨rfl, trivial⟩, d1 0 (t_mv (.inl rfl)) ⟨rfl, trivial⟩, ⟨rfl, .hvy 0 (fun G9 A => hv_call rfl (ctO_integer_scaled h12) rfl) (fun G9 => ⟨rfl, rfl, trivial⟩)⟩, ⟨rfl, .run (lo := 0) (n := 2) ⟨fun G9 A => t_mv (.inl rfl), fun G9 A => t_mv (.inl rfl), trivial⟩ (fun G9 => ⟨rfl, trivial⟩)⟩, ⟨rfl, .run (lo := 0) (n := 2) ⟨fun G9 A => t_mv (.inl rfl), fun G9 A => t_mv (.inl rfl), trivial⟩ (fun G9 => ⟨rfl, trivial⟩)⟩, d1 1 (t_call rfl (ct_integer_scaled h16) rfl) ⟨rfl, rfl, trivial⟩, ⟨rfl, .run (lo := 0) (n := 3) ⟨fun G9 A => t_mv (.inl rfl), fun G9 A => t_mv (.inl rfl), fun G9 A => t_mv (.inl rfl), trivial⟩ (fun G9 => ⟨rfl, trivial⟩)⟩, ⟨rfl, .run (lo := 0) (n := 3) ⟨fun G9 A => t_ln rfl tyS22, fun G9 A => t_ln rfl tyS22, fun G9 A => t_ln rfl tyS22, trivial⟩ (fun G9 => ⟨rfl, trivial⟩)⟩, ⟨rfl, .run (lo := 1) (n := 2) ⟨fun G9 A => t_cutH rfl tyS22 h18, fun G9 A => t_cutH rfl tyS22 h18, trivial⟩ (fun G9 => ⟨rfl, rfl, trivial⟩)⟩, ⟨rfl, .hvy 1 (fun G9 A => hv_at ((G9 2).1) ((G9 2).2) (t_mv (.inr rfl))) (fun G9 => ⟨rfl, trivial⟩)⟩, d1 2 (t_mv (.inr rfl)) ⟨rfl, trivial⟩, trivial⟩ (fun bs10 G9 => ?_)
  refine r_nil (r_next (r_seq (r_reg (r_mv ?_))))
  refine r_op (t_ln rfl tyS22) ⟨rfl, trivial⟩ ?_
  refine r_as ?_
  refine r_nil (r_next (r_seq (r_reg (r_mv ?_))))
  refine r_op (t_ln rfl tyS22) ⟨rfl, trivial⟩ ?_
  refine r_mv ?_
  obtain ⟨v20, h21, hF⟩ := bnd hF
  refine r_op (t_sub rfl h21) ⟨rfl, rfl, trivial⟩ ?_
  obtain ⟨v22, h23, hF⟩ := bnd hF
  refine r_op (t_add rfl h23) ⟨rfl, k_I _ _, trivial⟩ ?_
  obtain ⟨x24, h25, hF⟩ := bnd hF
  refine r_make (C := cI) rfl tyS22 rfl tyZ3 rfl h25 (fun b26 => ?_)
  refine r_as ?_
  refine r_nil (r_next (r_seq (r_seq (r_reg (r_mv ?_)))))
  refine r_op (t_ln rfl tyS22) ⟨rfl, trivial⟩ ?_
  refine r_mv ?_
  obtain ⟨v29, h30, hF⟩ := bnd hF
  refine r_op (t_sub rfl h30) ⟨rfl, rfl, trivial⟩ ?_
  refine r_as ?_
  refine r_nil (r_next (r_blk (r_cutN (fun H E => ∃ (x57 : List Int), ∃ (x63 : List Int), F_integer_long_j70 K a1 v7 x57 x63 = some r ∧ x57.length = x24.length ∧ x63.length = v11.length ∧ H = [hO cI b26 x24.length 3 x24.length x57, hO cI ((G9 9).1) ((G9 9).2) 3 v11.length x63] ∧ E = [(6, .vc (pI .i64 v7)), (7, .vc (pO ((G9 9).1) v11.length ((G9 9).2))), (9, .vc (pI .i64 (a1.length : Int))), (10, .vc (pO b26 x24.length x24.length))]) ?_ (fun Jj70 => ?_))))
  · rintro _ _ ⟨x57, x63, hF, q61, q67, rfl, rfl⟩
    unfold F_integer_long_j70 at hF
    refine r_next (r_seq (r_reg (r_mv ?_)))
    refine r_mv ?_
    refine r_fzL 1 [7, 213] rfl q67 ⟨rfl, rfl, trivial⟩ rfl ?_
    obtain ⟨x71, h72, hF⟩ := bnd hF
    refine r_op (t_cutH rfl tyS22 h72) ⟨rfl, rfl, trivial⟩ ?_
    refine r_mv ?_
    obtain ⟨v73, h74, hF⟩ := bnd hF
    refine r_op (t_call rfl (ct_integer_short h74) rfl) ⟨rfl, rfl, trivial⟩ ?_
    refine r_mv ?_
    refine r_op (t_ext2a rfl) ⟨rfl, trivial⟩ ?_
    refine r_op (t_ext2b rfl) ⟨rfl, trivial⟩ ?_
    refine r_as ?_
    refine r_as ?_
    refine r_nil (r_next (r_seq (r_reg (r_mv ?_))))
    refine r_mv ?_
    refine r_as ?_
    refine r_as ?_
    refine r_nil (r_next (r_ret (r_toR (r_fzX 0 [4, 10, 220] rfl q61 ⟨rfl, rfl, rfl, trivial⟩ rfl ?_))))
    obtain rfl := sm1 hF
    exact r_done1 (.inl rfl) Tryz.results172 (.tmp rfl (.tmp rfl .nil)) rfl rfl
  obtain ⟨⟨x57', x63'⟩, hL, hRl69⟩ := bnd hF
  refine r_lp (fun k a w => ∃ (x44 : List Int), ∃ (x50 : List Int), ∃ (x56 : Int), F_integer_long_l69 K a1 x17 k x44 x50 x56 = some (x57', x63') ∧ x44.length = x24.length ∧ x50.length = v11.length ∧ hs _ [hO cI b26 x24.length 3 x24.length x44, hO cI ((G9 9).1) ((G9 9).2) 3 v11.length x50] [(6, .vc (pI .i64 v7)), (7, .vc (pO ((G9 9).1) v11.length ((G9 9).2))), (8, .vc (pS cI x17)), (9, .vc (pI .i64 (a1.length : Int))), (10, .vc (pO b26 x24.length x24.length)), (11, .vc (pI .i64 x56))] a w) K (fun a w ⟨_, _, _, hF, _, _, _⟩ => by cases hF) (fun k a w ⟨x44, x50, x56, hF, q48, q54, hh⟩ => r_at ?_ hh) (fun a w hh => ⟨x24, v11, v29, hL, rfl, rfl, hs_back [0, 1] rfl (by decide) (by exact ⟨rfl, rfl, rfl, rfl, rfl, rfl, trivial⟩) hh⟩)
  rw [F_integer_long_l69.eq_2] at hF
  refine r_seq (r_seq (r_reg (r_mv ?_)))
  refine r_op (t_ge rfl) ⟨rfl, k_I _ _, trivial⟩ ?_
  refine r_nil (r_next (r_if rfl (fun h75 => ?_) (fun h75 => ?_)))
  · have hF := cnd_t h75 hF
    refine r_skip (r_next (r_seq (r_blk (r_scope (r_seq ?_)))))
    obtain ⟨v78, h79, hF⟩ := bnd hF
    obtain ⟨v80, h81, hF⟩ := bnd hF
    obtain ⟨v82, h83, hF⟩ := bnd hF
    obtain ⟨v84, h85, hF⟩ := bnd hF
    obtain ⟨v86, h87, hF⟩ := bnd hF
    obtain ⟨v88, h89, hF⟩ := bnd hF
    obtain ⟨v90, h91, hF⟩ := bnd hF
    refine r_draw [0, 0, 0, 6, 15, 31, 63, 0, 0, 0, 768, 1792, 3968, 8064, 16383, 32767] 16 0 [.v (.vc (pO ((G9 9).1) v11.length ((G9 9).2))), .v (.vc (pI .i64 x56)), .v (.vc (pI .i64 (a1.length : Int))), .v (.vc (pI .i64 v78)), .v (.vc (pE ((G9 9).1) v78 cI.n 0)), .v (.vc (pI .i64 v80)), .v (.vc (pI .i64 v82)), .v (.vc (pO ((G9 9).1) v11.length ((G9 9).2))), .v (.vc (pI .i64 x56)), .v (.vc (pI .i64 (a1.length : Int))), .v (.vc (pI .i64 v84)), .v (.vc (pI .i64 v86)), .v (.vc (pE ((G9 9).1) v86 cI.n 0)), .v (.vc (pI .i64 v88)), .v (.vc (pI .i64 v90)), .v (.vc (pI .i64 v90))] Tryz_mixed ⟨d0 (t_mv (.inl rfl)) ⟨rfl, trivial⟩, d0 (t_mv (.inl rfl)) ⟨rfl, trivial⟩, d0 (t_mv (.inl rfl)) ⟨rfl, trivial⟩, d0 (t_add rfl h79) ⟨rfl, rfl, trivial⟩, d0 (t_ixE (C := cI) 1 rfl tyS22 rfl q54 (rdL_some h81).1 (rdL_some h81).2.1) ⟨rfl, rfl, trivial⟩, d0 (t_ldE (k := 1) 1 rfl rfl h81 rfl (.one tyO3) rfl) ⟨rfl, trivial⟩, d0 (t_mul rfl h83) ⟨rfl, k_I _ _, trivial⟩, d0 (t_mv (.inl rfl)) ⟨rfl, trivial⟩, d0 (t_mv (.inl rfl)) ⟨rfl, trivial⟩, d0 (t_mv (.inl rfl)) ⟨rfl, trivial⟩, d0 (t_add rfl h85) ⟨rfl, rfl, trivial⟩, d0 (t_sub rfl h87) ⟨rfl, k_I _ _, trivial⟩, d0 (t_ixE (C := cI) 1 rfl tyS22 rfl q54 (rdL_some h89).1 (rdL_some h89).2.1) ⟨rfl, rfl, trivial⟩, d0 (t_ldE (k := 1) 1 rfl rfl h89 rfl (.one tyO3) rfl) ⟨rfl, trivial⟩, d0 (t_add rfl h91) ⟨rfl, rfl, trivial⟩, d0 (t_mv (.inr rfl)) ⟨rfl, trivial⟩, trivial⟩ (fun bs77 G76 => ?_)
    refine r_nil (r_next (r_seq ?_))
    obtain ⟨v94, h95, hF⟩ := bnd hF
    obtain ⟨v96, h97, hF⟩ := bnd hF
    obtain ⟨v98, h99, hF⟩ := bnd hF
    obtain ⟨v100, h101, hF⟩ := bnd hF
    obtain ⟨v102, h103, hF⟩ := bnd hF
    obtain ⟨v104, h105, hF⟩ := bnd hF
    refine r_draw [0, 0, 0, 4, 14, 30, 63, 0, 0, 0, 512, 1792, 3840, 8064, 127, 32767] 16 0 [.v (.vc (pI .i64 v90)), .v (.vc (pS cI x17)), .v (.vc (pI .i64 (a1.length : Int))), .v (.vc (pI .i64 v94)), .v (.vc (pM (cI.e v96))), .v (.vc (pI .i64 v96)), .v (.vc (pI .i64 v98)), .v (.vc (pI .i64 v90)), .v (.vc (pS cI x17)), .v (.vc (pI .i64 (a1.length : Int))), .v (.vc (pI .i64 v100)), .v (.vc (pM (cI.e v102))), .v (.vc (pI .i64 v102)), .v (.vc (pI .i64 v104)), .v (.vc (pI .i64 v98)), .v (.vc (pI .i64 v104))] Tryz_mixed ⟨d0 (t_mv (.inl rfl)) ⟨rfl, trivial⟩, d0 (t_mv (.inl rfl)) ⟨rfl, trivial⟩, d0 (t_mv (.inl rfl)) ⟨rfl, trivial⟩, d0 (t_sub rfl h95) ⟨rfl, k_I _ _, trivial⟩, d0 (t_ix rfl tyS22 h97) ⟨rfl, rfl, trivial⟩, d0 (t_lM 1 rfl rfl (.one tyO3)) ⟨rfl, trivial⟩, d0 (t_quo rfl h99) ⟨rfl, rfl, trivial⟩, d0 (t_mv (.inl rfl)) ⟨rfl, trivial⟩, d0 (t_mv (.inl rfl)) ⟨rfl, trivial⟩, d0 (t_mv (.inl rfl)) ⟨rfl, trivial⟩, d0 (t_sub rfl h101) ⟨rfl, k_I _ _, trivial⟩, d0 (t_ix rfl tyS22 h103) ⟨rfl, rfl, trivial⟩, d0 (t_lM 1 rfl rfl (.one tyO3)) ⟨rfl, trivial⟩, d0 (t_rem rfl h105) ⟨rfl, rfl, trivial⟩, d0 (t_mv (.inr rfl)) ⟨rfl, trivial⟩, d0 (t_mv (.inr rfl)) ⟨rfl, trivial⟩, trivial⟩ (fun bs93 G92 => ?_)
    refine r_nil (r_next (r_seq (r_label (r_next (r_seq (r_blk (r_cutN (fun H E => ∃ (x110 : Int), F_integer_long_j112 K a1 x17 x44 x50 x56 (F_integer_long_l69 K a1 x17 k) x110 = some (x57', x63') ∧ H = [hO cI b26 x24.length 3 x24.length x44, hO cI ((G9 9).1) ((G9 9).2) 3 v11.length x50] ∧ E = [(6, .vc (pI .i64 v7)), (7, .vc (pO ((G9 9).1) v11.length ((G9 9).2))), (8, .vc (pS cI x17)), (9, .vc (pI .i64 (a1.length : Int))), (10, .vc (pO b26 x24.length x24.length)), (11, .vc (pI .i64 x56)), (13, .vc (pI .i64 x110))]) ?_ (fun Jj112 => ?_))))))))
    · rintro _ _ ⟨x110, hF, rfl, rfl⟩
      unfold F_integer_long_j112 at hF
      refine r_next (r_seq (r_reg (r_op (t_mv (.inr rfl)) ⟨k_I _ _, trivial⟩ ?_)))
      refine r_nil (r_next (r_seq (r_seq (r_reg (r_mv ?_)))))
      refine r_op (t_mv (.inl rfl)) ⟨k_I _ _, trivial⟩ ?_
      refine r_nil (r_next (r_blk (r_cutN (fun H E => ∃ (x129 : List Int), ∃ (x135 : Int), F_integer_long_j137 K a1 x17 x44 x56 x110 (F_integer_long_l69 K a1 x17 k) x129 x135 = some (x57', x63') ∧ x129.length = v11.length ∧ H = [hO cI b26 x24.length 3 x24.length x44, hO cI ((G9 9).1) ((G9 9).2) 3 v11.length x129] ∧ E = [(6, .vc (pI .i64 v7)), (7, .vc (pO ((G9 9).1) v11.length ((G9 9).2))), (8, .vc (pS cI x17)), (9, .vc (pI .i64 (a1.length : Int))), (10, .vc (pO b26 x24.length x24.length)), (11, .vc (pI .i64 x56)), (13, .vc (pI .i64 x110)), (15, .vc (pI .i64 x135))]) ?_ (fun Jj137 => ?_))))
      · rintro _ _ ⟨x129, x135, hF, q133, rfl, rfl⟩
        unfold F_integer_long_j137 at hF
        refine r_next (r_seq (r_seq (r_reg (r_mv ?_))))
        refine r_mv ?_
        refine r_mv ?_
        obtain ⟨v138, h139, hF⟩ := bnd hF
        refine r_op (t_add rfl h139) ⟨rfl, rfl, trivial⟩ ?_
        obtain ⟨v140, h141, hF⟩ := bnd hF
        refine r_op (t_ixE (C := cI) 1 rfl tyS22 rfl q133 (rdL_some h141).1 (rdL_some h141).2.1) ⟨rfl, rfl, trivial⟩ ?_
        refine r_op (t_ldE (k := 1) 1 rfl rfl h141 rfl (.one tyO3) rfl) ⟨rfl, trivial⟩ ?_
        refine r_mv ?_
        obtain ⟨v142, h143, hF⟩ := bnd hF
        refine r_op (t_sub rfl h143) ⟨rfl, rfl, trivial⟩ ?_
        obtain ⟨v144, h145, hF⟩ := bnd hF
        refine r_op (t_ixE (C := cI) 1 rfl tyS22 rfl q133 (rdL_some h145).1 (rdL_some h145).2.1) ⟨rfl, rfl, trivial⟩ ?_
        obtain ⟨x146, h147, hF⟩ := bnd hF
        refine r_op0 (t_stE 1 rfl rfl h145 h147 tyO3.s) ⟨rfl, rfl, trivial⟩ ?_
        refine r_nil (r_next (r_seq (r_reg (r_mv ?_))))
        refine r_mv ?_
        refine r_mv ?_
        obtain ⟨v149, h150, hF⟩ := bnd hF
        refine r_op (t_add rfl h150) ⟨rfl, rfl, trivial⟩ ?_
        obtain ⟨v151, h152, hF⟩ := bnd hF
        refine r_op (t_ixE (C := cI) 1 rfl tyS22 rfl (stL_len h147 q133) (rdL_some h152).1 (rdL_some h152).2.1) ⟨rfl, rfl, trivial⟩ ?_
        refine r_op (t_ldE (k := 1) 1 rfl rfl h152 rfl (.one tyO3) rfl) ⟨rfl, trivial⟩ ?_
        refine r_op (t_lt rfl) ⟨rfl, k_I _ _, trivial⟩ ?_
        refine r_nil (r_next (r_if rfl (fun h153 => ?_) (fun h153 => ?_)))
        · have hF := cnd_t h153 hF
          refine r_seq (r_reg (r_mv ?_))
          obtain ⟨v154, h155, hF⟩ := bnd hF
          refine r_op (t_sub rfl h155) ⟨rfl, k_I _ _, trivial⟩ ?_
          refine r_as ?_
          refine r_nil (r_next (r_seq (r_reg (r_op (t_mv (.inr rfl)) ⟨k_I _ _, trivial⟩ ?_))))
          refine r_nil (r_next (r_seq (r_seq (r_reg (r_mv ?_)))))
          refine r_op (t_mv (.inl rfl)) ⟨k_I _ _, trivial⟩ ?_
          refine r_nil (r_next (r_blk (r_cutN (fun H E => ∃ (x172 : List Int), ∃ (x178 : Int), F_integer_long_j180 K a1 x44 x56 v154 (F_integer_long_l69 K a1 x17 k) x172 x178 = some (x57', x63') ∧ x172.length = v11.length ∧ H = [hO cI b26 x24.length 3 x24.length x44, hO cI ((G9 9).1) ((G9 9).2) 3 v11.length x172] ∧ E = [(6, .vc (pI .i64 v7)), (7, .vc (pO ((G9 9).1) v11.length ((G9 9).2))), (8, .vc (pS cI x17)), (9, .vc (pI .i64 (a1.length : Int))), (10, .vc (pO b26 x24.length x24.length)), (11, .vc (pI .i64 x56)), (13, .vc (pI .i64 v154)), (15, .vc (pI .i64 x178))]) ?_ (fun Jj180 => ?_))))
          · rintro _ _ ⟨x172, x178, hF, q176, rfl, rfl⟩
            unfold F_integer_long_j180 at hF
            refine r_next (r_reg (r_mv ?_))
            refine r_mv ?_
            refine r_mv ?_
            obtain ⟨v181, h182, hF⟩ := bnd hF
            refine r_op (t_add rfl h182) ⟨rfl, rfl, trivial⟩ ?_
            obtain ⟨v183, h184, hF⟩ := bnd hF
            refine r_op (t_ixE (C := cI) 1 rfl tyS22 rfl q176 (rdL_some h184).1 (rdL_some h184).2.1) ⟨rfl, rfl, trivial⟩ ?_
            refine r_op (t_ldE (k := 1) 1 rfl rfl h184 rfl (.one tyO3) rfl) ⟨rfl, trivial⟩ ?_
            refine r_mv ?_
            obtain ⟨v185, h186, hF⟩ := bnd hF
            refine r_op (t_add rfl h186) ⟨rfl, rfl, trivial⟩ ?_
            obtain ⟨v187, h188, hF⟩ := bnd hF
            refine r_op (t_ixE (C := cI) 1 rfl tyS22 rfl q176 (rdL_some h188).1 (rdL_some h188).2.1) ⟨rfl, rfl, trivial⟩ ?_
            obtain ⟨x189, h190, hF⟩ := bnd hF
            refine r_op0 (t_stE 1 rfl rfl h188 h190 tyO3.s) ⟨rfl, rfl, trivial⟩ ?_
            refine r_nil (r_next (r_reg (r_mv ?_)))
            refine r_mv ?_
            refine r_mv ?_
            obtain ⟨v192, h193, hF⟩ := bnd hF
            refine r_op (t_ixE (C := cI) 0 rfl tyS22 rfl q48 (rdL_some h193).1 (rdL_some h193).2.1) ⟨rfl, rfl, trivial⟩ ?_
            obtain ⟨x194, h195, hF⟩ := bnd hF
            refine r_op0 (t_stE 0 rfl rfl h193 h195 tyO3.s) ⟨rfl, rfl, trivial⟩ ?_
            refine r_nil (r_scN (r_blkN (r_next (r_reg (r_mv ?_)))))
            obtain ⟨v197, h198, hF⟩ := bnd hF
            refine r_op (t_sub rfl h198) ⟨rfl, k_I _ _, trivial⟩ ?_
            refine r_as ?_
            refine r_nil ?_
            exact r_round (fun a w hh => ⟨x194, x189, v197, hF, (stL_len h195 q48), (stL_len h190 q176), hs_back [0, 1] rfl (by decide) (by exact ⟨rfl, rfl, rfl, rfl, rfl, rfl, trivial⟩) hh⟩)
          obtain ⟨⟨x172', x178'⟩, hL, hRl179⟩ := bnd hF
          refine r_lp (fun k a w => ∃ (x164 : List Int), ∃ (x170 : Int), ∃ (x171 : Int), F_integer_long_l179 K a1 x17 x56 k x164 x170 x171 = some (x172', x178') ∧ x164.length = v11.length ∧ hs _ [hO cI b26 x24.length 3 x24.length x44, hO cI ((G9 9).1) ((G9 9).2) 3 v11.length x164] [(6, .vc (pI .i64 v7)), (7, .vc (pO ((G9 9).1) v11.length ((G9 9).2))), (8, .vc (pS cI x17)), (9, .vc (pI .i64 (a1.length : Int))), (10, .vc (pO b26 x24.length x24.length)), (11, .vc (pI .i64 x56)), (13, .vc (pI .i64 v154)), (15, .vc (pI .i64 x170)), (172, .vc (pI .i64 (a1.length : Int))), (173, .vc (pI .i64 x171))] a w) K (fun a w ⟨_, _, _, hF, _, _⟩ => by cases hF) (fun k a w ⟨x164, x170, x171, hF, q168, hh⟩ => r_at ?_ hh) (fun a w hh => ⟨x146, 0, 0, hL, (stL_len h147 q133), hs_back [0, 1] rfl (by decide) (by exact ⟨rfl, rfl, rfl, rfl, rfl, rfl, rfl, rfl, rfl, rfl, trivial⟩) hh⟩)
          rw [F_integer_long_l179.eq_2] at hF
          refine r_seq (r_reg (r_op (t_lt rfl) ⟨rfl, rfl, trivial⟩ ?_))
          refine r_nil (r_next (r_seq (r_if rfl (fun h199 => ?_) (fun h199 => ?_))))
          · have hF := cnd_t h199 hF
            refine r_skip (r_next (r_seq (r_blk (r_seq (r_reg (r_mv ?_))))))
            refine r_as ?_
            refine r_nil (r_next (r_seq ?_))
            obtain ⟨v202, h203, hF⟩ := bnd hF
            obtain ⟨v204, h205, hF⟩ := bnd hF
            obtain ⟨v206, h207, hF⟩ := bnd hF
            obtain ⟨v208, h209, hF⟩ := bnd hF
            obtain ⟨v210, h211, hF⟩ := bnd hF
            refine r_draw [0, 0, 0, 6, 15, 31, 0, 0, 192, 448, 1023, 0, 4095, 8191] 14 0 [.v (.vc (pO ((G9 9).1) v11.length ((G9 9).2))), .v (.vc (pI .i64 x171)), .v (.vc (pI .i64 x56)), .v (.vc (pI .i64 v202)), .v (.vc (pE ((G9 9).1) v202 cI.n 0)), .v (.vc (pI .i64 v204)), .v (.vc (pS cI x17)), .v (.vc (pI .i64 x171)), .v (.vc (pM (cI.e v206))), .v (.vc (pI .i64 v206)), .v (.vc (pI .i64 v208)), .v (.vc (pI .i64 x170)), .v (.vc (pI .i64 v210)), .v (.vc (pI .i64 v210))] Tryz_mixed ⟨d0 (t_mv (.inl rfl)) ⟨rfl, trivial⟩, d0 (t_mv (.inl rfl)) ⟨rfl, trivial⟩, d0 (t_mv (.inl rfl)) ⟨rfl, trivial⟩, d0 (t_add rfl h203) ⟨rfl, rfl, trivial⟩, d0 (t_ixE (C := cI) 1 rfl tyS22 rfl q168 (rdL_some h205).1 (rdL_some h205).2.1) ⟨rfl, rfl, trivial⟩, d0 (t_ldE (k := 1) 1 rfl rfl h205 rfl (.one tyO3) rfl) ⟨rfl, trivial⟩, d0 (t_mv (.inl rfl)) ⟨rfl, trivial⟩, d0 (t_mv (.inl rfl)) ⟨rfl, trivial⟩, d0 (t_ix rfl tyS22 h207) ⟨rfl, rfl, trivial⟩, d0 (t_lM 1 rfl rfl (.one tyO3)) ⟨rfl, trivial⟩, d0 (t_add rfl h209) ⟨rfl, rfl, trivial⟩, d0 (t_mv (.inl rfl)) ⟨rfl, trivial⟩, d0 (t_add rfl h211) ⟨rfl, rfl, trivial⟩, d0 (t_mv (.inr rfl)) ⟨rfl, trivial⟩, trivial⟩ (fun bs201 G200 => ?_)
            refine r_nil (r_next (r_reg (r_mv ?_)))
            refine r_mv ?_
            refine r_mv ?_
            obtain ⟨v212, h213, hF⟩ := bnd hF
            refine r_op (t_add rfl h213) ⟨rfl, rfl, trivial⟩ ?_
            refine r_mv ?_
            obtain ⟨v214, h215, hF⟩ := bnd hF
            refine r_op (t_rem rfl h215) ⟨rfl, k_I _ _, trivial⟩ ?_
            refine r_mv ?_
            obtain ⟨v216, h217, hF⟩ := bnd hF
            refine r_op (t_quo rfl h217) ⟨rfl, k_I _ _, trivial⟩ ?_
            obtain ⟨v218, h219, hF⟩ := bnd hF
            refine r_op (t_ixE (C := cI) 1 rfl tyS22 rfl q168 (rdL_some h219).1 (rdL_some h219).2.1) ⟨rfl, rfl, trivial⟩ ?_
            obtain ⟨x220, h221, hF⟩ := bnd hF
            refine r_op0 (t_stE 1 rfl rfl h219 h221 tyO3.s) ⟨rfl, rfl, trivial⟩ ?_
            refine r_as ?_
            refine r_nil (r_blkN (r_next (r_reg ?_)))
            obtain ⟨v223, h224, hF⟩ := bnd hF
            refine r_op (t_add rfl h224) ⟨rfl, k_I _ _, trivial⟩ ?_
            refine r_mv ?_
            refine r_nil ?_
            exact r_round (fun a w hh => ⟨x220, v216, v223, hF, (stL_len h221 q168), hs_back [0, 1] rfl (by decide) (by exact ⟨rfl, rfl, rfl, rfl, rfl, rfl, rfl, rfl, rfl, rfl, trivial⟩) hh⟩)
          have hF := cnd_f h199 hF
          refine r_brk ?_
          obtain ⟨rfl, rfl⟩ := sm2 hF
          exact r_backJ Jj180 ⟨x164, x170, hRl179, q168, rfl, rfl⟩ [0, 1] rfl ⟨rfl, rfl, rfl, rfl, rfl, rfl, rfl, rfl, trivial⟩
        have hF := cnd_f h153 hF
        refine r_skip (r_next (r_reg (r_mv ?_)))
        refine r_mv ?_
        refine r_mv ?_
        obtain ⟨v225, h226, hF⟩ := bnd hF
        refine r_op (t_ixE (C := cI) 0 rfl tyS22 rfl q48 (rdL_some h226).1 (rdL_some h226).2.1) ⟨rfl, rfl, trivial⟩ ?_
        obtain ⟨x227, h228, hF⟩ := bnd hF
        refine r_op0 (t_stE 0 rfl rfl h226 h228 tyO3.s) ⟨rfl, rfl, trivial⟩ ?_
        refine r_nil (r_scN (r_blkN (r_next (r_reg (r_mv ?_)))))
        obtain ⟨v230, h231, hF⟩ := bnd hF
        refine r_op (t_sub rfl h231) ⟨rfl, k_I _ _, trivial⟩ ?_
        refine r_as ?_
        refine r_nil ?_
        exact r_round (fun a w hh => ⟨x227, x146, v230, hF, (stL_len h228 q48), (stL_len h147 q133), hs_back [0, 1] rfl (by decide) (by exact ⟨rfl, rfl, rfl, rfl, rfl, rfl, trivial⟩) hh⟩)
      obtain ⟨⟨x129', x135'⟩, hL, hRl136⟩ := bnd hF
      refine r_lp (fun k a w => ∃ (x121 : List Int), ∃ (x127 : Int), ∃ (x128 : Int), F_integer_long_l136 K a1 x17 x56 x110 k x121 x127 x128 = some (x129', x135') ∧ x121.length = v11.length ∧ hs _ [hO cI b26 x24.length 3 x24.length x44, hO cI ((G9 9).1) ((G9 9).2) 3 v11.length x121] [(6, .vc (pI .i64 v7)), (7, .vc (pO ((G9 9).1) v11.length ((G9 9).2))), (8, .vc (pS cI x17)), (9, .vc (pI .i64 (a1.length : Int))), (10, .vc (pO b26 x24.length x24.length)), (11, .vc (pI .i64 x56)), (13, .vc (pI .i64 x110)), (15, .vc (pI .i64 x127)), (117, .vc (pI .i64 (a1.length : Int))), (118, .vc (pI .i64 x128))] a w) K (fun a w ⟨_, _, _, hF, _, _⟩ => by cases hF) (fun k a w ⟨x121, x127, x128, hF, q125, hh⟩ => r_at ?_ hh) (fun a w hh => ⟨x50, 0, 0, hL, q54, hs_back [0, 1] rfl (by decide) (by exact ⟨rfl, rfl, rfl, rfl, rfl, rfl, rfl, rfl, rfl, rfl, trivial⟩) hh⟩)
      rw [F_integer_long_l136.eq_2] at hF
      refine r_seq (r_reg (r_op (t_lt rfl) ⟨rfl, rfl, trivial⟩ ?_))
      refine r_nil (r_next (r_seq (r_if rfl (fun h232 => ?_) (fun h232 => ?_))))
      · have hF := cnd_t h232 hF
        refine r_skip (r_next (r_seq (r_blk (r_seq (r_reg (r_mv ?_))))))
        refine r_as ?_
        refine r_nil (r_next (r_seq ?_))
        obtain ⟨v235, h236, hF⟩ := bnd hF
        obtain ⟨v237, h238, hF⟩ := bnd hF
        obtain ⟨v239, h240, hF⟩ := bnd hF
        obtain ⟨v241, h242, hF⟩ := bnd hF
        obtain ⟨v243, h244, hF⟩ := bnd hF
        obtain ⟨v245, h246, hF⟩ := bnd hF
        refine r_draw [0, 0, 0, 6, 15, 31, 0, 0, 0, 384, 896, 1984, 4095, 0, 16383, 32767] 16 0 [.v (.vc (pO ((G9 9).1) v11.length ((G9 9).2))), .v (.vc (pI .i64 x128)), .v (.vc (pI .i64 x56)), .v (.vc (pI .i64 v235)), .v (.vc (pE ((G9 9).1) v235 cI.n 0)), .v (.vc (pI .i64 v237)), .v (.vc (pI .i64 x110)), .v (.vc (pS cI x17)), .v (.vc (pI .i64 x128)), .v (.vc (pM (cI.e v239))), .v (.vc (pI .i64 v239)), .v (.vc (pI .i64 v241)), .v (.vc (pI .i64 v243)), .v (.vc (pI .i64 x127)), .v (.vc (pI .i64 v245)), .v (.vc (pI .i64 v245))] Tryz_mixed ⟨d0 (t_mv (.inl rfl)) ⟨rfl, trivial⟩, d0 (t_mv (.inl rfl)) ⟨rfl, trivial⟩, d0 (t_mv (.inl rfl)) ⟨rfl, trivial⟩, d0 (t_add rfl h236) ⟨rfl, rfl, trivial⟩, d0 (t_ixE (C := cI) 1 rfl tyS22 rfl q125 (rdL_some h238).1 (rdL_some h238).2.1) ⟨rfl, rfl, trivial⟩, d0 (t_ldE (k := 1) 1 rfl rfl h238 rfl (.one tyO3) rfl) ⟨rfl, trivial⟩, d0 (t_mv (.inl rfl)) ⟨rfl, trivial⟩, d0 (t_mv (.inl rfl)) ⟨rfl, trivial⟩, d0 (t_mv (.inl rfl)) ⟨rfl, trivial⟩, d0 (t_ix rfl tyS22 h240) ⟨rfl, rfl, trivial⟩, d0 (t_lM 1 rfl rfl (.one tyO3)) ⟨rfl, trivial⟩, d0 (t_mul rfl h242) ⟨rfl, rfl, trivial⟩, d0 (t_sub rfl h244) ⟨rfl, rfl, trivial⟩, d0 (t_mv (.inl rfl)) ⟨rfl, trivial⟩, d0 (t_sub rfl h246) ⟨rfl, rfl, trivial⟩, d0 (t_mv (.inr rfl)) ⟨rfl, trivial⟩, trivial⟩ (fun bs234 G233 => ?_)
        refine r_nil (r_next (r_seq (r_reg (r_op (t_mv (.inr rfl)) ⟨k_I _ _, trivial⟩ ?_))))
        refine r_nil (r_next (r_seq (r_seq (r_reg (r_mv ?_)))))
        refine r_op (t_lt rfl) ⟨rfl, k_I _ _, trivial⟩ ?_
        refine r_nil (r_next (r_if rfl (fun h247 => ?_) (fun h247 => ?_)))
        · have hF := cnd_t h247 hF
          refine r_seq (r_reg (r_mv ?_))
          obtain ⟨v248, h249, hF⟩ := bnd hF
          refine r_op (t_neg rfl h249) ⟨rfl, trivial⟩ ?_
          obtain ⟨v250, h251, hF⟩ := bnd hF
          refine r_op (t_add rfl h251) ⟨rfl, k_I _ _, trivial⟩ ?_
          obtain ⟨v252, h253, hF⟩ := bnd hF
          refine r_op (t_sub rfl h253) ⟨rfl, k_I _ _, trivial⟩ ?_
          obtain ⟨v254, h255, hF⟩ := bnd hF
          refine r_op (t_quo rfl h255) ⟨rfl, k_I _ _, trivial⟩ ?_
          refine r_as ?_
          refine r_nil (r_next (r_reg (r_mv ?_)))
          refine r_mv ?_
          obtain ⟨v256, h257, hF⟩ := bnd hF
          refine r_op (t_mul rfl h257) ⟨rfl, k_I _ _, trivial⟩ ?_
          obtain ⟨v258, h259, hF⟩ := bnd hF
          refine r_op (t_add rfl h259) ⟨rfl, rfl, trivial⟩ ?_
          refine r_as ?_
          refine r_nil (r_next (r_reg (r_mv ?_)))
          refine r_mv ?_
          refine r_mv ?_
          obtain ⟨v260, h261, hF⟩ := bnd hF
          refine r_op (t_add rfl h261) ⟨rfl, rfl, trivial⟩ ?_
          refine r_mv ?_
          obtain ⟨v262, h263, hF⟩ := bnd hF
          refine r_op (t_ixE (C := cI) 1 rfl tyS22 rfl q125 (rdL_some h263).1 (rdL_some h263).2.1) ⟨rfl, rfl, trivial⟩ ?_
          obtain ⟨x264, h265, hF⟩ := bnd hF
          refine r_op0 (t_stE 1 rfl rfl h263 h265 tyO3.s) ⟨rfl, rfl, trivial⟩ ?_
          refine r_nil (r_blkN (r_next (r_reg ?_)))
          obtain ⟨v267, h268, hF⟩ := bnd hF
          refine r_op (t_add rfl h268) ⟨rfl, k_I _ _, trivial⟩ ?_
          refine r_mv ?_
          refine r_nil ?_
          exact r_round (fun a w hh => ⟨x264, v254, v267, hF, (stL_len h265 q125), hs_back [0, 1] rfl (by decide) (by exact ⟨rfl, rfl, rfl, rfl, rfl, rfl, rfl, rfl, rfl, rfl, trivial⟩) hh⟩)
        have hF := cnd_f h247 hF
        refine r_skip (r_next (r_reg (r_mv ?_)))
        refine r_mv ?_
        refine r_mv ?_
        obtain ⟨v269, h270, hF⟩ := bnd hF
        refine r_op (t_add rfl h270) ⟨rfl, rfl, trivial⟩ ?_
        refine r_mv ?_
        obtain ⟨v271, h272, hF⟩ := bnd hF
        refine r_op (t_ixE (C := cI) 1 rfl tyS22 rfl q125 (rdL_some h272).1 (rdL_some h272).2.1) ⟨rfl, rfl, trivial⟩ ?_
        obtain ⟨x273, h274, hF⟩ := bnd hF
        refine r_op0 (t_stE 1 rfl rfl h272 h274 tyO3.s) ⟨rfl, rfl, trivial⟩ ?_
        refine r_nil (r_blkN (r_next (r_reg ?_)))
        obtain ⟨v276, h277, hF⟩ := bnd hF
        refine r_op (t_add rfl h277) ⟨rfl, k_I _ _, trivial⟩ ?_
        refine r_mv ?_
        refine r_nil ?_
        exact r_round (fun a w hh => ⟨x273, 0, v276, hF, (stL_len h274 q125), hs_back [0, 1] rfl (by decide) (by exact ⟨rfl, rfl, rfl, rfl, rfl, rfl, rfl, rfl, rfl, rfl, trivial⟩) hh⟩)
      have hF := cnd_f h232 hF
      refine r_brk ?_
      obtain ⟨rfl, rfl⟩ := sm2 hF
      exact r_backJ Jj137 ⟨x121, x127, hRl136, q125, rfl, rfl⟩ [0, 1] rfl ⟨rfl, rfl, rfl, rfl, rfl, rfl, rfl, rfl, trivial⟩
    obtain ⟨x110', hL, hRl111⟩ := bnd hF
    refine r_lp (fun k a w => ∃ (x108 : Int), ∃ (x109 : Int), F_integer_long_l111 K a1 x17 x50 x56 k x108 x109 = some x110' ∧ hs _ [hO cI b26 x24.length 3 x24.length x44, hO cI ((G9 9).1) ((G9 9).2) 3 v11.length x50] [(6, .vc (pI .i64 v7)), (7, .vc (pO ((G9 9).1) v11.length ((G9 9).2))), (8, .vc (pS cI x17)), (9, .vc (pI .i64 (a1.length : Int))), (10, .vc (pO b26 x24.length x24.length)), (11, .vc (pI .i64 x56)), (13, .vc (pI .i64 x108)), (14, .vc (pI .i64 x109))] a w) K (fun a w ⟨_, _, hF, _⟩ => by cases hF) (fun k a w ⟨x108, x109, hF, hh⟩ => r_at ?_ hh) (fun a w hh => ⟨v98, v104, hL, hs_back [0, 1] rfl (by decide) (by exact ⟨rfl, rfl, rfl, rfl, rfl, rfl, rfl, rfl, trivial⟩) hh⟩)
    rw [F_integer_long_l111.eq_2] at hF
    refine r_seq (r_seq ?_)
    rcases Bool.eq_false_or_eq_true (decide (1000000000 ≤ x108)) with h280 | h280
    · have hF := cnd_t h280 hF
      refine r_draw [0, 1, 3, 7, 7, 7, 39, 119, 247, 511, 7, 1031, 7, 7, 7, 24583, 57351, 126983, 258055, 523271, 1048575, 2097151] 22 0 [.v (.vc (pI .i64 x108)), .v (.vc (pB (decide (1000000000 ≤ x108)))), .v (.vc (pB true)), .v .un, .v .un, .v .un, .v .un, .v .un, .v .un, .v .un, .v .un, .v .un, .v .un, .v .un, .v .un, .v .un, .v .un, .v .un, .v .un, .v .un, .v .un, .v (.vc (pB true))] Tryz_mixed ⟨d0 (t_mv (.inl rfl)) ⟨rfl, trivial⟩, d0 (t_ge rfl) ⟨rfl, k_I _ _, trivial⟩, d0 (tr_bool (t_mv (.inl rfl)) h280) ⟨rfl, trivial⟩, ⟨rfl, .skipN⟩, ⟨rfl, .skipN⟩, ⟨rfl, .skipN⟩, ⟨rfl, .skipN⟩, ⟨rfl, .skipN⟩, ⟨rfl, .skipN⟩, ⟨rfl, .skipN⟩, ⟨rfl, .skipN⟩, ⟨rfl, .skipN⟩, ⟨rfl, .skipN⟩, ⟨rfl, .skipN⟩, ⟨rfl, .skipN⟩, ⟨rfl, .skipN⟩, ⟨rfl, .skipN⟩, ⟨rfl, .skipN⟩, ⟨rfl, .skipN⟩, ⟨rfl, .skipN⟩, ⟨rfl, .skipN⟩, d0 (t_pickT rfl) ⟨rfl, k_B _, trivial⟩, trivial⟩ (fun bs279 G278 => ?_)
      refine r_nil (r_next (r_ifT rfl ?_))
      refine r_skip (r_next (r_blk (r_seq (r_reg (r_mv ?_)))))
      obtain ⟨v281, h282, hF⟩ := bnd hF
      refine r_op (t_sub rfl h282) ⟨rfl, k_I _ _, trivial⟩ ?_
      refine r_as ?_
      refine r_nil (r_next (r_seq (r_reg (r_mv ?_))))
      refine r_mv ?_
      refine r_mv ?_
      obtain ⟨v283, h284, hF⟩ := bnd hF
      refine r_op (t_sub rfl h284) ⟨rfl, k_I _ _, trivial⟩ ?_
      obtain ⟨v285, h286, hF⟩ := bnd hF
      refine r_op (t_ix rfl tyS22 h286) ⟨rfl, rfl, trivial⟩ ?_
      refine r_op (t_lM 1 rfl rfl (.one tyO3)) ⟨rfl, trivial⟩ ?_
      obtain ⟨v287, h288, hF⟩ := bnd hF
      refine r_op (t_add rfl h288) ⟨rfl, rfl, trivial⟩ ?_
      refine r_as ?_
      refine r_nil (r_next (r_seq (r_reg (r_mv ?_))))
      refine r_op (t_ge rfl) ⟨rfl, k_I _ _, trivial⟩ ?_
      refine r_nil (r_next (r_if rfl (fun h289 => ?_) (fun h289 => ?_)))
      · have hF := cnd_t h289 hF
        refine r_brk ?_
        obtain rfl := sm1 hF
        exact r_backJ Jj112 ⟨v281, hRl111, rfl, rfl⟩ [0, 1] rfl ⟨rfl, rfl, rfl, rfl, rfl, rfl, rfl, trivial⟩
      have hF := cnd_f h289 hF
      refine r_skip (r_blkN ?_)
      exact r_round (fun a w hh => ⟨v281, v287, hF, hs_back [0, 1] rfl (by decide) (by exact ⟨rfl, rfl, rfl, rfl, rfl, rfl, rfl, rfl, trivial⟩) hh⟩)
    have hF := cnd_f h280 hF
    obtain ⟨v290, h291, hF⟩ := bnd hF
    obtain ⟨v292, h293, hF⟩ := bnd hF
    obtain ⟨v294, h295, hF⟩ := bnd hF
    obtain ⟨v296, h297, hF⟩ := bnd hF
    obtain ⟨v298, h299, hF⟩ := bnd hF
    obtain ⟨v300, h301, hF⟩ := bnd hF
    obtain ⟨v302, h303, hF⟩ := bnd hF
    obtain ⟨v304, h305, hF⟩ := bnd hF
    refine r_draw [0, 1, 3, 7, 7, 7, 39, 119, 247, 511, 7, 1031, 7, 7, 7, 24583, 57351, 126983, 258055, 523271, 1048575, 2097151] 22 0 [.v (.vc (pI .i64 x108)), .v (.vc (pB (decide (1000000000 ≤ x108)))), .v (.vc (pB false)), .v (.vc (pI .i64 x108)), .v (.vc (pS cI x17)), .v (.vc (pI .i64 (a1.length : Int))), .v (.vc (pI .i64 v290)), .v (.vc (pM (cI.e v292))), .v (.vc (pI .i64 v292)), .v (.vc (pI .i64 v294)), .v (.vc (pI .i64 x109)), .v (.vc (pI .i64 v296)), .v (.vc (pO ((G9 9).1) v11.length ((G9 9).2))), .v (.vc (pI .i64 x56)), .v (.vc (pI .i64 (a1.length : Int))), .v (.vc (pI .i64 v298)), .v (.vc (pI .i64 v300)), .v (.vc (pE ((G9 9).1) v300 cI.n 0)), .v (.vc (pI .i64 v302)), .v (.vc (pI .i64 v304)), .v (.vc (pB (decide (v304 < v294)))), .v (.vc (pB (decide (v304 < v294))))] Tryz_mixed ⟨d0 (t_mv (.inl rfl)) ⟨rfl, trivial⟩, d0 (t_ge rfl) ⟨rfl, k_I _ _, trivial⟩, d0 (tr_bool (t_mv (.inl rfl)) h280) ⟨rfl, trivial⟩, g0 (t_mv (.inl rfl)) ⟨rfl, trivial⟩, g0 (t_mv (.inl rfl)) ⟨rfl, trivial⟩, g0 (t_mv (.inl rfl)) ⟨rfl, trivial⟩, g0 (t_sub rfl h291) ⟨rfl, k_I _ _, trivial⟩, g0 (t_ix rfl tyS22 h293) ⟨rfl, rfl, trivial⟩, g0 (t_lM 1 rfl rfl (.one tyO3)) ⟨rfl, trivial⟩, g0 (t_mul rfl h295) ⟨rfl, rfl, trivial⟩, g0 (t_mv (.inl rfl)) ⟨rfl, trivial⟩, g0 (t_mul rfl h297) ⟨rfl, k_I _ _, trivial⟩, g0 (t_mv (.inl rfl)) ⟨rfl, trivial⟩, g0 (t_mv (.inl rfl)) ⟨rfl, trivial⟩, g0 (t_mv (.inl rfl)) ⟨rfl, trivial⟩, g0 (t_add rfl h299) ⟨rfl, rfl, trivial⟩, g0 (t_sub rfl h301) ⟨rfl, k_I _ _, trivial⟩, g0 (t_ixE (C := cI) 1 rfl tyS22 rfl q54 (rdL_some h303).1 (rdL_some h303).2.1) ⟨rfl, rfl, trivial⟩, g0 (t_ldE (k := 1) 1 rfl rfl h303 rfl (.one tyO3) rfl) ⟨rfl, trivial⟩, g0 (t_add rfl h305) ⟨rfl, rfl, trivial⟩, g0 (t_gt rfl) ⟨rfl, rfl, trivial⟩, d0 (t_pickF rfl) ⟨rfl, rfl, trivial⟩, trivial⟩ (fun bs279 G278 => ?_)
    refine r_nil (r_next (r_if rfl (fun h306 => ?_) (fun h306 => ?_)))
    · have hF := cnd_t h306 hF
      refine r_skip (r_next (r_blk (r_seq (r_reg (r_mv ?_)))))
      obtain ⟨v307, h308, hF⟩ := bnd hF
      refine r_op (t_sub rfl h308) ⟨rfl, k_I _ _, trivial⟩ ?_
      refine r_as ?_
      refine r_nil (r_next (r_seq (r_reg (r_mv ?_))))
      refine r_mv ?_
      refine r_mv ?_
      obtain ⟨v309, h310, hF⟩ := bnd hF
      refine r_op (t_sub rfl h310) ⟨rfl, k_I _ _, trivial⟩ ?_
      obtain ⟨v311, h312, hF⟩ := bnd hF
      refine r_op (t_ix rfl tyS22 h312) ⟨rfl, rfl, trivial⟩ ?_
      refine r_op (t_lM 1 rfl rfl (.one tyO3)) ⟨rfl, trivial⟩ ?_
      obtain ⟨v313, h314, hF⟩ := bnd hF
      refine r_op (t_add rfl h314) ⟨rfl, rfl, trivial⟩ ?_
      refine r_as ?_
      refine r_nil (r_next (r_seq (r_reg (r_mv ?_))))
      refine r_op (t_ge rfl) ⟨rfl, k_I _ _, trivial⟩ ?_
      refine r_nil (r_next (r_if rfl (fun h315 => ?_) (fun h315 => ?_)))
      · have hF := cnd_t h315 hF
        refine r_brk ?_
        obtain rfl := sm1 hF
        exact r_backJ Jj112 ⟨v307, hRl111, rfl, rfl⟩ [0, 1] rfl ⟨rfl, rfl, rfl, rfl, rfl, rfl, rfl, trivial⟩
      have hF := cnd_f h315 hF
      refine r_skip (r_blkN ?_)
      exact r_round (fun a w hh => ⟨v307, v313, hF, hs_back [0, 1] rfl (by decide) (by exact ⟨rfl, rfl, rfl, rfl, rfl, rfl, rfl, rfl, trivial⟩) hh⟩)
    have hF := cnd_f h306 hF
    refine r_brk ?_
    obtain rfl := sm1 hF
    exact r_backJ Jj112 ⟨x108, hRl111, rfl, rfl⟩ [0, 1] rfl ⟨rfl, rfl, rfl, rfl, rfl, rfl, rfl, trivial⟩
  have hF := cnd_f h75 hF
  refine r_brk ?_
  obtain ⟨rfl, rfl⟩ := sm2 hF
  exact r_backJ Jj70 ⟨x44, x50, hRl69, q48, q54, rfl, rfl⟩ [0, 1] rfl ⟨rfl, rfl, rfl, rfl, trivial⟩
def F_integer_divide_j4 (K : Nat) (a0 : List Int) (a1 : List Int) : Option (GInt × GInt) :=
  (F_integer_compare K a0 a1).bind fun v5 => bif (decide (v5 < 0)) then ((F_integer_of K false a0).bind fun v8 => some ((⟨false, ([] : List Int)⟩ : GInt), v8)) else (bif ((a1.length : Int) == 1) then ((rdL a1 0).bind fun v11 => (F_integer_short K a0 v11).bind fun v13 => (F_integer_of K false v13.1).bind fun v15 => (F_integer_unsigned false (IntKind.u64.wrap v13.2)).bind fun v17 => some (v15, v17)) else ((F_integer_long K a0 a1).bind fun v19 => (F_integer_of K false v19.1).bind fun v21 => (F_integer_of K false v19.2).bind fun v23 => some (v21, v23)))
def F_integer_divide (K : Nat) (a0 : List Int) (a1 : List Int) : Option (GInt × GInt) :=
  (F_integer_two a0).bind fun v25 => bif v25.2 then ((F_integer_two a1).bind fun v28 => bif v28.2 then ((chq v25.1 v28.1).bind fun v33 => (F_integer_unsigned false (IntKind.u64.wrap v33)).bind fun v35 => (chr v25.1 v28.1).bind fun v37 => (F_integer_unsigned false (IntKind.u64.wrap v37)).bind fun v39 => some (v35, v39)) else (F_integer_divide_j4 K a0 a1 )) else (F_integer_divide_j4 K a0 a1 )
theorem ct_integer_divide {K : Nat} {a0 : List Int} {a1 : List Int} {r : GInt × GInt} (hF : F_integer_divide K a0 a1 = some r) : Ct Tryz.prog 166 [.vc (pS cI a0), .vc (pS cI a1)] (.t2 (.va (GInt.e r.1)) (.va (GInt.e r.2))) := by
  unfold F_integer_divide at hF
  refine ctO_intro Tryz.func166 rfl (by kernel_rfl) Tryz.ntmps166 rfl (fun w0 M0 => ?_)
  refine r_seq (r_reg (r_alloc rfl tyZ33 (fun b1 => ?_)))
  refine r_alloc rfl tyZ33 (fun b2 => ?_)
  refine r_nil (r_next (r_seq (r_cutS (fun H E => F_integer_divide_j4 K a0 a1 = some r ∧ H = [⟨some b2, 1, 33, 2, 1, ([pB false] ++ [pS cI ([] : List Int)])⟩, ⟨some b1, 1, 33, 2, 1, ([pB false] ++ [pS cI ([] : List Int)])⟩] ∧ E = [(0, .vc (pS cI a0)), (1, .vc (pS cI a1)), (4, .vc (pP (some b1) 0)), (5, .vc (pP (some b2) 0))]) ?_ (fun Jj4 => ?_))))
  · rintro _ _ ⟨hF, rfl, rfl⟩
    unfold F_integer_divide_j4 at hF
    refine r_seq (r_seq (r_reg (r_mv ?_)))
    refine r_mv ?_
    obtain ⟨v5, h6, hF⟩ := bnd hF
    refine r_op (t_call rfl (ct_integer_compare h6) rfl) ⟨rfl, rfl, trivial⟩ ?_
    refine r_op (t_lt rfl) ⟨rfl, k_I _ _, trivial⟩ ?_
    refine r_nil (r_next (r_if rfl (fun h7 => ?_) (fun h7 => ?_)))
    · have hF := cnd_t h7 hF
      refine r_seq (r_reg (r_op (t_bld (is := []) (xs := []) (ps := []) rfl tyB33 rfl rfl trivial rfl) trivial ?_))
      refine r_mv ?_
      obtain ⟨v8, h9, hF⟩ := bnd hF
      refine r_op (t_call rfl (ct_integer_of h9) rfl) ⟨k_B _, rfl, trivial⟩ ?_
      refine r_op0 (t_s 1 rfl rfl rfl tyA33.s) ⟨rfl, rfl, trivial⟩ ?_
      refine r_op0 (t_s 0 rfl rfl rfl tyA33.s) ⟨rfl, rfl, trivial⟩ ?_
      refine r_nil (r_next (r_ret (r_toR ?_)))
      obtain rfl := sm1 hF
      exact r_done1 (.inl rfl) Tryz.results166 (rv_cell 1 2 rfl rfl rfl rfl (.agg tyA33) (rv_cell 0 2 rfl rfl rfl rfl (.agg tyA33) .nil)) rfl rfl
    have hF := cnd_f h7 hF
    refine r_skip (r_next (r_seq (r_seq (r_reg (r_mv ?_)))))
    refine r_op (t_ln rfl tyS22) ⟨rfl, trivial⟩ ?_
    refine r_op (t_eq rfl) ⟨rfl, k_I _ _, trivial⟩ ?_
    refine r_nil (r_next (r_if rfl (fun h10 => ?_) (fun h10 => ?_)))
    · have hF := cnd_t h10 hF
      refine r_seq (r_reg (r_mv ?_))
      refine r_mv ?_
      obtain ⟨v11, h12, hF⟩ := bnd hF
      refine r_op (t_ix rfl tyS22 h12) ⟨rfl, k_I _ _, trivial⟩ ?_
      refine r_op (t_lM 1 rfl rfl (.one tyO3)) ⟨rfl, trivial⟩ ?_
      obtain ⟨v13, h14, hF⟩ := bnd hF
      refine r_op (t_call rfl (ct_integer_short h14) rfl) ⟨rfl, rfl, trivial⟩ ?_
      refine r_mv ?_
      refine r_op (t_ext2a rfl) ⟨rfl, trivial⟩ ?_
      refine r_op (t_ext2b rfl) ⟨rfl, trivial⟩ ?_
      refine r_as ?_
      refine r_as ?_
      refine r_nil (r_next (r_seq (r_reg (r_mv ?_))))
      obtain ⟨v15, h16, hF⟩ := bnd hF
      refine r_op (t_call rfl (ct_integer_of h16) rfl) ⟨k_B _, rfl, trivial⟩ ?_
      refine r_mv ?_
      refine r_op (t_cv rfl ⟨_, Tryz.underlying3⟩ Tryz.underlying160) ⟨rfl, trivial⟩ ?_
      obtain ⟨v17, h18, hF⟩ := bnd hF
      refine r_op (t_call rfl (ct_integer_unsigned h18) rfl) ⟨k_B _, rfl, trivial⟩ ?_
      refine r_op0 (t_s 1 rfl rfl rfl tyA33.s) ⟨rfl, rfl, trivial⟩ ?_
      refine r_op0 (t_s 0 rfl rfl rfl tyA33.s) ⟨rfl, rfl, trivial⟩ ?_
      refine r_nil (r_next (r_ret (r_toR ?_)))
      obtain rfl := sm1 hF
      exact r_done1 (.inl rfl) Tryz.results166 (rv_cell 1 2 rfl rfl rfl rfl (.agg tyA33) (rv_cell 0 2 rfl rfl rfl rfl (.agg tyA33) .nil)) rfl rfl
    have hF := cnd_f h10 hF
    refine r_skip (r_next (r_seq (r_reg (r_mv ?_))))
    refine r_mv ?_
    obtain ⟨v19, h20, hF⟩ := bnd hF
    refine r_op (t_call rfl (ct_integer_long h20) rfl) ⟨rfl, rfl, trivial⟩ ?_
    refine r_mv ?_
    refine r_op (t_ext2a rfl) ⟨rfl, trivial⟩ ?_
    refine r_op (t_ext2b rfl) ⟨rfl, trivial⟩ ?_
    refine r_as ?_
    refine r_as ?_
    refine r_nil (r_next (r_seq (r_reg (r_mv ?_))))
    obtain ⟨v21, h22, hF⟩ := bnd hF
    refine r_op (t_call rfl (ct_integer_of h22) rfl) ⟨k_B _, rfl, trivial⟩ ?_
    refine r_mv ?_
    obtain ⟨v23, h24, hF⟩ := bnd hF
    refine r_op (t_call rfl (ct_integer_of h24) rfl) ⟨k_B _, rfl, trivial⟩ ?_
    refine r_op0 (t_s 1 rfl rfl rfl tyA33.s) ⟨rfl, rfl, trivial⟩ ?_
    refine r_op0 (t_s 0 rfl rfl rfl tyA33.s) ⟨rfl, rfl, trivial⟩ ?_
    refine r_nil (r_next (r_ret (r_toR ?_)))
    obtain rfl := sm1 hF
    exact r_done1 (.inl rfl) Tryz.results166 (rv_cell 1 2 rfl rfl rfl rfl (.agg tyA33) (rv_cell 0 2 rfl rfl rfl rfl (.agg tyA33) .nil)) rfl rfl
  refine r_seq (r_reg (r_mv ?_))
  obtain ⟨v25, h26, hF⟩ := bnd hF
  refine r_op (t_call rfl (ct_integer_two h26) rfl) ⟨rfl, trivial⟩ ?_
  refine r_mv ?_
  refine r_op (t_ext2a rfl) ⟨rfl, trivial⟩ ?_
  refine r_op (t_ext2b rfl) ⟨rfl, trivial⟩ ?_
  refine r_as ?_
  refine r_as ?_
  refine r_nil (r_next (r_seq (r_reg (r_mv ?_))))
  refine r_nil (r_next (r_if rfl (fun h27 => ?_) (fun h27 => ?_)))
  · have hF := cnd_t h27 hF
    refine r_seq (r_reg (r_mv ?_))
    obtain ⟨v28, h29, hF⟩ := bnd hF
    refine r_op (t_call rfl (ct_integer_two h29) rfl) ⟨rfl, trivial⟩ ?_
    refine r_mv ?_
    refine r_op (t_ext2a rfl) ⟨rfl, trivial⟩ ?_
    refine r_op (t_ext2b rfl) ⟨rfl, trivial⟩ ?_
    refine r_as ?_
    refine r_as ?_
    refine r_nil (r_next (r_seq (r_reg (r_mv ?_))))
    refine r_nil (r_next (r_if rfl (fun h30 => ?_) (fun h30 => ?_)))
    · have hF := cnd_t h30 hF
      refine r_seq ?_
      obtain ⟨v33, h34, hF⟩ := bnd hF
      obtain ⟨v35, h36, hF⟩ := bnd hF
      obtain ⟨v37, h38, hF⟩ := bnd hF
      obtain ⟨v39, h40, hF⟩ := bnd hF
      refine r_draw [0, 0, 3, 7, 15, 0, 0, 96, 224, 511, 1023, 2047] 10 2 [.v (.vc (pI .i64 v25.1)), .v (.vc (pI .i64 v28.1)), .v (.vc (pI .i64 v33)), .v (.vc (pI .u64 (IntKind.u64.wrap v33))), .v (.va (GInt.e v35)), .v (.vc (pI .i64 v25.1)), .v (.vc (pI .i64 v28.1)), .v (.vc (pI .i64 v37)), .v (.vc (pI .u64 (IntKind.u64.wrap v37))), .v (.va (GInt.e v39))] Tryz_mixed ⟨d0 (t_mv (.inl rfl)) ⟨rfl, trivial⟩, d0 (t_mv (.inl rfl)) ⟨rfl, trivial⟩, d0 (t_quo rfl h34) ⟨rfl, rfl, trivial⟩, ⟨rfl, .run (lo := 0) (n := 1) ⟨fun G31 A => t_cv rfl ⟨_, Tryz.underlying3⟩ Tryz.underlying160, trivial⟩ (fun G31 => ⟨rfl, trivial⟩)⟩, d0 (t_call rfl (ct_integer_unsigned h36) rfl) ⟨k_B _, rfl, trivial⟩, d0 (t_mv (.inl rfl)) ⟨rfl, trivial⟩, d0 (t_mv (.inl rfl)) ⟨rfl, trivial⟩, d0 (t_rem rfl h38) ⟨rfl, rfl, trivial⟩, ⟨rfl, .run (lo := 0) (n := 1) ⟨fun G31 A => t_cv rfl ⟨_, Tryz.underlying3⟩ Tryz.underlying160, trivial⟩ (fun G31 => ⟨rfl, trivial⟩)⟩, d0 (t_call rfl (ct_integer_unsigned h40) rfl) ⟨k_B _, rfl, trivial⟩, trivial⟩ (fun bs32 G31 => ?_)
      refine r_op0 (t_s 1 rfl rfl rfl tyA33.s) ⟨rfl, rfl, trivial⟩ ?_
      refine r_op0 (t_s 0 rfl rfl rfl tyA33.s) ⟨rfl, rfl, trivial⟩ ?_
      refine r_nil (r_next (r_ret (r_toR ?_)))
      obtain rfl := sm1 hF
      exact r_done1 (.inl rfl) Tryz.results166 (rv_cell 1 2 rfl rfl rfl rfl (.agg tyA33) (rv_cell 0 2 rfl rfl rfl rfl (.agg tyA33) .nil)) rfl rfl
    have hF := cnd_f h30 hF
    refine r_skip ?_
    exact r_backJ Jj4 ⟨hF, rfl, rfl⟩ [0, 1] rfl ⟨rfl, rfl, rfl, rfl, trivial⟩
  have hF := cnd_f h27 hF
  refine r_skip ?_
  exact r_backJ Jj4 ⟨hF, rfl, rfl⟩ [0, 1] rfl ⟨rfl, rfl, rfl, rfl, trivial⟩
end Go.Proofs.YtkjnngaceacmdaaGreat
