import Derived.Test.YtkjnngaceacmdaaGreatP8
set_option linter.unusedVariables false
set_option maxRecDepth 100000
namespace Go.Proofs.YtkjnngaceacmdaaGreat
theorem tyA35 : TyA Tryz.prog 35 4 := mkA Tryz.underlying35 rfl (by kernel_rfl)
theorem tyB35 : TyB Tryz.prog 35 [(0, 2), (2, 2)] (([pB false] ++ [pS cI ([] : List Int)]) ++ ([pB false] ++ [pS cI ([] : List Int)])) := mkB (z := .agg #[.bool false, .slice none 0 0, .bool false, .slice none 0 0]) (by kernel_rfl) Tryz.underlying35 (by kernel_rfl) (fun M => All2.app (All2.app (show All2 M [pB false] [.bool false] from ⟨rfl, trivial⟩) (show All2 M [pS cI ([] : List Int)] [.slice none 0 0] from ⟨k_nil cI M, trivial⟩)) (All2.app (show All2 M [pB false] [.bool false] from ⟨rfl, trivial⟩) (show All2 M [pS cI ([] : List Int)] [.slice none 0 0] from ⟨k_nil cI M, trivial⟩)))
theorem tyF35_0 : TyF Tryz.prog 35 0 0 := mkF (ft := 33) (k := 1) Tryz.underlying35 rfl rfl rfl (by kernel_rfl)
theorem tyF35_1 : TyF Tryz.prog 35 1 2 := mkF (ft := 33) (k := 1) Tryz.underlying35 rfl rfl rfl (by kernel_rfl)
theorem tyZ35 : TyZ Tryz.prog 35 (([pB false] ++ [pS cI ([] : List Int)]) ++ ([pB false] ++ [pS cI ([] : List Int)])) := mkZ (z := .agg #[.bool false, .slice none 0 0, .bool false, .slice none 0 0]) (k := 4) (by kernel_rfl) rfl (fun M => All2.app (All2.app (show All2 M [pB false] [.bool false] from ⟨rfl, trivial⟩) (show All2 M [pS cI ([] : List Int)] [.slice none 0 0] from ⟨k_nil cI M, trivial⟩)) (All2.app (show All2 M [pB false] [.bool false] from ⟨rfl, trivial⟩) (show All2 M [pS cI ([] : List Int)] [.slice none 0 0] from ⟨k_nil cI M, trivial⟩)))
def F_gantryref05_one (a0 : GInt) : Option Bool :=
  bif a0.neg then (some false) else (bif ((a0.d.length : Int) != 1) then (some false) else ((rdL a0.d 0).bind fun v4 => some (v4 == 1)))
theorem ct_gantryref05_one {a0 : GInt} {r : Bool} (hF : F_gantryref05_one a0 = some r) : Ct Tryz.prog 129 [.va (GInt.e a0)] (.vc (pB r)) := by
  unfold F_gantryref05_one at hF
  refine ctO_intro Tryz.func129 rfl (by kernel_rfl) Tryz.ntmps129 rfl (fun w0 M0 => ?_)
  refine r_seq (r_reg (r_box rfl rfl trivial (fun b1 => ?_)))
  refine r_op (t_mv (.inr rfl)) ⟨k_B _, trivial⟩ ?_
  refine r_nil (r_next (r_seq (r_seq (r_reg (r_op (t_fa (off := 0) (k := 0) rfl tyF33_0) ⟨rfl, trivial⟩ ?_)))))
  refine r_op (t_l 0 1 rfl rfl rfl rfl (.one tyO4)) ⟨rfl, trivial⟩ ?_
  refine r_mv ?_
  refine r_bool (fun h2 => ?_) (fun h2 => ?_)
  · have hF := cnd_t h2 hF
    refine r_opn ?_
    refine r_opn ?_
    refine r_opn ?_
    refine r_opn ?_
    refine r_op (t_pickT rfl) ⟨rfl, k_B _, trivial⟩ ?_
    refine r_nil (r_next (r_ifT rfl ?_))
    refine r_seq (r_reg (r_op (t_mv (.inr rfl)) ⟨k_B _, trivial⟩ ?_))
    refine r_nil (r_next (r_ret (r_toR ?_)))
    obtain rfl := sm1 hF
    exact r_done1 (.inl rfl) Tryz.results129 (.tmp rfl .nil) rfl rfl
  have hF := cnd_f h2 hF
  refine r_opg (t_fa (off := 0) (k := 1) rfl tyF33_1) ⟨rfl, trivial⟩ ?_
  refine r_opg (t_l 0 1 rfl rfl rfl rfl (.one tyO22)) ⟨rfl, trivial⟩ ?_
  refine r_opg (t_ln rfl tyS22) ⟨rfl, trivial⟩ ?_
  refine r_opg (t_ne rfl) ⟨rfl, k_I _ _, trivial⟩ ?_
  refine r_op (t_pickF rfl) ⟨rfl, rfl, trivial⟩ ?_
  refine r_nil (r_next (r_if rfl (fun h3 => ?_) (fun h3 => ?_)))
  · have hF := cnd_t h3 hF
    refine r_seq (r_reg (r_op (t_mv (.inr rfl)) ⟨k_B _, trivial⟩ ?_))
    refine r_nil (r_next (r_ret (r_toR ?_)))
    obtain rfl := sm1 hF
    exact r_done1 (.inl rfl) Tryz.results129 (.tmp rfl .nil) rfl rfl
  have hF := cnd_f h3 hF
  refine r_skip (r_next (r_seq (r_reg (r_op (t_fa (off := 0) (k := 1) rfl tyF33_1) ⟨rfl, trivial⟩ ?_))))
  refine r_op (t_l 0 1 rfl rfl rfl rfl (.one tyO22)) ⟨rfl, trivial⟩ ?_
  obtain ⟨v4, h5, hF⟩ := bnd hF
  refine r_op (t_ix rfl tyS22 h5) ⟨rfl, k_I _ _, trivial⟩ ?_
  refine r_op (t_lM 1 rfl rfl (.one tyO3)) ⟨rfl, trivial⟩ ?_
  refine r_op (t_eq rfl) ⟨rfl, k_I _ _, trivial⟩ ?_
  refine r_as ?_
  refine r_nil (r_next (r_ret (r_toR ?_)))
  obtain rfl := sm1 hF
  exact r_done1 (.inl rfl) Tryz.results129 (.tmp rfl .nil) rfl rfl
def F_gantryref05_Make (K : Nat) (a0 : GInt) (a1 : GInt) : Option GRat :=
  bif ((a1.d.length : Int) == 0) then (some (⟨(⟨false, ([] : List Int)⟩ : GInt), (⟨false, ([] : List Int)⟩ : GInt)⟩ : GRat)) else (bif ((a0.d.length : Int) == 0) then (some (⟨(⟨false, ([] : List Int)⟩ : GInt), (⟨false, ([] : List Int)⟩ : GInt)⟩ : GRat)) else ((F_gantryref04_Gcd K a0 a1).bind fun v6 => (F_gantryref04_Div K a0 v6).bind fun v9 => (F_gantryref04_Div K a1 v6).bind fun v13 => bif v13.1.neg then ((F_gantryref04_Neg K v9.1).bind fun v18 => (F_gantryref04_Neg K v13.1).bind fun v20 => (F_gantryref05_one v20).bind fun v22 => bif v22 then (some (⟨v18, (⟨false, ([] : List Int)⟩ : GInt)⟩ : GRat)) else (some (⟨v18, v20⟩ : GRat))) else ((F_gantryref05_one v13.1).bind fun v25 => bif v25 then (some (⟨v9.1, (⟨false, ([] : List Int)⟩ : GInt)⟩ : GRat)) else (some (⟨v9.1, v13.1⟩ : GRat)))))
theorem ct_gantryref05_Make {K : Nat} {a0 : GInt} {a1 : GInt} {r : GRat} (hF : F_gantryref05_Make K a0 a1 = some r) : Ct Tryz.prog 66 [.va (GInt.e a0), .va (GInt.e a1)] (.va (GRat.e r)) := by
  unfold F_gantryref05_Make at hF
  refine ctO_intro Tryz.func66 rfl (by kernel_rfl) Tryz.ntmps66 rfl (fun w0 M0 => ?_)
  refine r_seq (r_reg (r_box rfl rfl trivial (fun b1 => ?_)))
  refine r_box rfl rfl trivial (fun b2 => ?_)
  refine r_alloc rfl tyZ35 (fun b3 => ?_)
  refine r_nil (r_next (r_seq (r_seq (r_reg (r_op (t_fa (off := 0) (k := 1) rfl tyF33_1) ⟨rfl, trivial⟩ ?_)))))
  refine r_op (t_l 1 1 rfl rfl rfl rfl (.one tyO22)) ⟨rfl, trivial⟩ ?_
  refine r_op (t_ln rfl tyS22) ⟨rfl, trivial⟩ ?_
  refine r_op (t_eq rfl) ⟨rfl, k_I _ _, trivial⟩ ?_
  refine r_mv ?_
  refine r_bool (fun h4 => ?_) (fun h4 => ?_)
  · have hF := cnd_t h4 hF
    refine r_opn ?_
    refine r_opn ?_
    refine r_opn ?_
    refine r_opn ?_
    refine r_op (t_pickT rfl) ⟨rfl, k_B _, trivial⟩ ?_
    refine r_nil (r_next (r_ifT rfl ?_))
    refine r_seq (r_reg (r_op (t_bld (is := []) (xs := []) (ps := []) rfl tyB35 rfl rfl trivial rfl) trivial ?_))
    refine r_op0 (t_s 0 rfl rfl rfl tyA35.s) ⟨rfl, rfl, trivial⟩ ?_
    refine r_nil (r_next (r_ret (r_toR ?_)))
    obtain rfl := sm1 hF
    exact r_done1 (.inl rfl) Tryz.results66 (rv_cell 0 4 rfl rfl rfl rfl (.agg tyA35) .nil) rfl rfl
  have hF := cnd_f h4 hF
  refine r_opg (t_fa (off := 0) (k := 1) rfl tyF33_1) ⟨rfl, trivial⟩ ?_
  refine r_opg (t_l 2 1 rfl rfl rfl rfl (.one tyO22)) ⟨rfl, trivial⟩ ?_
  refine r_opg (t_ln rfl tyS22) ⟨rfl, trivial⟩ ?_
  refine r_opg (t_eq rfl) ⟨rfl, k_I _ _, trivial⟩ ?_
  refine r_op (t_pickF rfl) ⟨rfl, rfl, trivial⟩ ?_
  refine r_nil (r_next (r_if rfl (fun h5 => ?_) (fun h5 => ?_)))
  · have hF := cnd_t h5 hF
    refine r_seq (r_reg (r_op (t_bld (is := []) (xs := []) (ps := []) rfl tyB35 rfl rfl trivial rfl) trivial ?_))
    refine r_op0 (t_s 0 rfl rfl rfl tyA35.s) ⟨rfl, rfl, trivial⟩ ?_
    refine r_nil (r_next (r_ret (r_toR ?_)))
    obtain rfl := sm1 hF
    exact r_done1 (.inl rfl) Tryz.results66 (rv_cell 0 4 rfl rfl rfl rfl (.agg tyA35) .nil) rfl rfl
  have hF := cnd_f h5 hF
  refine r_skip (r_next (r_seq (r_reg (r_op (t_l 2 2 rfl rfl rfl rfl (.agg tyA33)) ⟨rfl, trivial⟩ ?_))))
  refine r_op (t_l 1 2 rfl rfl rfl rfl (.agg tyA33)) ⟨rfl, trivial⟩ ?_
  obtain ⟨v6, h7, hF⟩ := bnd hF
  refine r_op (t_call rfl (ct_gantryref04_Gcd h7) rfl) ⟨rfl, rfl, trivial⟩ ?_
  refine r_alloc rfl tyZ33 (fun b8 => ?_)
  refine r_op0 (t_s 0 rfl rfl rfl tyA33.s) ⟨rfl, rfl, trivial⟩ ?_
  refine r_nil (r_next (r_seq (r_reg (r_op (t_l 3 2 rfl rfl rfl rfl (.agg tyA33)) ⟨rfl, trivial⟩ ?_))))
  refine r_op (t_l 0 2 rfl rfl rfl rfl (.agg tyA33)) ⟨rfl, trivial⟩ ?_
  obtain ⟨v9, h10, hF⟩ := bnd hF
  refine r_op (t_call rfl (ct_gantryref04_Div h10) rfl) ⟨rfl, rfl, trivial⟩ ?_
  refine r_mv ?_
  refine r_op (t_ext2a rfl) ⟨rfl, trivial⟩ ?_
  refine r_op (t_ext2b rfl) ⟨rfl, trivial⟩ ?_
  refine r_alloc rfl tyZ33 (fun b11 => ?_)
  refine r_alloc rfl tyZ33 (fun b12 => ?_)
  refine r_op0 (t_s 1 rfl rfl rfl tyA33.s) ⟨rfl, rfl, trivial⟩ ?_
  refine r_op0 (t_s 0 rfl rfl rfl tyA33.s) ⟨rfl, rfl, trivial⟩ ?_
  refine r_nil (r_next (r_seq (r_reg (r_op (t_l 4 2 rfl rfl rfl rfl (.agg tyA33)) ⟨rfl, trivial⟩ ?_))))
  refine r_op (t_l 2 2 rfl rfl rfl rfl (.agg tyA33)) ⟨rfl, trivial⟩ ?_
  obtain ⟨v13, h14, hF⟩ := bnd hF
  refine r_op (t_call rfl (ct_gantryref04_Div h14) rfl) ⟨rfl, rfl, trivial⟩ ?_
  refine r_mv ?_
  refine r_op (t_ext2a rfl) ⟨rfl, trivial⟩ ?_
  refine r_op (t_ext2b rfl) ⟨rfl, trivial⟩ ?_
  refine r_alloc rfl tyZ33 (fun b15 => ?_)
  refine r_alloc rfl tyZ33 (fun b16 => ?_)
  refine r_op0 (t_s 1 rfl rfl rfl tyA33.s) ⟨rfl, rfl, trivial⟩ ?_
  refine r_op0 (t_s 0 rfl rfl rfl tyA33.s) ⟨rfl, rfl, trivial⟩ ?_
  refine r_nil (r_next (r_seq (r_seq (r_reg (r_op (t_fa (off := 0) (k := 0) rfl tyF33_0) ⟨rfl, trivial⟩ ?_)))))
  refine r_op (t_l 1 1 rfl rfl rfl rfl (.one tyO4)) ⟨rfl, trivial⟩ ?_
  refine r_nil (r_next (r_if rfl (fun h17 => ?_) (fun h17 => ?_)))
  · have hF := cnd_t h17 hF
    refine r_seq (r_reg (r_op (t_l 3 2 rfl rfl rfl rfl (.agg tyA33)) ⟨rfl, trivial⟩ ?_))
    obtain ⟨v18, h19, hF⟩ := bnd hF
    refine r_op (t_call rfl (ct_gantryref04_Neg h19) rfl) ⟨rfl, trivial⟩ ?_
    refine r_op0 (t_s 3 rfl rfl rfl tyA33.s) ⟨rfl, rfl, trivial⟩ ?_
    refine r_nil (r_next (r_reg (r_op (t_l 1 2 rfl rfl rfl rfl (.agg tyA33)) ⟨rfl, trivial⟩ ?_)))
    obtain ⟨v20, h21, hF⟩ := bnd hF
    refine r_op (t_call rfl (ct_gantryref04_Neg h21) rfl) ⟨rfl, trivial⟩ ?_
    refine r_op0 (t_s 1 rfl rfl rfl tyA33.s) ⟨rfl, rfl, trivial⟩ ?_
    refine r_nil (r_next (r_seq (r_seq (r_reg (r_op (t_l 1 2 rfl rfl rfl rfl (.agg tyA33)) ⟨rfl, trivial⟩ ?_)))))
    obtain ⟨v22, h23, hF⟩ := bnd hF
    refine r_op (t_call rfl (ct_gantryref05_one h23) rfl) ⟨rfl, trivial⟩ ?_
    refine r_nil (r_next (r_if rfl (fun h24 => ?_) (fun h24 => ?_)))
    · have hF := cnd_t h24 hF
      refine r_seq (r_reg (r_op (t_l 3 2 rfl rfl rfl rfl (.agg tyA33)) ⟨rfl, trivial⟩ ?_))
      refine r_op (t_bld (is := [0]) (xs := [.tmp 44]) (ps := [.va (GInt.e v18)]) rfl tyB35 rfl rfl ⟨trivial, trivial⟩ rfl) ⟨rfl, trivial⟩ ?_
      refine r_op0 (t_s 5 rfl rfl rfl tyA35.s) ⟨rfl, rfl, trivial⟩ ?_
      refine r_nil (r_next (r_ret (r_toR ?_)))
      obtain rfl := sm1 hF
      exact r_done1 (.inl rfl) Tryz.results66 (rv_cell 5 4 rfl rfl rfl rfl (.agg tyA35) .nil) rfl rfl
    have hF := cnd_f h24 hF
    refine r_skip (r_next (r_seq (r_reg (r_op (t_l 3 2 rfl rfl rfl rfl (.agg tyA33)) ⟨rfl, trivial⟩ ?_))))
    refine r_op (t_l 1 2 rfl rfl rfl rfl (.agg tyA33)) ⟨rfl, trivial⟩ ?_
    refine r_op (t_bld (is := [0, 1]) (xs := [.tmp 46, .tmp 47]) (ps := [.va (GInt.e v18), .va (GInt.e v20)]) rfl tyB35 rfl rfl ⟨trivial, trivial, trivial⟩ rfl) ⟨rfl, rfl, trivial⟩ ?_
    refine r_op0 (t_s 5 rfl rfl rfl tyA35.s) ⟨rfl, rfl, trivial⟩ ?_
    refine r_nil (r_next (r_ret (r_toR ?_)))
    obtain rfl := sm1 hF
    exact r_done1 (.inl rfl) Tryz.results66 (rv_cell 5 4 rfl rfl rfl rfl (.agg tyA35) .nil) rfl rfl
  have hF := cnd_f h17 hF
  refine r_skip (r_next (r_seq (r_seq (r_reg (r_op (t_l 1 2 rfl rfl rfl rfl (.agg tyA33)) ⟨rfl, trivial⟩ ?_)))))
  obtain ⟨v25, h26, hF⟩ := bnd hF
  refine r_op (t_call rfl (ct_gantryref05_one h26) rfl) ⟨rfl, trivial⟩ ?_
  refine r_nil (r_next (r_if rfl (fun h27 => ?_) (fun h27 => ?_)))
  · have hF := cnd_t h27 hF
    refine r_seq (r_reg (r_op (t_l 3 2 rfl rfl rfl rfl (.agg tyA33)) ⟨rfl, trivial⟩ ?_))
    refine r_op (t_bld (is := [0]) (xs := [.tmp 44]) (ps := [.va (GInt.e v9.1)]) rfl tyB35 rfl rfl ⟨trivial, trivial⟩ rfl) ⟨rfl, trivial⟩ ?_
    refine r_op0 (t_s 5 rfl rfl rfl tyA35.s) ⟨rfl, rfl, trivial⟩ ?_
    refine r_nil (r_next (r_ret (r_toR ?_)))
    obtain rfl := sm1 hF
    exact r_done1 (.inl rfl) Tryz.results66 (rv_cell 5 4 rfl rfl rfl rfl (.agg tyA35) .nil) rfl rfl
  have hF := cnd_f h27 hF
  refine r_skip (r_next (r_seq (r_reg (r_op (t_l 3 2 rfl rfl rfl rfl (.agg tyA33)) ⟨rfl, trivial⟩ ?_))))
  refine r_op (t_l 1 2 rfl rfl rfl rfl (.agg tyA33)) ⟨rfl, trivial⟩ ?_
  refine r_op (t_bld (is := [0, 1]) (xs := [.tmp 46, .tmp 47]) (ps := [.va (GInt.e v9.1), .va (GInt.e v13.1)]) rfl tyB35 rfl rfl ⟨trivial, trivial, trivial⟩ rfl) ⟨rfl, rfl, trivial⟩ ?_
  refine r_op0 (t_s 5 rfl rfl rfl tyA35.s) ⟨rfl, rfl, trivial⟩ ?_
  refine r_nil (r_next (r_ret (r_toR ?_)))
  obtain rfl := sm1 hF
  exact r_done1 (.inl rfl) Tryz.results66 (rv_cell 5 4 rfl rfl rfl rfl (.agg tyA35) .nil) rfl rfl
abbrev N_gantryref05_Of : Nat := 14
def F_gantryref05_Of (K : Nat) (a0 : Int) (a1 : Int) : Option GRat :=
  (F_gantryref04_Of K a0).bind fun v2 => (F_gantryref04_Of K a1).bind fun v4 => (F_gantryref05_Make K v2 v4).bind fun v6 => some v6
theorem ct_gantryref05_Of {K : Nat} {a0 : Int} {a1 : Int} {r : GRat} (hF : F_gantryref05_Of K a0 a1 = some r) : Ct Tryz.prog 14 [.vc (pI .i64 a0), .vc (pI .i64 a1)] (.va (GRat.e r)) := by
  unfold F_gantryref05_Of at hF
  refine ctO_intro Tryz.func14 rfl (by kernel_rfl) Tryz.ntmps14 rfl (fun w0 M0 => ?_)
  refine r_seq (r_reg (r_alloc rfl tyZ35 (fun b1 => ?_)))
  refine r_nil (r_next (r_seq (r_reg (r_mv ?_))))
  obtain ⟨v2, h3, hF⟩ := bnd hF
  refine r_op (t_call rfl (ct_gantryref04_Of h3) rfl) ⟨rfl, trivial⟩ ?_
  refine r_mv ?_
  obtain ⟨v4, h5, hF⟩ := bnd hF
  refine r_op (t_call rfl (ct_gantryref04_Of h5) rfl) ⟨rfl, trivial⟩ ?_
  obtain ⟨v6, h7, hF⟩ := bnd hF
  refine r_op (t_call rfl (ct_gantryref05_Make h7) rfl) ⟨rfl, rfl, trivial⟩ ?_
  refine r_op0 (t_s 0 rfl rfl rfl tyA35.s) ⟨rfl, rfl, trivial⟩ ?_
  refine r_nil (r_next (r_ret (r_toR ?_)))
  obtain rfl := sm1 hF
  exact r_done1 (.inl rfl) Tryz.results14 (rv_cell 0 4 rfl rfl rfl rfl (.agg tyA35) .nil) rfl rfl
def F_slices_Equal_int_j5 (K : Nat) : Option Bool :=
  some true
def F_slices_Equal_int_l4 (K : Nat) (a0 : List Int) (a1 : List Int) : Nat → Int → Option (LR Bool Unit)
  | 0, _ => none
  | k + 1, x3 => bif (decide (x3 < (a0.length : Int))) then ((rdL a0 x3).bind fun v9 => (rdL a1 x3).bind fun v11 => bif (v9 != v11) then (some (.ret false)) else ((chk (x3 + 1)).bind fun v14 => F_slices_Equal_int_l4 K a0 a1 k v14)) else (some (.go ()))
def F_slices_Equal_int (K : Nat) (a0 : List Int) (a1 : List Int) : Option Bool :=
  bif ((a0.length : Int) != (a1.length : Int)) then (some false) else ((F_slices_Equal_int_l4 K a0 a1 K 0).bind fun o => match o with | .ret r => some r | .go _ => F_slices_Equal_int_j5 K )
theorem ct_slices_Equal_int {K : Nat} {a0 : List Int} {a1 : List Int} {r : Bool} (hF : F_slices_Equal_int K a0 a1 = some r) : Ct Tryz.prog 76 [.vc (pS cI a0), .vc (pS cI a1)] (.vc (pB r)) := by
  unfold F_slices_Equal_int at hF
  refine ctO_intro Tryz.func76 rfl (by kernel_rfl) Tryz.ntmps76 rfl (fun w0 M0 => ?_)
  refine r_seq (r_reg (r_op (t_mv (.inr rfl)) ⟨k_B _, trivial⟩ ?_))
  refine r_nil (r_next (r_seq (r_seq (r_reg (r_mv ?_)))))
  refine r_op (t_ln rfl tyS22) ⟨rfl, trivial⟩ ?_
  refine r_mv ?_
  refine r_op (t_ln rfl tyS22) ⟨rfl, trivial⟩ ?_
  refine r_op (t_ne rfl) ⟨rfl, rfl, trivial⟩ ?_
  refine r_nil (r_next (r_if rfl (fun h1 => ?_) (fun h1 => ?_)))
  · have hF := cnd_t h1 hF
    refine r_seq (r_reg (r_op (t_mv (.inr rfl)) ⟨k_B _, trivial⟩ ?_))
    refine r_nil (r_next (r_ret (r_toR ?_)))
    obtain rfl := sm1 hF
    exact r_done1 (.inl rfl) Tryz.results76 (.tmp rfl .nil) rfl rfl
  have hF := cnd_f h1 hF
  refine r_skip (r_next (r_seq (r_seq (r_reg (r_mv ?_)))))
  refine r_op (t_ln rfl tyS22) ⟨rfl, trivial⟩ ?_
  refine r_op (t_mv (.inl rfl)) ⟨k_I _ _, trivial⟩ ?_
  refine r_nil (r_next (r_blk (r_cutN (fun H E => F_slices_Equal_int_j5 K = some r ∧ H = [] ∧ E = []) ?_ (fun Jj5 => ?_))))
  · rintro _ _ ⟨hF, rfl, rfl⟩
    unfold F_slices_Equal_int_j5 at hF
    refine r_next (r_seq (r_reg (r_op (t_mv (.inr rfl)) ⟨k_B _, trivial⟩ ?_)))
    refine r_nil (r_next (r_ret (r_toR ?_)))
    obtain rfl := sm1 hF
    exact r_done1 (.inl rfl) Tryz.results76 (.tmp rfl .nil) rfl rfl
  obtain ⟨ol4, hL, hRl4⟩ := bnd hF
  refine r_lp (fun k a w => ∃ (x3 : Int), F_slices_Equal_int_l4 K a0 a1 k x3 = some ol4 ∧ hs _ [] [(0, .vc (pS cI a0)), (1, .vc (pS cI a1)), (12, .vc (pI .i64 (a0.length : Int))), (13, .vc (pI .i64 x3))] a w) K (fun a w ⟨_, hF, _⟩ => by cases hF) (fun k a w ⟨x3, hF, hh⟩ => r_at ?_ hh) (fun a w hh => ⟨0, hL, hs_back [] rfl (by decide) (by exact ⟨rfl, rfl, rfl, rfl, trivial⟩) hh⟩)
  rw [F_slices_Equal_int_l4.eq_2] at hF
  refine r_seq (r_reg (r_op (t_lt rfl) ⟨rfl, rfl, trivial⟩ ?_))
  refine r_nil (r_next (r_seq (r_if rfl (fun h6 => ?_) (fun h6 => ?_))))
  · have hF := cnd_t h6 hF
    refine r_skip (r_next (r_seq (r_blk (r_seq (r_reg (r_mv ?_))))))
    refine r_as ?_
    refine r_nil (r_next (r_seq ?_))
    obtain ⟨v9, h10, hF⟩ := bnd hF
    obtain ⟨v11, h12, hF⟩ := bnd hF
    refine r_draw [0, 0, 3, 7, 0, 0, 48, 112, 255] 9 0 [.v (.vc (pS cI a0)), .v (.vc (pI .i64 x3)), .v (.vc (pM (cI.e v9))), .v (.vc (pI .i64 v9)), .v (.vc (pS cI a1)), .v (.vc (pI .i64 x3)), .v (.vc (pM (cI.e v11))), .v (.vc (pI .i64 v11)), .v (.vc (pB (v9 != v11)))] Tryz_mixed ⟨d0 (t_mv (.inl rfl)) ⟨rfl, trivial⟩, d0 (t_mv (.inl rfl)) ⟨rfl, trivial⟩, d0 (t_ix rfl tyS22 h10) ⟨rfl, rfl, trivial⟩, d0 (t_lM 1 rfl rfl (.one tyO3)) ⟨rfl, trivial⟩, d0 (t_mv (.inl rfl)) ⟨rfl, trivial⟩, d0 (t_mv (.inl rfl)) ⟨rfl, trivial⟩, d0 (t_ix rfl tyS22 h12) ⟨rfl, rfl, trivial⟩, d0 (t_lM 1 rfl rfl (.one tyO3)) ⟨rfl, trivial⟩, d0 (t_ne rfl) ⟨rfl, rfl, trivial⟩, trivial⟩ (fun bs8 G7 => ?_)
    refine r_nil (r_next (r_if rfl (fun h13 => ?_) (fun h13 => ?_)))
    · have hF := cnd_t h13 hF
      refine r_seq (r_reg (r_op (t_mv (.inr rfl)) ⟨k_B _, trivial⟩ ?_))
      refine r_nil (r_next (r_ret (r_toR ?_)))
      obtain rfl := sm1 hF
      obtain rfl := sm1 hRl4
      exact r_done1 (.inl rfl) Tryz.results76 (.tmp rfl .nil) rfl rfl
    have hF := cnd_f h13 hF
    refine r_skip (r_blkN (r_next (r_reg ?_)))
    obtain ⟨v14, h15, hF⟩ := bnd hF
    refine r_op (t_add rfl h15) ⟨rfl, k_I _ _, trivial⟩ ?_
    refine r_mv ?_
    refine r_nil ?_
    exact r_round (fun a w hh => ⟨v14, hF, hs_back [] rfl (by decide) (by exact ⟨rfl, rfl, rfl, rfl, trivial⟩) hh⟩)
  have hF := cnd_f h6 hF
  refine r_brk ?_
  obtain rfl := sm1 hF
  exact r_backJ Jj5 ⟨hRl4, rfl, rfl⟩ [] rfl trivial
def F_rat_Same_1 (K : Nat) (a0 : GInt) (a1 : GInt) : Option Bool :=
  bif (a0.neg == a1.neg) then ((F_slices_Equal_int K a0.d a1.d).bind fun v4 => some v4) else (some false)
theorem ct_rat_Same_1 {K : Nat} {a0 : GInt} {a1 : GInt} {r : Bool} (hF : F_rat_Same_1 K a0 a1 = some r) : Ct Tryz.prog 75 [.va (GInt.e a0), .va (GInt.e a1)] (.vc (pB r)) := by
  unfold F_rat_Same_1 at hF
  refine ctO_intro Tryz.func75 rfl (by kernel_rfl) Tryz.ntmps75 rfl (fun w0 M0 => ?_)
  refine r_seq (r_reg (r_box rfl rfl trivial (fun b1 => ?_)))
  refine r_box rfl rfl trivial (fun b2 => ?_)
  refine r_op (t_mv (.inr rfl)) ⟨k_B _, trivial⟩ ?_
  refine r_nil (r_next (r_seq (r_reg (r_op (t_fa (off := 0) (k := 0) rfl tyF33_0) ⟨rfl, trivial⟩ ?_))))
  refine r_op (t_l 1 1 rfl rfl rfl rfl (.one tyO4)) ⟨rfl, trivial⟩ ?_
  refine r_op (t_fa (off := 0) (k := 0) rfl tyF33_0) ⟨rfl, trivial⟩ ?_
  refine r_op (t_l 0 1 rfl rfl rfl rfl (.one tyO4)) ⟨rfl, trivial⟩ ?_
  refine r_op (t_eqB rfl Tryz.underlying4) ⟨rfl, rfl, trivial⟩ ?_
  refine r_mv ?_
  refine r_bool (fun h3 => ?_) (fun h3 => ?_)
  · have hF := cnd_t h3 hF
    refine r_opg (t_fa (off := 0) (k := 1) rfl tyF33_1) ⟨rfl, trivial⟩ ?_
    refine r_opg (t_l 1 1 rfl rfl rfl rfl (.one tyO22)) ⟨rfl, trivial⟩ ?_
    refine r_opg (t_fa (off := 0) (k := 1) rfl tyF33_1) ⟨rfl, trivial⟩ ?_
    refine r_opg (t_l 0 1 rfl rfl rfl rfl (.one tyO22)) ⟨rfl, trivial⟩ ?_
    obtain ⟨v4, h5, hF⟩ := bnd hF
    refine r_opg (t_call rfl (ct_slices_Equal_int h5) rfl) ⟨rfl, rfl, trivial⟩ ?_
    refine r_op (t_pickT rfl) ⟨rfl, rfl, trivial⟩ ?_
    refine r_as ?_
    refine r_nil (r_next (r_ret (r_toR ?_)))
    obtain rfl := sm1 hF
    exact r_done1 (.inl rfl) Tryz.results75 (.tmp rfl .nil) rfl rfl
  have hF := cnd_f h3 hF
  refine r_opn ?_
  refine r_opn ?_
  refine r_opn ?_
  refine r_opn ?_
  refine r_opn ?_
  refine r_op (t_pickF rfl) ⟨rfl, k_B _, trivial⟩ ?_
  refine r_as ?_
  refine r_nil (r_next (r_ret (r_toR ?_)))
  obtain rfl := sm1 hF
  exact r_done1 (.inl rfl) Tryz.results75 (.tmp rfl .nil) rfl rfl
abbrev N_rat_Same : Nat := 17
def F_rat_Same (K : Nat) (a0 : GRat) (a1 : GRat) : Option Bool :=
  (F_rat_Same_1 K a0.p a1.p).bind fun v3 => bif v3 then ((F_rat_Same_1 K a0.q a1.q).bind fun v6 => some v6) else (some false)
theorem ct_rat_Same {K : Nat} {a0 : GRat} {a1 : GRat} {r : Bool} (hF : F_rat_Same K a0 a1 = some r) : Ct Tryz.prog 17 [.va (GRat.e a0), .va (GRat.e a1)] (.vc (pB r)) := by
  unfold F_rat_Same at hF
  refine ctO_intro Tryz.func17 rfl (by kernel_rfl) Tryz.ntmps17 rfl (fun w0 M0 => ?_)
  refine r_seq (r_reg (r_box rfl rfl trivial (fun b1 => ?_)))
  refine r_box rfl rfl trivial (fun b2 => ?_)
  refine r_op (t_mv (.inr rfl)) ⟨k_B _, trivial⟩ ?_
  refine r_nil (r_next (r_seq (r_reg (r_op (t_mv (.inr rfl)) ⟨k_F _, trivial⟩ ?_))))
  refine r_nil (r_next (r_seq (r_reg (r_mv ?_))))
  refine r_op (t_fa (off := 0) (k := 0) rfl tyF35_0) ⟨rfl, trivial⟩ ?_
  refine r_op (t_l 1 2 rfl rfl rfl rfl (.agg tyA33)) ⟨rfl, trivial⟩ ?_
  refine r_op (t_fa (off := 0) (k := 0) rfl tyF35_0) ⟨rfl, trivial⟩ ?_
  refine r_op (t_l 0 2 rfl rfl rfl rfl (.agg tyA33)) ⟨rfl, trivial⟩ ?_
  obtain ⟨v3, h4, hF⟩ := bnd hF
  refine r_op (t_callv (cs := []) (pre := [.va (GInt.e a0.p), .va (GInt.e a1.p)]) rfl (ct_rat_Same_1 h4) rfl) ⟨rfl, rfl, rfl, trivial⟩ ?_
  refine r_mv ?_
  refine r_bool (fun h5 => ?_) (fun h5 => ?_)
  · have hF := cnd_t h5 hF
    refine r_opg (t_mv (.inl rfl)) ⟨rfl, trivial⟩ ?_
    refine r_opg (t_fa (off := 0) (k := 2) rfl tyF35_1) ⟨rfl, trivial⟩ ?_
    refine r_opg (t_l 1 2 rfl rfl rfl rfl (.agg tyA33)) ⟨rfl, trivial⟩ ?_
    refine r_opg (t_fa (off := 0) (k := 2) rfl tyF35_1) ⟨rfl, trivial⟩ ?_
    refine r_opg (t_l 0 2 rfl rfl rfl rfl (.agg tyA33)) ⟨rfl, trivial⟩ ?_
    obtain ⟨v6, h7, hF⟩ := bnd hF
    refine r_opg (t_callv (cs := []) (pre := [.va (GInt.e a0.q), .va (GInt.e a1.q)]) rfl (ct_rat_Same_1 h7) rfl) ⟨rfl, rfl, rfl, trivial⟩ ?_
    refine r_op (t_pickT rfl) ⟨rfl, rfl, trivial⟩ ?_
    refine r_as ?_
    refine r_nil (r_next (r_ret (r_toR ?_)))
    obtain rfl := sm1 hF
    exact r_done1 (.inl rfl) Tryz.results17 (.tmp rfl .nil) rfl rfl
  have hF := cnd_f h5 hF
  refine r_opn ?_
  refine r_opn ?_
  refine r_opn ?_
  refine r_opn ?_
  refine r_opn ?_
  refine r_opn ?_
  refine r_op (t_pickF rfl) ⟨rfl, k_B _, trivial⟩ ?_
  refine r_as ?_
  refine r_nil (r_next (r_ret (r_toR ?_)))
  obtain rfl := sm1 hF
  exact r_done1 (.inl rfl) Tryz.results17 (.tmp rfl .nil) rfl rfl
def F_rat_unit (a0 : GInt) : Option Bool :=
  bif (!a0.neg) then (bif ((a0.d.length : Int) == 1) then ((rdL a0.d 0).bind fun v4 => some (v4 == 1)) else (some false)) else (some false)
theorem ct_rat_unit {a0 : GInt} {r : Bool} (hF : F_rat_unit a0 = some r) : Ct Tryz.prog 138 [.va (GInt.e a0)] (.vc (pB r)) := by
  unfold F_rat_unit at hF
  refine ctO_intro Tryz.func138 rfl (by kernel_rfl) Tryz.ntmps138 rfl (fun w0 M0 => ?_)
  refine r_seq (r_reg (r_box rfl rfl trivial (fun b1 => ?_)))
  refine r_op (t_mv (.inr rfl)) ⟨k_B _, trivial⟩ ?_
  refine r_nil (r_next (r_seq (r_reg (r_op (t_fa (off := 0) (k := 0) rfl tyF33_0) ⟨rfl, trivial⟩ ?_))))
  refine r_op (t_l 0 1 rfl rfl rfl rfl (.one tyO4)) ⟨rfl, trivial⟩ ?_
  refine r_op (t_not rfl) ⟨rfl, trivial⟩ ?_
  refine r_mv ?_
  refine r_bool (fun h2 => ?_) (fun h2 => ?_)
  · have hF := cnd_t h2 hF
    refine r_opg (t_fa (off := 0) (k := 1) rfl tyF33_1) ⟨rfl, trivial⟩ ?_
    refine r_opg (t_l 0 1 rfl rfl rfl rfl (.one tyO22)) ⟨rfl, trivial⟩ ?_
    refine r_opg (t_ln rfl tyS22) ⟨rfl, trivial⟩ ?_
    refine r_opg (t_eq rfl) ⟨rfl, k_I _ _, trivial⟩ ?_
    refine r_op (t_pickT rfl) ⟨rfl, rfl, trivial⟩ ?_
    refine r_mv ?_
    refine r_bool (fun h3 => ?_) (fun h3 => ?_)
    · have hF := cnd_t h3 hF
      refine r_opg (t_fa (off := 0) (k := 1) rfl tyF33_1) ⟨rfl, trivial⟩ ?_
      refine r_opg (t_l 0 1 rfl rfl rfl rfl (.one tyO22)) ⟨rfl, trivial⟩ ?_
      obtain ⟨v4, h5, hF⟩ := bnd hF
      refine r_opg (t_ix rfl tyS22 h5) ⟨rfl, k_I _ _, trivial⟩ ?_
      refine r_opg (t_lM 1 rfl rfl (.one tyO3)) ⟨rfl, trivial⟩ ?_
      refine r_opg (t_eq rfl) ⟨rfl, k_I _ _, trivial⟩ ?_
      refine r_op (t_pickT rfl) ⟨rfl, rfl, trivial⟩ ?_
      refine r_as ?_
      refine r_nil (r_next (r_ret (r_toR ?_)))
      obtain rfl := sm1 hF
      exact r_done1 (.inl rfl) Tryz.results138 (.tmp rfl .nil) rfl rfl
    have hF := cnd_f h3 hF
    refine r_opn ?_
    refine r_opn ?_
    refine r_opn ?_
    refine r_opn ?_
    refine r_opn ?_
    refine r_op (t_pickF rfl) ⟨rfl, k_B _, trivial⟩ ?_
    refine r_as ?_
    refine r_nil (r_next (r_ret (r_toR ?_)))
    obtain rfl := sm1 hF
    exact r_done1 (.inl rfl) Tryz.results138 (.tmp rfl .nil) rfl rfl
  have hF := cnd_f h2 hF
  refine r_opn ?_
  refine r_opn ?_
  refine r_opn ?_
  refine r_opn ?_
  refine r_op (t_pickF rfl) ⟨rfl, k_B _, trivial⟩ ?_
  refine r_mv ?_
  refine r_opn ?_
  refine r_opn ?_
  refine r_opn ?_
  refine r_opn ?_
  refine r_opn ?_
  refine r_op (t_pickF rfl) ⟨rfl, k_B _, trivial⟩ ?_
  refine r_as ?_
  refine r_nil (r_next (r_ret (r_toR ?_)))
  obtain rfl := sm1 hF
  exact r_done1 (.inl rfl) Tryz.results138 (.tmp rfl .nil) rfl rfl
def F_rat_lowest (a0 : GInt) (a1 : GInt) : Option GRat :=
  bif a1.neg then ((F_integer_Neg a0).bind fun v7 => (F_integer_Neg a1).bind fun v9 => (F_rat_unit v9).bind fun v11 => bif v11 then (some (⟨v7, (⟨false, ([] : List Int)⟩ : GInt)⟩ : GRat)) else (some (⟨v7, v9⟩ : GRat))) else ((F_rat_unit a1).bind fun v14 => bif v14 then (some (⟨a0, (⟨false, ([] : List Int)⟩ : GInt)⟩ : GRat)) else (some (⟨a0, a1⟩ : GRat)))
theorem ct_rat_lowest {a0 : GInt} {a1 : GInt} {r : GRat} (hF : F_rat_lowest a0 a1 = some r) : Ct Tryz.prog 88 [.va (GInt.e a0), .va (GInt.e a1)] (.va (GRat.e r)) := by
  unfold F_rat_lowest at hF
  refine ctO_intro Tryz.func88 rfl (by kernel_rfl) Tryz.ntmps88 rfl (fun w0 M0 => ?_)
  refine r_seq (r_reg (r_box rfl rfl trivial (fun b1 => ?_)))
  refine r_box rfl rfl trivial (fun b2 => ?_)
  refine r_alloc rfl tyZ35 (fun b3 => ?_)
  refine r_nil (r_next (r_seq (r_seq (r_reg (r_op (t_fa (off := 0) (k := 0) rfl tyF33_0) ⟨rfl, trivial⟩ ?_)))))
  refine r_op (t_l 1 1 rfl rfl rfl rfl (.one tyO4)) ⟨rfl, trivial⟩ ?_
  refine r_nil (r_next (r_if rfl (fun h4 => ?_) (fun h4 => ?_)))
  · have hF := cnd_t h4 hF
    obtain ⟨v7, h8, hF⟩ := bnd hF
    obtain ⟨v9, h10, hF⟩ := bnd hF
    refine r_draw [0, 1, 0, 7, 15, 31] 4 2 [.v (.va (GInt.e a0)), .v (.va (GInt.e v7)), .v (.va (GInt.e a1)), .v (.va (GInt.e v9))] Tryz_mixed ⟨d0 (t_l 2 2 rfl rfl rfl rfl (.agg tyA33)) ⟨rfl, trivial⟩, d0 (t_call rfl (ct_integer_Neg h8) rfl) ⟨rfl, trivial⟩, d0 (t_l 1 2 rfl rfl rfl rfl (.agg tyA33)) ⟨rfl, trivial⟩, d0 (t_call rfl (ct_integer_Neg h10) rfl) ⟨rfl, trivial⟩, trivial⟩ (fun bs6 G5 => ?_)
    refine r_op0 (t_s 2 rfl rfl rfl tyA33.s) ⟨rfl, rfl, trivial⟩ ?_
    refine r_op0 (t_s 1 rfl rfl rfl tyA33.s) ⟨rfl, rfl, trivial⟩ ?_
    refine r_nil (r_next (r_seq (r_seq (r_reg (r_op (t_l 1 2 rfl rfl rfl rfl (.agg tyA33)) ⟨rfl, trivial⟩ ?_)))))
    obtain ⟨v11, h12, hF⟩ := bnd hF
    refine r_op (t_call rfl (ct_rat_unit h12) rfl) ⟨rfl, trivial⟩ ?_
    refine r_nil (r_next (r_if rfl (fun h13 => ?_) (fun h13 => ?_)))
    · have hF := cnd_t h13 hF
      refine r_seq (r_reg (r_op (t_l 2 2 rfl rfl rfl rfl (.agg tyA33)) ⟨rfl, trivial⟩ ?_))
      refine r_op (t_bld (is := [0]) (xs := [.tmp 13]) (ps := [.va (GInt.e v7)]) rfl tyB35 rfl rfl ⟨trivial, trivial⟩ rfl) ⟨rfl, trivial⟩ ?_
      refine r_op0 (t_s 0 rfl rfl rfl tyA35.s) ⟨rfl, rfl, trivial⟩ ?_
      refine r_nil (r_next (r_ret (r_toR ?_)))
      obtain rfl := sm1 hF
      exact r_done1 (.inl rfl) Tryz.results88 (rv_cell 0 4 rfl rfl rfl rfl (.agg tyA35) .nil) rfl rfl
    have hF := cnd_f h13 hF
    refine r_skip (r_next (r_seq (r_reg (r_op (t_l 2 2 rfl rfl rfl rfl (.agg tyA33)) ⟨rfl, trivial⟩ ?_))))
    refine r_op (t_l 1 2 rfl rfl rfl rfl (.agg tyA33)) ⟨rfl, trivial⟩ ?_
    refine r_op (t_bld (is := [0, 1]) (xs := [.tmp 15, .tmp 16]) (ps := [.va (GInt.e v7), .va (GInt.e v9)]) rfl tyB35 rfl rfl ⟨trivial, trivial, trivial⟩ rfl) ⟨rfl, rfl, trivial⟩ ?_
    refine r_op0 (t_s 0 rfl rfl rfl tyA35.s) ⟨rfl, rfl, trivial⟩ ?_
    refine r_nil (r_next (r_ret (r_toR ?_)))
    obtain rfl := sm1 hF
    exact r_done1 (.inl rfl) Tryz.results88 (rv_cell 0 4 rfl rfl rfl rfl (.agg tyA35) .nil) rfl rfl
  have hF := cnd_f h4 hF
  refine r_skip (r_next (r_seq (r_seq (r_reg (r_op (t_l 1 2 rfl rfl rfl rfl (.agg tyA33)) ⟨rfl, trivial⟩ ?_)))))
  obtain ⟨v14, h15, hF⟩ := bnd hF
  refine r_op (t_call rfl (ct_rat_unit h15) rfl) ⟨rfl, trivial⟩ ?_
  refine r_nil (r_next (r_if rfl (fun h16 => ?_) (fun h16 => ?_)))
  · have hF := cnd_t h16 hF
    refine r_seq (r_reg (r_op (t_l 2 2 rfl rfl rfl rfl (.agg tyA33)) ⟨rfl, trivial⟩ ?_))
    refine r_op (t_bld (is := [0]) (xs := [.tmp 13]) (ps := [.va (GInt.e a0)]) rfl tyB35 rfl rfl ⟨trivial, trivial⟩ rfl) ⟨rfl, trivial⟩ ?_
    refine r_op0 (t_s 0 rfl rfl rfl tyA35.s) ⟨rfl, rfl, trivial⟩ ?_
    refine r_nil (r_next (r_ret (r_toR ?_)))
    obtain rfl := sm1 hF
    exact r_done1 (.inl rfl) Tryz.results88 (rv_cell 0 4 rfl rfl rfl rfl (.agg tyA35) .nil) rfl rfl
  have hF := cnd_f h16 hF
  refine r_skip (r_next (r_seq (r_reg (r_op (t_l 2 2 rfl rfl rfl rfl (.agg tyA33)) ⟨rfl, trivial⟩ ?_))))
  refine r_op (t_l 1 2 rfl rfl rfl rfl (.agg tyA33)) ⟨rfl, trivial⟩ ?_
  refine r_op (t_bld (is := [0, 1]) (xs := [.tmp 15, .tmp 16]) (ps := [.va (GInt.e a0), .va (GInt.e a1)]) rfl tyB35 rfl rfl ⟨trivial, trivial, trivial⟩ rfl) ⟨rfl, rfl, trivial⟩ ?_
  refine r_op0 (t_s 0 rfl rfl rfl tyA35.s) ⟨rfl, rfl, trivial⟩ ?_
  refine r_nil (r_next (r_ret (r_toR ?_)))
  obtain rfl := sm1 hF
  exact r_done1 (.inl rfl) Tryz.results88 (rv_cell 0 4 rfl rfl rfl rfl (.agg tyA35) .nil) rfl rfl
def F_rat_Make (K : Nat) (a0 : GInt) (a1 : GInt) : Option GRat :=
  bif ((a1.d.length : Int) == 0) then (some (⟨(⟨false, ([] : List Int)⟩ : GInt), (⟨false, ([] : List Int)⟩ : GInt)⟩ : GRat)) else (bif ((a0.d.length : Int) == 0) then (some (⟨(⟨false, ([] : List Int)⟩ : GInt), (⟨false, ([] : List Int)⟩ : GInt)⟩ : GRat)) else ((F_integer_Gcd K a0 a1).bind fun v6 => (F_rat_unit v6).bind fun v9 => bif (!v9) then ((F_integer_Div K a0 v6).bind fun v12 => (F_integer_Div K a1 v6).bind fun v14 => (F_rat_lowest v12.1 v14.1).bind fun v16 => some v16) else ((F_rat_lowest a0 a1).bind fun v18 => some v18)))
theorem ct_rat_Make {K : Nat} {a0 : GInt} {a1 : GInt} {r : GRat} (hF : F_rat_Make K a0 a1 = some r) : Ct Tryz.prog 86 [.va (GInt.e a0), .va (GInt.e a1)] (.va (GRat.e r)) := by
  unfold F_rat_Make at hF
  refine ctO_intro Tryz.func86 rfl (by kernel_rfl) Tryz.ntmps86 rfl (fun w0 M0 => ?_)
  refine r_seq (r_reg (r_box rfl rfl trivial (fun b1 => ?_)))
  refine r_box rfl rfl trivial (fun b2 => ?_)
  refine r_alloc rfl tyZ35 (fun b3 => ?_)
  refine r_nil (r_next (r_seq (r_seq (r_reg (r_op (t_fa (off := 0) (k := 1) rfl tyF33_1) ⟨rfl, trivial⟩ ?_)))))
  refine r_op (t_l 1 1 rfl rfl rfl rfl (.one tyO22)) ⟨rfl, trivial⟩ ?_
  refine r_op (t_ln rfl tyS22) ⟨rfl, trivial⟩ ?_
  refine r_op (t_eq rfl) ⟨rfl, k_I _ _, trivial⟩ ?_
  refine r_mv ?_
  refine r_bool (fun h4 => ?_) (fun h4 => ?_)
  · have hF := cnd_t h4 hF
    refine r_opn ?_
    refine r_opn ?_
    refine r_opn ?_
    refine r_opn ?_
    refine r_op (t_pickT rfl) ⟨rfl, k_B _, trivial⟩ ?_
    refine r_nil (r_next (r_ifT rfl ?_))
    refine r_seq (r_reg (r_op (t_bld (is := []) (xs := []) (ps := []) rfl tyB35 rfl rfl trivial rfl) trivial ?_))
    refine r_op0 (t_s 0 rfl rfl rfl tyA35.s) ⟨rfl, rfl, trivial⟩ ?_
    refine r_nil (r_next (r_ret (r_toR ?_)))
    obtain rfl := sm1 hF
    exact r_done1 (.inl rfl) Tryz.results86 (rv_cell 0 4 rfl rfl rfl rfl (.agg tyA35) .nil) rfl rfl
  have hF := cnd_f h4 hF
  refine r_opg (t_fa (off := 0) (k := 1) rfl tyF33_1) ⟨rfl, trivial⟩ ?_
  refine r_opg (t_l 2 1 rfl rfl rfl rfl (.one tyO22)) ⟨rfl, trivial⟩ ?_
  refine r_opg (t_ln rfl tyS22) ⟨rfl, trivial⟩ ?_
  refine r_opg (t_eq rfl) ⟨rfl, k_I _ _, trivial⟩ ?_
  refine r_op (t_pickF rfl) ⟨rfl, rfl, trivial⟩ ?_
  refine r_nil (r_next (r_if rfl (fun h5 => ?_) (fun h5 => ?_)))
  · have hF := cnd_t h5 hF
    refine r_seq (r_reg (r_op (t_bld (is := []) (xs := []) (ps := []) rfl tyB35 rfl rfl trivial rfl) trivial ?_))
    refine r_op0 (t_s 0 rfl rfl rfl tyA35.s) ⟨rfl, rfl, trivial⟩ ?_
    refine r_nil (r_next (r_ret (r_toR ?_)))
    obtain rfl := sm1 hF
    exact r_done1 (.inl rfl) Tryz.results86 (rv_cell 0 4 rfl rfl rfl rfl (.agg tyA35) .nil) rfl rfl
  have hF := cnd_f h5 hF
  refine r_skip (r_next (r_seq (r_seq (r_reg (r_op (t_l 2 2 rfl rfl rfl rfl (.agg tyA33)) ⟨rfl, trivial⟩ ?_)))))
  refine r_op (t_l 1 2 rfl rfl rfl rfl (.agg tyA33)) ⟨rfl, trivial⟩ ?_
  obtain ⟨v6, h7, hF⟩ := bnd hF
  refine r_op (t_call rfl (ct_integer_Gcd h7) rfl) ⟨rfl, rfl, trivial⟩ ?_
  refine r_alloc rfl tyZ33 (fun b8 => ?_)
  refine r_op0 (t_s 0 rfl rfl rfl tyA33.s) ⟨rfl, rfl, trivial⟩ ?_
  refine r_nil (r_next (r_seq (r_reg (r_op (t_l 0 2 rfl rfl rfl rfl (.agg tyA33)) ⟨rfl, trivial⟩ ?_))))
  obtain ⟨v9, h10, hF⟩ := bnd hF
  refine r_op (t_call rfl (ct_rat_unit h10) rfl) ⟨rfl, trivial⟩ ?_
  refine r_op (t_not rfl) ⟨rfl, trivial⟩ ?_
  refine r_nil (r_next (r_if rfl (fun h11 => ?_) (fun h11 => ?_)))
  · have hF := cnd_t h11 hF
    refine r_seq (r_reg (r_op (t_l 3 2 rfl rfl rfl rfl (.agg tyA33)) ⟨rfl, trivial⟩ ?_))
    refine r_op (t_l 0 2 rfl rfl rfl rfl (.agg tyA33)) ⟨rfl, trivial⟩ ?_
    obtain ⟨v12, h13, hF⟩ := bnd hF
    refine r_op (t_call rfl (ct_integer_Div h13) rfl) ⟨rfl, rfl, trivial⟩ ?_
    refine r_mv ?_
    refine r_op (t_ext2a rfl) ⟨rfl, trivial⟩ ?_
    refine r_op (t_ext2b rfl) ⟨rfl, trivial⟩ ?_
    refine r_op0 (t_s 3 rfl rfl rfl tyA33.s) ⟨rfl, rfl, trivial⟩ ?_
    refine r_nil (r_next (r_reg (r_op (t_l 2 2 rfl rfl rfl rfl (.agg tyA33)) ⟨rfl, trivial⟩ ?_)))
    refine r_op (t_l 0 2 rfl rfl rfl rfl (.agg tyA33)) ⟨rfl, trivial⟩ ?_
    obtain ⟨v14, h15, hF⟩ := bnd hF
    refine r_op (t_call rfl (ct_integer_Div h15) rfl) ⟨rfl, rfl, trivial⟩ ?_
    refine r_mv ?_
    refine r_op (t_ext2a rfl) ⟨rfl, trivial⟩ ?_
    refine r_op (t_ext2b rfl) ⟨rfl, trivial⟩ ?_
    refine r_op0 (t_s 2 rfl rfl rfl tyA33.s) ⟨rfl, rfl, trivial⟩ ?_
    refine r_nil (r_next (r_seq (r_reg (r_op (t_l 3 2 rfl rfl rfl rfl (.agg tyA33)) ⟨rfl, trivial⟩ ?_))))
    refine r_op (t_l 2 2 rfl rfl rfl rfl (.agg tyA33)) ⟨rfl, trivial⟩ ?_
    obtain ⟨v16, h17, hF⟩ := bnd hF
    refine r_op (t_call rfl (ct_rat_lowest h17) rfl) ⟨rfl, rfl, trivial⟩ ?_
    refine r_op0 (t_s 1 rfl rfl rfl tyA35.s) ⟨rfl, rfl, trivial⟩ ?_
    refine r_nil (r_next (r_ret (r_toR ?_)))
    obtain rfl := sm1 hF
    exact r_done1 (.inl rfl) Tryz.results86 (rv_cell 1 4 rfl rfl rfl rfl (.agg tyA35) .nil) rfl rfl
  have hF := cnd_f h11 hF
  refine r_skip (r_next (r_seq (r_reg (r_op (t_l 3 2 rfl rfl rfl rfl (.agg tyA33)) ⟨rfl, trivial⟩ ?_))))
  refine r_op (t_l 2 2 rfl rfl rfl rfl (.agg tyA33)) ⟨rfl, trivial⟩ ?_
  obtain ⟨v18, h19, hF⟩ := bnd hF
  refine r_op (t_call rfl (ct_rat_lowest h19) rfl) ⟨rfl, rfl, trivial⟩ ?_
  refine r_op0 (t_s 1 rfl rfl rfl tyA35.s) ⟨rfl, rfl, trivial⟩ ?_
  refine r_nil (r_next (r_ret (r_toR ?_)))
  obtain rfl := sm1 hF
  exact r_done1 (.inl rfl) Tryz.results86 (rv_cell 1 4 rfl rfl rfl rfl (.agg tyA35) .nil) rfl rfl
def F_rat_one : Option GInt :=
  (F_integer_Of 1).bind fun v2 => some v2
theorem ct_rat_one {r : GInt} (hF : F_rat_one = some r) : Ct Tryz.prog 140 [] (.va (GInt.e r)) := by
  unfold F_rat_one at hF
  refine ctO_intro Tryz.func140 rfl (by kernel_rfl) Tryz.ntmps140 rfl (fun w0 M0 => ?_)
  refine r_seq (r_reg (r_alloc rfl tyZ33 (fun b1 => ?_)))
  refine r_nil (r_next (r_seq (r_reg ?_)))
  obtain ⟨v2, h3, hF⟩ := bnd hF
  refine r_op (t_call rfl (ct_integer_Of h3) rfl) ⟨k_I _ _, trivial⟩ ?_
  refine r_op0 (t_s 0 rfl rfl rfl tyA33.s) ⟨rfl, rfl, trivial⟩ ?_
  refine r_nil (r_next (r_ret (r_toR ?_)))
  obtain rfl := sm1 hF
  exact r_done1 (.inl rfl) Tryz.results140 (rv_cell 0 2 rfl rfl rfl rfl (.agg tyA33) .nil) rfl rfl
def F_rat_Den (a0 : GRat) : Option GInt :=
  bif ((a0.q.d.length : Int) == 0) then ((F_rat_one ).bind fun v4 => some v4) else (some a0.q)
theorem ct_rat_Den {a0 : GRat} {r : GInt} (hF : F_rat_Den a0 = some r) : Ct Tryz.prog 87 [.va (GRat.e a0)] (.va (GInt.e r)) := by
  unfold F_rat_Den at hF
  refine ctO_intro Tryz.func87 rfl (by kernel_rfl) Tryz.ntmps87 rfl (fun w0 M0 => ?_)
  refine r_seq (r_reg (r_box rfl rfl trivial (fun b1 => ?_)))
  refine r_alloc rfl tyZ33 (fun b2 => ?_)
  refine r_nil (r_next (r_seq (r_seq (r_reg (r_op (t_fa (off := 0) (k := 2) rfl tyF35_1) ⟨rfl, trivial⟩ ?_)))))
  refine r_op (t_fa (off := 2) (k := 1) rfl tyF33_1) ⟨rfl, trivial⟩ ?_
  refine r_op (t_l 1 1 rfl rfl rfl rfl (.one tyO22)) ⟨rfl, trivial⟩ ?_
  refine r_op (t_ln rfl tyS22) ⟨rfl, trivial⟩ ?_
  refine r_op (t_eq rfl) ⟨rfl, k_I _ _, trivial⟩ ?_
  refine r_nil (r_next (r_if rfl (fun h3 => ?_) (fun h3 => ?_)))
  · have hF := cnd_t h3 hF
    refine r_seq (r_reg ?_)
    obtain ⟨v4, h5, hF⟩ := bnd hF
    refine r_op (t_call rfl (ct_rat_one h5) rfl) trivial ?_
    refine r_op0 (t_s 0 rfl rfl rfl tyA33.s) ⟨rfl, rfl, trivial⟩ ?_
    refine r_nil (r_next (r_ret (r_toR ?_)))
    obtain rfl := sm1 hF
    exact r_done1 (.inl rfl) Tryz.results87 (rv_cell 0 2 rfl rfl rfl rfl (.agg tyA33) .nil) rfl rfl
  have hF := cnd_f h3 hF
  refine r_skip (r_next (r_seq (r_reg (r_op (t_fa (off := 0) (k := 2) rfl tyF35_1) ⟨rfl, trivial⟩ ?_))))
  refine r_op (t_l 1 2 rfl rfl rfl rfl (.agg tyA33)) ⟨rfl, trivial⟩ ?_
  refine r_op0 (t_s 0 rfl rfl rfl tyA33.s) ⟨rfl, rfl, trivial⟩ ?_
  refine r_nil (r_next (r_ret (r_toR ?_)))
  obtain rfl := sm1 hF
  exact r_done1 (.inl rfl) Tryz.results87 (rv_cell 0 2 rfl rfl rfl rfl (.agg tyA33) .nil) rfl rfl
abbrev N_rat_Mul : Nat := 25
def F_rat_Mul (K : Nat) (a0 : GRat) (a1 : GRat) : Option GRat :=
  bif ((a0.p.d.length : Int) == 0) then (some (⟨(⟨false, ([] : List Int)⟩ : GInt), (⟨false, ([] : List Int)⟩ : GInt)⟩ : GRat)) else (bif ((a1.p.d.length : Int) == 0) then (some (⟨(⟨false, ([] : List Int)⟩ : GInt), (⟨false, ([] : List Int)⟩ : GInt)⟩ : GRat)) else (bif ((a0.q.d.length : Int) == 0) then (bif ((a1.q.d.length : Int) == 0) then ((F_integer_Mul K a0.p a1.p).bind fun v8 => some (⟨v8, (⟨false, ([] : List Int)⟩ : GInt)⟩ : GRat)) else ((F_rat_Den a1).bind fun v12 => (F_rat_Make K a0.p v12).bind fun v14 => (F_rat_Den a0).bind fun v16 => (F_rat_Make K a1.p v16).bind fun v18 => (F_integer_Mul K v14.p v18.p).bind fun v22 => (F_rat_Den v14).bind fun v24 => (F_rat_Den v18).bind fun v26 => (F_integer_Mul K v24 v26).bind fun v28 => (F_rat_lowest v22 v28).bind fun v30 => some v30)) else ((F_rat_Den a1).bind fun v34 => (F_rat_Make K a0.p v34).bind fun v36 => (F_rat_Den a0).bind fun v38 => (F_rat_Make K a1.p v38).bind fun v40 => (F_integer_Mul K v36.p v40.p).bind fun v44 => (F_rat_Den v36).bind fun v46 => (F_rat_Den v40).bind fun v48 => (F_integer_Mul K v46 v48).bind fun v50 => (F_rat_lowest v44 v50).bind fun v52 => some v52)))
theorem ct_rat_Mul {K : Nat} {a0 : GRat} {a1 : GRat} {r : GRat} (hF : F_rat_Mul K a0 a1 = some r) : Ct Tryz.prog 25 [.va (GRat.e a0), .va (GRat.e a1)] (.va (GRat.e r)) := by
  unfold F_rat_Mul at hF
  refine ctO_intro Tryz.func25 rfl (by kernel_rfl) Tryz.ntmps25 rfl (fun w0 M0 => ?_)
  refine r_seq (r_reg (r_box rfl rfl trivial (fun b1 => ?_)))
  refine r_box rfl rfl trivial (fun b2 => ?_)
  refine r_alloc rfl tyZ35 (fun b3 => ?_)
  refine r_nil (r_next (r_seq (r_seq (r_reg (r_op (t_fa (off := 0) (k := 0) rfl tyF35_0) ⟨rfl, trivial⟩ ?_)))))
  refine r_op (t_fa (off := 0) (k := 1) rfl tyF33_1) ⟨rfl, trivial⟩ ?_
  refine r_op (t_l 2 1 rfl rfl rfl rfl (.one tyO22)) ⟨rfl, trivial⟩ ?_
  refine r_op (t_ln rfl tyS22) ⟨rfl, trivial⟩ ?_
  refine r_op (t_eq rfl) ⟨rfl, k_I _ _, trivial⟩ ?_
  refine r_mv ?_
  refine r_bool (fun h4 => ?_) (fun h4 => ?_)
  · have hF := cnd_t h4 hF
    refine r_opn ?_
    refine r_opn ?_
    refine r_opn ?_
    refine r_opn ?_
    refine r_opn ?_
    refine r_op (t_pickT rfl) ⟨rfl, k_B _, trivial⟩ ?_
    refine r_nil (r_next (r_ifT rfl ?_))
    refine r_seq (r_reg (r_op (t_bld (is := []) (xs := []) (ps := []) rfl tyB35 rfl rfl trivial rfl) trivial ?_))
    refine r_op0 (t_s 0 rfl rfl rfl tyA35.s) ⟨rfl, rfl, trivial⟩ ?_
    refine r_nil (r_next (r_ret (r_toR ?_)))
    obtain rfl := sm1 hF
    exact r_done1 (.inl rfl) Tryz.results25 (rv_cell 0 4 rfl rfl rfl rfl (.agg tyA35) .nil) rfl rfl
  have hF := cnd_f h4 hF
  refine r_opg (t_fa (off := 0) (k := 0) rfl tyF35_0) ⟨rfl, trivial⟩ ?_
  refine r_opg (t_fa (off := 0) (k := 1) rfl tyF33_1) ⟨rfl, trivial⟩ ?_
  refine r_opg (t_l 1 1 rfl rfl rfl rfl (.one tyO22)) ⟨rfl, trivial⟩ ?_
  refine r_opg (t_ln rfl tyS22) ⟨rfl, trivial⟩ ?_
  refine r_opg (t_eq rfl) ⟨rfl, k_I _ _, trivial⟩ ?_
  refine r_op (t_pickF rfl) ⟨rfl, rfl, trivial⟩ ?_
  refine r_nil (r_next (r_if rfl (fun h5 => ?_) (fun h5 => ?_)))
  · have hF := cnd_t h5 hF
    refine r_seq (r_reg (r_op (t_bld (is := []) (xs := []) (ps := []) rfl tyB35 rfl rfl trivial rfl) trivial ?_))
    refine r_op0 (t_s 0 rfl rfl rfl tyA35.s) ⟨rfl, rfl, trivial⟩ ?_
    refine r_nil (r_next (r_ret (r_toR ?_)))
    obtain rfl := sm1 hF
    exact r_done1 (.inl rfl) Tryz.results25 (rv_cell 0 4 rfl rfl rfl rfl (.agg tyA35) .nil) rfl rfl
  have hF := cnd_f h5 hF
  refine r_skip (r_next (r_seq (r_seq (r_reg (r_op (t_fa (off := 0) (k := 2) rfl tyF35_1) ⟨rfl, trivial⟩ ?_)))))
  refine r_op (t_fa (off := 2) (k := 1) rfl tyF33_1) ⟨rfl, trivial⟩ ?_
  refine r_op (t_l 2 1 rfl rfl rfl rfl (.one tyO22)) ⟨rfl, trivial⟩ ?_
  refine r_op (t_ln rfl tyS22) ⟨rfl, trivial⟩ ?_
  refine r_op (t_eq rfl) ⟨rfl, k_I _ _, trivial⟩ ?_
  refine r_mv ?_
  refine r_bool (fun h6 => ?_) (fun h6 => ?_)
  · have hF := cnd_t h6 hF
    refine r_opg (t_fa (off := 0) (k := 2) rfl tyF35_1) ⟨rfl, trivial⟩ ?_
    refine r_opg (t_fa (off := 2) (k := 1) rfl tyF33_1) ⟨rfl, trivial⟩ ?_
    refine r_opg (t_l 1 1 rfl rfl rfl rfl (.one tyO22)) ⟨rfl, trivial⟩ ?_
    refine r_opg (t_ln rfl tyS22) ⟨rfl, trivial⟩ ?_
    refine r_opg (t_eq rfl) ⟨rfl, k_I _ _, trivial⟩ ?_
    refine r_op (t_pickT rfl) ⟨rfl, rfl, trivial⟩ ?_
    refine r_nil (r_next (r_if rfl (fun h7 => ?_) (fun h7 => ?_)))
    · have hF := cnd_t h7 hF
      refine r_seq (r_reg (r_op (t_fa (off := 0) (k := 0) rfl tyF35_0) ⟨rfl, trivial⟩ ?_))
      refine r_op (t_l 2 2 rfl rfl rfl rfl (.agg tyA33)) ⟨rfl, trivial⟩ ?_
      refine r_op (t_fa (off := 0) (k := 0) rfl tyF35_0) ⟨rfl, trivial⟩ ?_
      refine r_op (t_l 1 2 rfl rfl rfl rfl (.agg tyA33)) ⟨rfl, trivial⟩ ?_
      obtain ⟨v8, h9, hF⟩ := bnd hF
      refine r_op (t_call rfl (ct_integer_Mul h9) rfl) ⟨rfl, rfl, trivial⟩ ?_
      refine r_op (t_bld (is := [0]) (xs := [.tmp 36]) (ps := [.va (GInt.e v8)]) rfl tyB35 rfl rfl ⟨trivial, trivial⟩ rfl) ⟨rfl, trivial⟩ ?_
      refine r_op0 (t_s 0 rfl rfl rfl tyA35.s) ⟨rfl, rfl, trivial⟩ ?_
      refine r_nil (r_next (r_ret (r_toR ?_)))
      obtain rfl := sm1 hF
      exact r_done1 (.inl rfl) Tryz.results25 (rv_cell 0 4 rfl rfl rfl rfl (.agg tyA35) .nil) rfl rfl
    have hF := cnd_f h7 hF
    refine r_skip (r_next (r_seq ?_))
    obtain ⟨v12, h13, hF⟩ := bnd hF
    obtain ⟨v14, h15, hF⟩ := bnd hF
    obtain ⟨v16, h17, hF⟩ := bnd hF
    obtain ⟨v18, h19, hF⟩ := bnd hF
    refine r_draw [0, 1, 0, 4, 15, 0, 32, 0, 159, 511, 0, 0, 4095, 8191] 12 2 [.v (.vc (pP (some b1) 0)), .v (.va (GInt.e a0.p)), .v (.va (GRat.e a1)), .v (.va (GInt.e v12)), .v (.va (GRat.e v14)), .v (.vc (pP (some b2) 0)), .v (.va (GInt.e a1.p)), .v (.va (GRat.e a0)), .v (.va (GInt.e v16)), .v (.va (GRat.e v18)), .a 35 (([pB false] ++ [pS cI ([] : List Int)]) ++ ([pB false] ++ [pS cI ([] : List Int)])), .a 35 (([pB false] ++ [pS cI ([] : List Int)]) ++ ([pB false] ++ [pS cI ([] : List Int)]))] Tryz_mixed ⟨d0 (t_fa (off := 0) (k := 0) rfl tyF35_0) ⟨rfl, trivial⟩, d0 (t_l 2 2 rfl rfl rfl rfl (.agg tyA33)) ⟨rfl, trivial⟩, d0 (t_l 1 4 rfl rfl rfl rfl (.agg tyA35)) ⟨rfl, trivial⟩, d0 (t_call rfl (ct_rat_Den h13) rfl) ⟨rfl, trivial⟩, d0 (t_call rfl (ct_rat_Make h15) rfl) ⟨rfl, rfl, trivial⟩, d0 (t_fa (off := 0) (k := 0) rfl tyF35_0) ⟨rfl, trivial⟩, d0 (t_l 1 2 rfl rfl rfl rfl (.agg tyA33)) ⟨rfl, trivial⟩, d0 (t_l 2 4 rfl rfl rfl rfl (.agg tyA35)) ⟨rfl, trivial⟩, d0 (t_call rfl (ct_rat_Den h17) rfl) ⟨rfl, trivial⟩, d0 (t_call rfl (ct_rat_Make h19) rfl) ⟨rfl, rfl, trivial⟩, ⟨rfl, .alc tyZ35⟩, ⟨rfl, .alc tyZ35⟩, trivial⟩ (fun bs11 G10 => ?_)
    refine r_op0 (t_s 0 rfl rfl rfl tyA35.s) ⟨rfl, rfl, trivial⟩ ?_
    refine r_op0 (t_s 1 rfl rfl rfl tyA35.s) ⟨rfl, rfl, trivial⟩ ?_
    refine r_nil (r_next (r_seq ?_))
    obtain ⟨v22, h23, hF⟩ := bnd hF
    obtain ⟨v24, h25, hF⟩ := bnd hF
    obtain ⟨v26, h27, hF⟩ := bnd hF
    obtain ⟨v28, h29, hF⟩ := bnd hF
    obtain ⟨v30, h31, hF⟩ := bnd hF
    refine r_draw [0, 1, 0, 4, 15, 0, 63, 0, 255, 511, 1023, 2047] 11 1 [.v (.vc (pP (some (bs11 10)) 0)), .v (.va (GInt.e v14.p)), .v (.vc (pP (some (bs11 11)) 0)), .v (.va (GInt.e v18.p)), .v (.va (GInt.e v22)), .v (.va (GRat.e v14)), .v (.va (GInt.e v24)), .v (.va (GRat.e v18)), .v (.va (GInt.e v26)), .v (.va (GInt.e v28)), .v (.va (GRat.e v30))] Tryz_mixed ⟨d0 (t_fa (off := 0) (k := 0) rfl tyF35_0) ⟨rfl, trivial⟩, d0 (t_l 0 2 rfl rfl rfl rfl (.agg tyA33)) ⟨rfl, trivial⟩, d0 (t_fa (off := 0) (k := 0) rfl tyF35_0) ⟨rfl, trivial⟩, d0 (t_l 1 2 rfl rfl rfl rfl (.agg tyA33)) ⟨rfl, trivial⟩, d0 (t_call rfl (ct_integer_Mul h23) rfl) ⟨rfl, rfl, trivial⟩, d0 (t_l 0 4 rfl rfl rfl rfl (.agg tyA35)) ⟨rfl, trivial⟩, d0 (t_call rfl (ct_rat_Den h25) rfl) ⟨rfl, trivial⟩, d0 (t_l 1 4 rfl rfl rfl rfl (.agg tyA35)) ⟨rfl, trivial⟩, d0 (t_call rfl (ct_rat_Den h27) rfl) ⟨rfl, trivial⟩, d0 (t_call rfl (ct_integer_Mul h29) rfl) ⟨rfl, rfl, trivial⟩, d0 (t_call rfl (ct_rat_lowest h31) rfl) ⟨rfl, rfl, trivial⟩, trivial⟩ (fun bs21 G20 => ?_)
    refine r_op0 (t_s 2 rfl rfl rfl tyA35.s) ⟨rfl, rfl, trivial⟩ ?_
    refine r_nil (r_next (r_ret (r_toR ?_)))
    obtain rfl := sm1 hF
    exact r_done1 (.inl rfl) Tryz.results25 (rv_cell 2 4 rfl rfl rfl rfl (.agg tyA35) .nil) rfl rfl
  have hF := cnd_f h6 hF
  refine r_opn ?_
  refine r_opn ?_
  refine r_opn ?_
  refine r_opn ?_
  refine r_opn ?_
  refine r_op (t_pickF rfl) ⟨rfl, k_B _, trivial⟩ ?_
  refine r_nil (r_next (r_ifF rfl ?_))
  refine r_skip (r_next (r_seq ?_))
  obtain ⟨v34, h35, hF⟩ := bnd hF
  obtain ⟨v36, h37, hF⟩ := bnd hF
  obtain ⟨v38, h39, hF⟩ := bnd hF
  obtain ⟨v40, h41, hF⟩ := bnd hF
  refine r_draw [0, 1, 0, 4, 15, 0, 32, 0, 159, 511, 0, 0, 4095, 8191] 12 2 [.v (.vc (pP (some b1) 0)), .v (.va (GInt.e a0.p)), .v (.va (GRat.e a1)), .v (.va (GInt.e v34)), .v (.va (GRat.e v36)), .v (.vc (pP (some b2) 0)), .v (.va (GInt.e a1.p)), .v (.va (GRat.e a0)), .v (.va (GInt.e v38)), .v (.va (GRat.e v40)), .a 35 (([pB false] ++ [pS cI ([] : List Int)]) ++ ([pB false] ++ [pS cI ([] : List Int)])), .a 35 (([pB false] ++ [pS cI ([] : List Int)]) ++ ([pB false] ++ [pS cI ([] : List Int)]))] Tryz_mixed ⟨d0 (t_fa (off := 0) (k := 0) rfl tyF35_0) ⟨rfl, trivial⟩, d0 (t_l 2 2 rfl rfl rfl rfl (.agg tyA33)) ⟨rfl, trivial⟩, d0 (t_l 1 4 rfl rfl rfl rfl (.agg tyA35)) ⟨rfl, trivial⟩, d0 (t_call rfl (ct_rat_Den h35) rfl) ⟨rfl, trivial⟩, d0 (t_call rfl (ct_rat_Make h37) rfl) ⟨rfl, rfl, trivial⟩, d0 (t_fa (off := 0) (k := 0) rfl tyF35_0) ⟨rfl, trivial⟩, d0 (t_l 1 2 rfl rfl rfl rfl (.agg tyA33)) ⟨rfl, trivial⟩, d0 (t_l 2 4 rfl rfl rfl rfl (.agg tyA35)) ⟨rfl, trivial⟩, d0 (t_call rfl (ct_rat_Den h39) rfl) ⟨rfl, trivial⟩, d0 (t_call rfl (ct_rat_Make h41) rfl) ⟨rfl, rfl, trivial⟩, ⟨rfl, .alc tyZ35⟩, ⟨rfl, .alc tyZ35⟩, trivial⟩ (fun bs33 G32 => ?_)
  refine r_op0 (t_s 0 rfl rfl rfl tyA35.s) ⟨rfl, rfl, trivial⟩ ?_
  refine r_op0 (t_s 1 rfl rfl rfl tyA35.s) ⟨rfl, rfl, trivial⟩ ?_
  refine r_nil (r_next (r_seq ?_))
  obtain ⟨v44, h45, hF⟩ := bnd hF
  obtain ⟨v46, h47, hF⟩ := bnd hF
  obtain ⟨v48, h49, hF⟩ := bnd hF
  obtain ⟨v50, h51, hF⟩ := bnd hF
  obtain ⟨v52, h53, hF⟩ := bnd hF
  refine r_draw [0, 1, 0, 4, 15, 0, 63, 0, 255, 511, 1023, 2047] 11 1 [.v (.vc (pP (some (bs33 10)) 0)), .v (.va (GInt.e v36.p)), .v (.vc (pP (some (bs33 11)) 0)), .v (.va (GInt.e v40.p)), .v (.va (GInt.e v44)), .v (.va (GRat.e v36)), .v (.va (GInt.e v46)), .v (.va (GRat.e v40)), .v (.va (GInt.e v48)), .v (.va (GInt.e v50)), .v (.va (GRat.e v52))] Tryz_mixed ⟨d0 (t_fa (off := 0) (k := 0) rfl tyF35_0) ⟨rfl, trivial⟩, d0 (t_l 0 2 rfl rfl rfl rfl (.agg tyA33)) ⟨rfl, trivial⟩, d0 (t_fa (off := 0) (k := 0) rfl tyF35_0) ⟨rfl, trivial⟩, d0 (t_l 1 2 rfl rfl rfl rfl (.agg tyA33)) ⟨rfl, trivial⟩, d0 (t_call rfl (ct_integer_Mul h45) rfl) ⟨rfl, rfl, trivial⟩, d0 (t_l 0 4 rfl rfl rfl rfl (.agg tyA35)) ⟨rfl, trivial⟩, d0 (t_call rfl (ct_rat_Den h47) rfl) ⟨rfl, trivial⟩, d0 (t_l 1 4 rfl rfl rfl rfl (.agg tyA35)) ⟨rfl, trivial⟩, d0 (t_call rfl (ct_rat_Den h49) rfl) ⟨rfl, trivial⟩, d0 (t_call rfl (ct_integer_Mul h51) rfl) ⟨rfl, rfl, trivial⟩, d0 (t_call rfl (ct_rat_lowest h53) rfl) ⟨rfl, rfl, trivial⟩, trivial⟩ (fun bs43 G42 => ?_)
  refine r_op0 (t_s 2 rfl rfl rfl tyA35.s) ⟨rfl, rfl, trivial⟩ ?_
  refine r_nil (r_next (r_ret (r_toR ?_)))
  obtain rfl := sm1 hF
  exact r_done1 (.inl rfl) Tryz.results25 (rv_cell 2 4 rfl rfl rfl rfl (.agg tyA35) .nil) rfl rfl
abbrev N_rat_Sign : Nat := 26
def F_rat_Sign (a0 : GRat) : Option Int :=
  (F_integer_Sign a0.p).bind fun v2 => some v2
theorem ct_rat_Sign {a0 : GRat} {r : Int} (hF : F_rat_Sign a0 = some r) : Ct Tryz.prog 26 [.va (GRat.e a0)] (.vc (pI .i64 r)) := by
  unfold F_rat_Sign at hF
  refine ctO_intro Tryz.func26 rfl (by kernel_rfl) Tryz.ntmps26 rfl (fun w0 M0 => ?_)
  refine r_seq (r_reg (r_box rfl rfl trivial (fun b1 => ?_)))
  refine r_op (t_mv (.inr rfl)) ⟨k_I _ _, trivial⟩ ?_
  refine r_nil (r_next (r_seq (r_reg (r_op (t_fa (off := 0) (k := 0) rfl tyF35_0) ⟨rfl, trivial⟩ ?_))))
  refine r_op (t_l 0 2 rfl rfl rfl rfl (.agg tyA33)) ⟨rfl, trivial⟩ ?_
  obtain ⟨v2, h3, hF⟩ := bnd hF
  refine r_op (t_call rfl (ct_integer_Sign h3) rfl) ⟨rfl, trivial⟩ ?_
  refine r_as ?_
  refine r_nil (r_next (r_ret (r_toR ?_)))
  obtain rfl := sm1 hF
  exact r_done1 (.inl rfl) Tryz.results26 (.tmp rfl .nil) rfl rfl
def F_gantryref05_Den (K : Nat) (a0 : GRat) : Option GInt :=
  bif ((a0.q.d.length : Int) == 0) then ((F_gantryref04_Of K 1).bind fun v4 => some v4) else (some a0.q)
theorem ct_gantryref05_Den {K : Nat} {a0 : GRat} {r : GInt} (hF : F_gantryref05_Den K a0 = some r) : Ct Tryz.prog 116 [.va (GRat.e a0)] (.va (GInt.e r)) := by
  unfold F_gantryref05_Den at hF
  refine ctO_intro Tryz.func116 rfl (by kernel_rfl) Tryz.ntmps116 rfl (fun w0 M0 => ?_)
  refine r_seq (r_reg (r_box rfl rfl trivial (fun b1 => ?_)))
  refine r_alloc rfl tyZ33 (fun b2 => ?_)
  refine r_nil (r_next (r_seq (r_seq (r_reg (r_op (t_fa (off := 0) (k := 2) rfl tyF35_1) ⟨rfl, trivial⟩ ?_)))))
  refine r_op (t_fa (off := 2) (k := 1) rfl tyF33_1) ⟨rfl, trivial⟩ ?_
  refine r_op (t_l 1 1 rfl rfl rfl rfl (.one tyO22)) ⟨rfl, trivial⟩ ?_
  refine r_op (t_ln rfl tyS22) ⟨rfl, trivial⟩ ?_
  refine r_op (t_eq rfl) ⟨rfl, k_I _ _, trivial⟩ ?_
  refine r_nil (r_next (r_if rfl (fun h3 => ?_) (fun h3 => ?_)))
  · have hF := cnd_t h3 hF
    refine r_seq (r_reg ?_)
    obtain ⟨v4, h5, hF⟩ := bnd hF
    refine r_op (t_call rfl (ct_gantryref04_Of h5) rfl) ⟨k_I _ _, trivial⟩ ?_
    refine r_op0 (t_s 0 rfl rfl rfl tyA33.s) ⟨rfl, rfl, trivial⟩ ?_
    refine r_nil (r_next (r_ret (r_toR ?_)))
    obtain rfl := sm1 hF
    exact r_done1 (.inl rfl) Tryz.results116 (rv_cell 0 2 rfl rfl rfl rfl (.agg tyA33) .nil) rfl rfl
  have hF := cnd_f h3 hF
  refine r_skip (r_next (r_seq (r_reg (r_op (t_fa (off := 0) (k := 2) rfl tyF35_1) ⟨rfl, trivial⟩ ?_))))
  refine r_op (t_l 1 2 rfl rfl rfl rfl (.agg tyA33)) ⟨rfl, trivial⟩ ?_
  refine r_op0 (t_s 0 rfl rfl rfl tyA33.s) ⟨rfl, rfl, trivial⟩ ?_
  refine r_nil (r_next (r_ret (r_toR ?_)))
  obtain rfl := sm1 hF
  exact r_done1 (.inl rfl) Tryz.results116 (rv_cell 0 2 rfl rfl rfl rfl (.agg tyA33) .nil) rfl rfl
abbrev N_gantryref05_Add : Nat := 53
def F_gantryref05_Add (K : Nat) (a0 : GRat) (a1 : GRat) : Option GRat :=
  (F_gantryref05_Den K a1).bind fun v6 => (F_gantryref04_Mul K a0.p v6).bind fun v8 => (F_gantryref05_Den K a0).bind fun v12 => (F_gantryref04_Mul K a1.p v12).bind fun v14 => (F_gantryref04_Add K v8 v14).bind fun v18 => (F_gantryref05_Den K a0).bind fun v20 => (F_gantryref05_Den K a1).bind fun v22 => (F_gantryref04_Mul K v20 v22).bind fun v24 => (F_gantryref05_Make K v18 v24).bind fun v26 => some v26
theorem ct_gantryref05_Add {K : Nat} {a0 : GRat} {a1 : GRat} {r : GRat} (hF : F_gantryref05_Add K a0 a1 = some r) : Ct Tryz.prog 53 [.va (GRat.e a0), .va (GRat.e a1)] (.va (GRat.e r)) := by
  unfold F_gantryref05_Add at hF
  refine ctO_intro Tryz.func53 rfl (by kernel_rfl) Tryz.ntmps53 rfl (fun w0 M0 => ?_)
  refine r_seq (r_reg (r_box rfl rfl trivial (fun b1 => ?_)))
  refine r_box rfl rfl trivial (fun b2 => ?_)
  refine r_alloc rfl tyZ35 (fun b3 => ?_)
  refine r_nil (r_next (r_seq ?_))
  obtain ⟨v6, h7, hF⟩ := bnd hF
  obtain ⟨v8, h9, hF⟩ := bnd hF
  refine r_draw [0, 1, 0, 4, 15, 0, 63] 6 1 [.v (.vc (pP (some b1) 0)), .v (.va (GInt.e a0.p)), .v (.va (GRat.e a1)), .v (.va (GInt.e v6)), .v (.va (GInt.e v8)), .a 33 ([pB false] ++ [pS cI ([] : List Int)])] Tryz_mixed ⟨d0 (t_fa (off := 0) (k := 0) rfl tyF35_0) ⟨rfl, trivial⟩, d0 (t_l 2 2 rfl rfl rfl rfl (.agg tyA33)) ⟨rfl, trivial⟩, d0 (t_l 1 4 rfl rfl rfl rfl (.agg tyA35)) ⟨rfl, trivial⟩, d0 (t_call rfl (ct_gantryref05_Den h7) rfl) ⟨rfl, trivial⟩, d0 (t_call rfl (ct_gantryref04_Mul h9) rfl) ⟨rfl, rfl, trivial⟩, ⟨rfl, .alc tyZ33⟩, trivial⟩ (fun bs5 G4 => ?_)
  refine r_op0 (t_s 0 rfl rfl rfl tyA33.s) ⟨rfl, rfl, trivial⟩ ?_
  refine r_nil (r_next (r_seq ?_))
  obtain ⟨v12, h13, hF⟩ := bnd hF
  obtain ⟨v14, h15, hF⟩ := bnd hF
  refine r_draw [0, 1, 0, 4, 15, 0, 63] 6 1 [.v (.vc (pP (some b2) 0)), .v (.va (GInt.e a1.p)), .v (.va (GRat.e a0)), .v (.va (GInt.e v12)), .v (.va (GInt.e v14)), .a 33 ([pB false] ++ [pS cI ([] : List Int)])] Tryz_mixed ⟨d0 (t_fa (off := 0) (k := 0) rfl tyF35_0) ⟨rfl, trivial⟩, d0 (t_l 2 2 rfl rfl rfl rfl (.agg tyA33)) ⟨rfl, trivial⟩, d0 (t_l 3 4 rfl rfl rfl rfl (.agg tyA35)) ⟨rfl, trivial⟩, d0 (t_call rfl (ct_gantryref05_Den h13) rfl) ⟨rfl, trivial⟩, d0 (t_call rfl (ct_gantryref04_Mul h15) rfl) ⟨rfl, rfl, trivial⟩, ⟨rfl, .alc tyZ33⟩, trivial⟩ (fun bs11 G10 => ?_)
  refine r_op0 (t_s 0 rfl rfl rfl tyA33.s) ⟨rfl, rfl, trivial⟩ ?_
  refine r_nil (r_next (r_seq ?_))
  obtain ⟨v18, h19, hF⟩ := bnd hF
  obtain ⟨v20, h21, hF⟩ := bnd hF
  obtain ⟨v22, h23, hF⟩ := bnd hF
  obtain ⟨v24, h25, hF⟩ := bnd hF
  obtain ⟨v26, h27, hF⟩ := bnd hF
  refine r_draw [0, 0, 3, 0, 15, 0, 63, 127, 255, 511] 9 1 [.v (.va (GInt.e v8)), .v (.va (GInt.e v14)), .v (.va (GInt.e v18)), .v (.va (GRat.e a0)), .v (.va (GInt.e v20)), .v (.va (GRat.e a1)), .v (.va (GInt.e v22)), .v (.va (GInt.e v24)), .v (.va (GRat.e v26))] Tryz_mixed ⟨d0 (t_l 1 2 rfl rfl rfl rfl (.agg tyA33)) ⟨rfl, trivial⟩, d0 (t_l 0 2 rfl rfl rfl rfl (.agg tyA33)) ⟨rfl, trivial⟩, d0 (t_call rfl (ct_gantryref04_Add h19) rfl) ⟨rfl, rfl, trivial⟩, d0 (t_l 4 4 rfl rfl rfl rfl (.agg tyA35)) ⟨rfl, trivial⟩, d0 (t_call rfl (ct_gantryref05_Den h21) rfl) ⟨rfl, trivial⟩, d0 (t_l 3 4 rfl rfl rfl rfl (.agg tyA35)) ⟨rfl, trivial⟩, d0 (t_call rfl (ct_gantryref05_Den h23) rfl) ⟨rfl, trivial⟩, d0 (t_call rfl (ct_gantryref04_Mul h25) rfl) ⟨rfl, rfl, trivial⟩, d0 (t_call rfl (ct_gantryref05_Make h27) rfl) ⟨rfl, rfl, trivial⟩, trivial⟩ (fun bs17 G16 => ?_)
  refine r_op0 (t_s 2 rfl rfl rfl tyA35.s) ⟨rfl, rfl, trivial⟩ ?_
  refine r_nil (r_next (r_ret (r_toR ?_)))
  obtain rfl := sm1 hF
  exact r_done1 (.inl rfl) Tryz.results53 (rv_cell 2 4 rfl rfl rfl rfl (.agg tyA35) .nil) rfl rfl
abbrev N_gantryref05_Sign : Nat := 65
def F_gantryref05_Sign (K : Nat) (a0 : GRat) : Option Int :=
  (F_gantryref04_Sign K a0.p).bind fun v2 => some v2
theorem ct_gantryref05_Sign {K : Nat} {a0 : GRat} {r : Int} (hF : F_gantryref05_Sign K a0 = some r) : Ct Tryz.prog 65 [.va (GRat.e a0)] (.vc (pI .i64 r)) := by
  unfold F_gantryref05_Sign at hF
  refine ctO_intro Tryz.func65 rfl (by kernel_rfl) Tryz.ntmps65 rfl (fun w0 M0 => ?_)
  refine r_seq (r_reg (r_box rfl rfl trivial (fun b1 => ?_)))
  refine r_op (t_mv (.inr rfl)) ⟨k_I _ _, trivial⟩ ?_
  refine r_nil (r_next (r_seq (r_reg (r_op (t_fa (off := 0) (k := 0) rfl tyF35_0) ⟨rfl, trivial⟩ ?_))))
  refine r_op (t_l 0 2 rfl rfl rfl rfl (.agg tyA33)) ⟨rfl, trivial⟩ ?_
  obtain ⟨v2, h3, hF⟩ := bnd hF
  refine r_op (t_call rfl (ct_gantryref04_Sign h3) rfl) ⟨rfl, trivial⟩ ?_
  refine r_as ?_
  refine r_nil (r_next (r_ret (r_toR ?_)))
  obtain rfl := sm1 hF
  exact r_done1 (.inl rfl) Tryz.results65 (.tmp rfl .nil) rfl rfl
abbrev N_rat_Div : Nat := 71
def F_rat_Div (K : Nat) (a0 : GRat) (a1 : GRat) : Option GRat :=
  bif ((a1.p.d.length : Int) == 0) then (some (⟨(⟨false, ([] : List Int)⟩ : GInt), (⟨false, ([] : List Int)⟩ : GInt)⟩ : GRat)) else ((F_rat_Den a1).bind fun v7 => (F_rat_lowest v7 a1.p).bind fun v9 => (F_rat_Mul K a0 v9).bind fun v11 => some v11)
theorem ct_rat_Div {K : Nat} {a0 : GRat} {a1 : GRat} {r : GRat} (hF : F_rat_Div K a0 a1 = some r) : Ct Tryz.prog 71 [.va (GRat.e a0), .va (GRat.e a1)] (.va (GRat.e r)) := by
  unfold F_rat_Div at hF
  refine ctO_intro Tryz.func71 rfl (by kernel_rfl) Tryz.ntmps71 rfl (fun w0 M0 => ?_)
  refine r_seq (r_reg (r_box rfl rfl trivial (fun b1 => ?_)))
  refine r_box rfl rfl trivial (fun b2 => ?_)
  refine r_alloc rfl tyZ35 (fun b3 => ?_)
  refine r_nil (r_next (r_seq (r_seq (r_reg (r_op (t_fa (off := 0) (k := 0) rfl tyF35_0) ⟨rfl, trivial⟩ ?_)))))
  refine r_op (t_fa (off := 0) (k := 1) rfl tyF33_1) ⟨rfl, trivial⟩ ?_
  refine r_op (t_l 1 1 rfl rfl rfl rfl (.one tyO22)) ⟨rfl, trivial⟩ ?_
  refine r_op (t_ln rfl tyS22) ⟨rfl, trivial⟩ ?_
  refine r_op (t_eq rfl) ⟨rfl, k_I _ _, trivial⟩ ?_
  refine r_nil (r_next (r_if rfl (fun h4 => ?_) (fun h4 => ?_)))
  · have hF := cnd_t h4 hF
    refine r_seq (r_reg (r_op (t_bld (is := []) (xs := []) (ps := []) rfl tyB35 rfl rfl trivial rfl) trivial ?_))
    refine r_op0 (t_s 0 rfl rfl rfl tyA35.s) ⟨rfl, rfl, trivial⟩ ?_
    refine r_nil (r_next (r_ret (r_toR ?_)))
    obtain rfl := sm1 hF
    exact r_done1 (.inl rfl) Tryz.results71 (rv_cell 0 4 rfl rfl rfl rfl (.agg tyA35) .nil) rfl rfl
  have hF := cnd_f h4 hF
  refine r_skip (r_next (r_seq ?_))
  obtain ⟨v7, h8, hF⟩ := bnd hF
  obtain ⟨v9, h10, hF⟩ := bnd hF
  obtain ⟨v11, h12, hF⟩ := bnd hF
  refine r_draw [0, 0, 2, 0, 8, 30, 63, 127] 7 1 [.v (.va (GRat.e a0)), .v (.va (GRat.e a1)), .v (.va (GInt.e v7)), .v (.vc (pP (some b2) 0)), .v (.va (GInt.e a1.p)), .v (.va (GRat.e v9)), .v (.va (GRat.e v11))] Tryz_mixed ⟨d0 (t_l 2 4 rfl rfl rfl rfl (.agg tyA35)) ⟨rfl, trivial⟩, d0 (t_l 1 4 rfl rfl rfl rfl (.agg tyA35)) ⟨rfl, trivial⟩, d0 (t_call rfl (ct_rat_Den h8) rfl) ⟨rfl, trivial⟩, d0 (t_fa (off := 0) (k := 0) rfl tyF35_0) ⟨rfl, trivial⟩, d0 (t_l 1 2 rfl rfl rfl rfl (.agg tyA33)) ⟨rfl, trivial⟩, d0 (t_call rfl (ct_rat_lowest h10) rfl) ⟨rfl, rfl, trivial⟩, d0 (t_call rfl (ct_rat_Mul h12) rfl) ⟨rfl, rfl, trivial⟩, trivial⟩ (fun bs6 G5 => ?_)
  refine r_op0 (t_s 0 rfl rfl rfl tyA35.s) ⟨rfl, rfl, trivial⟩ ?_
  refine r_nil (r_next (r_ret (r_toR ?_)))
  obtain rfl := sm1 hF
  exact r_done1 (.inl rfl) Tryz.results71 (rv_cell 0 4 rfl rfl rfl rfl (.agg tyA35) .nil) rfl rfl
abbrev N_gantryref05_Mul : Nat := 73
def F_gantryref05_Mul (K : Nat) (a0 : GRat) (a1 : GRat) : Option GRat :=
  (F_gantryref04_Mul K a0.p a1.p).bind fun v6 => (F_gantryref05_Den K a0).bind fun v8 => (F_gantryref05_Den K a1).bind fun v10 => (F_gantryref04_Mul K v8 v10).bind fun v12 => (F_gantryref05_Make K v6 v12).bind fun v14 => some v14
theorem ct_gantryref05_Mul {K : Nat} {a0 : GRat} {a1 : GRat} {r : GRat} (hF : F_gantryref05_Mul K a0 a1 = some r) : Ct Tryz.prog 73 [.va (GRat.e a0), .va (GRat.e a1)] (.va (GRat.e r)) := by
  unfold F_gantryref05_Mul at hF
  refine ctO_intro Tryz.func73 rfl (by kernel_rfl) Tryz.ntmps73 rfl (fun w0 M0 => ?_)
  refine r_seq (r_reg (r_box rfl rfl trivial (fun b1 => ?_)))
  refine r_box rfl rfl trivial (fun b2 => ?_)
  refine r_alloc rfl tyZ35 (fun b3 => ?_)
  refine r_nil (r_next (r_seq ?_))
  obtain ⟨v6, h7, hF⟩ := bnd hF
  obtain ⟨v8, h9, hF⟩ := bnd hF
  obtain ⟨v10, h11, hF⟩ := bnd hF
  obtain ⟨v12, h13, hF⟩ := bnd hF
  obtain ⟨v14, h15, hF⟩ := bnd hF
  refine r_draw [0, 1, 0, 4, 15, 0, 63, 0, 255, 511, 1023, 2047] 11 1 [.v (.vc (pP (some b1) 0)), .v (.va (GInt.e a0.p)), .v (.vc (pP (some b2) 0)), .v (.va (GInt.e a1.p)), .v (.va (GInt.e v6)), .v (.va (GRat.e a0)), .v (.va (GInt.e v8)), .v (.va (GRat.e a1)), .v (.va (GInt.e v10)), .v (.va (GInt.e v12)), .v (.va (GRat.e v14))] Tryz_mixed ⟨d0 (t_fa (off := 0) (k := 0) rfl tyF35_0) ⟨rfl, trivial⟩, d0 (t_l 2 2 rfl rfl rfl rfl (.agg tyA33)) ⟨rfl, trivial⟩, d0 (t_fa (off := 0) (k := 0) rfl tyF35_0) ⟨rfl, trivial⟩, d0 (t_l 1 2 rfl rfl rfl rfl (.agg tyA33)) ⟨rfl, trivial⟩, d0 (t_call rfl (ct_gantryref04_Mul h7) rfl) ⟨rfl, rfl, trivial⟩, d0 (t_l 2 4 rfl rfl rfl rfl (.agg tyA35)) ⟨rfl, trivial⟩, d0 (t_call rfl (ct_gantryref05_Den h9) rfl) ⟨rfl, trivial⟩, d0 (t_l 1 4 rfl rfl rfl rfl (.agg tyA35)) ⟨rfl, trivial⟩, d0 (t_call rfl (ct_gantryref05_Den h11) rfl) ⟨rfl, trivial⟩, d0 (t_call rfl (ct_gantryref04_Mul h13) rfl) ⟨rfl, rfl, trivial⟩, d0 (t_call rfl (ct_gantryref05_Make h15) rfl) ⟨rfl, rfl, trivial⟩, trivial⟩ (fun bs5 G4 => ?_)
  refine r_op0 (t_s 0 rfl rfl rfl tyA35.s) ⟨rfl, rfl, trivial⟩ ?_
  refine r_nil (r_next (r_ret (r_toR ?_)))
  obtain rfl := sm1 hF
  exact r_done1 (.inl rfl) Tryz.results73 (rv_cell 0 4 rfl rfl rfl rfl (.agg tyA35) .nil) rfl rfl
abbrev N_gantryref05_Div : Nat := 74
def F_gantryref05_Div (K : Nat) (a0 : GRat) (a1 : GRat) : Option GRat :=
  (F_gantryref05_Den K a1).bind fun v6 => (F_gantryref04_Mul K a0.p v6).bind fun v8 => (F_gantryref05_Den K a0).bind fun v10 => (F_gantryref04_Mul K v10 a1.p).bind fun v12 => (F_gantryref05_Make K v8 v12).bind fun v14 => some v14
theorem ct_gantryref05_Div {K : Nat} {a0 : GRat} {a1 : GRat} {r : GRat} (hF : F_gantryref05_Div K a0 a1 = some r) : Ct Tryz.prog 74 [.va (GRat.e a0), .va (GRat.e a1)] (.va (GRat.e r)) := by
  unfold F_gantryref05_Div at hF
  refine ctO_intro Tryz.func74 rfl (by kernel_rfl) Tryz.ntmps74 rfl (fun w0 M0 => ?_)
  refine r_seq (r_reg (r_box rfl rfl trivial (fun b1 => ?_)))
  refine r_box rfl rfl trivial (fun b2 => ?_)
  refine r_alloc rfl tyZ35 (fun b3 => ?_)
  refine r_nil (r_next (r_seq ?_))
  obtain ⟨v6, h7, hF⟩ := bnd hF
  obtain ⟨v8, h9, hF⟩ := bnd hF
  obtain ⟨v10, h11, hF⟩ := bnd hF
  obtain ⟨v12, h13, hF⟩ := bnd hF
  obtain ⟨v14, h15, hF⟩ := bnd hF
  refine r_draw [0, 1, 0, 4, 15, 0, 63, 0, 128, 511, 1023, 2047] 11 1 [.v (.vc (pP (some b1) 0)), .v (.va (GInt.e a0.p)), .v (.va (GRat.e a1)), .v (.va (GInt.e v6)), .v (.va (GInt.e v8)), .v (.va (GRat.e a0)), .v (.va (GInt.e v10)), .v (.vc (pP (some b2) 0)), .v (.va (GInt.e a1.p)), .v (.va (GInt.e v12)), .v (.va (GRat.e v14))] Tryz_mixed ⟨d0 (t_fa (off := 0) (k := 0) rfl tyF35_0) ⟨rfl, trivial⟩, d0 (t_l 2 2 rfl rfl rfl rfl (.agg tyA33)) ⟨rfl, trivial⟩, d0 (t_l 1 4 rfl rfl rfl rfl (.agg tyA35)) ⟨rfl, trivial⟩, d0 (t_call rfl (ct_gantryref05_Den h7) rfl) ⟨rfl, trivial⟩, d0 (t_call rfl (ct_gantryref04_Mul h9) rfl) ⟨rfl, rfl, trivial⟩, d0 (t_l 2 4 rfl rfl rfl rfl (.agg tyA35)) ⟨rfl, trivial⟩, d0 (t_call rfl (ct_gantryref05_Den h11) rfl) ⟨rfl, trivial⟩, d0 (t_fa (off := 0) (k := 0) rfl tyF35_0) ⟨rfl, trivial⟩, d0 (t_l 1 2 rfl rfl rfl rfl (.agg tyA33)) ⟨rfl, trivial⟩, d0 (t_call rfl (ct_gantryref04_Mul h13) rfl) ⟨rfl, rfl, trivial⟩, d0 (t_call rfl (ct_gantryref05_Make h15) rfl) ⟨rfl, rfl, trivial⟩, trivial⟩ (fun bs5 G4 => ?_)
  refine r_op0 (t_s 0 rfl rfl rfl tyA35.s) ⟨rfl, rfl, trivial⟩ ?_
  refine r_nil (r_next (r_ret (r_toR ?_)))
  obtain rfl := sm1 hF
  exact r_done1 (.inl rfl) Tryz.results74 (rv_cell 0 4 rfl rfl rfl rfl (.agg tyA35) .nil) rfl rfl
def F_rat_Add (K : Nat) (a0 : GRat) (a1 : GRat) : Option GRat :=
  bif ((a0.q.d.length : Int) == 0) then (bif ((a1.q.d.length : Int) == 0) then ((F_integer_Add K a0.p a1.p).bind fun v6 => some (⟨v6, (⟨false, ([] : List Int)⟩ : GInt)⟩ : GRat)) else (bif ((a0.p.d.length : Int) == 0) then (some a1) else (bif ((a1.p.d.length : Int) == 0) then (some a0) else ((F_rat_Den a0).bind fun v12 => (F_rat_Den a1).bind fun v14 => (F_integer_Mul K a0.p v14).bind fun v18 => (F_integer_Mul K a1.p v12).bind fun v20 => (F_integer_Add K v18 v20).bind fun v22 => (F_integer_Mul K v12 v14).bind fun v24 => (F_rat_Make K v22 v24).bind fun v26 => some v26)))) else (bif ((a0.p.d.length : Int) == 0) then (some a1) else (bif ((a1.p.d.length : Int) == 0) then (some a0) else ((F_rat_Den a0).bind fun v32 => (F_rat_Den a1).bind fun v34 => (F_integer_Mul K a0.p v34).bind fun v38 => (F_integer_Mul K a1.p v32).bind fun v40 => (F_integer_Add K v38 v40).bind fun v42 => (F_integer_Mul K v32 v34).bind fun v44 => (F_rat_Make K v42 v44).bind fun v46 => some v46)))
theorem ct_rat_Add {K : Nat} {a0 : GRat} {a1 : GRat} {r : GRat} (hF : F_rat_Add K a0 a1 = some r) : Ct Tryz.prog 78 [.va (GRat.e a0), .va (GRat.e a1)] (.va (GRat.e r)) := by
  unfold F_rat_Add at hF
  refine ctO_intro Tryz.func78 rfl (by kernel_rfl) Tryz.ntmps78 rfl (fun w0 M0 => ?_)
  refine r_seq (r_reg (r_box rfl rfl trivial (fun b1 => ?_)))
  refine r_box rfl rfl trivial (fun b2 => ?_)
  refine r_alloc rfl tyZ35 (fun b3 => ?_)
  refine r_nil (r_next (r_seq (r_blk (r_seq (r_reg (r_op (t_fa (off := 0) (k := 2) rfl tyF35_1) ⟨rfl, trivial⟩ ?_))))))
  refine r_op (t_fa (off := 2) (k := 1) rfl tyF33_1) ⟨rfl, trivial⟩ ?_
  refine r_op (t_l 2 1 rfl rfl rfl rfl (.one tyO22)) ⟨rfl, trivial⟩ ?_
  refine r_op (t_ln rfl tyS22) ⟨rfl, trivial⟩ ?_
  refine r_op (t_eq rfl) ⟨rfl, k_I _ _, trivial⟩ ?_
  refine r_mv ?_
  refine r_bool (fun h4 => ?_) (fun h4 => ?_)
  · have hF := cnd_t h4 hF
    refine r_opg (t_fa (off := 0) (k := 2) rfl tyF35_1) ⟨rfl, trivial⟩ ?_
    refine r_opg (t_fa (off := 2) (k := 1) rfl tyF33_1) ⟨rfl, trivial⟩ ?_
    refine r_opg (t_l 1 1 rfl rfl rfl rfl (.one tyO22)) ⟨rfl, trivial⟩ ?_
    refine r_opg (t_ln rfl tyS22) ⟨rfl, trivial⟩ ?_
    refine r_opg (t_eq rfl) ⟨rfl, k_I _ _, trivial⟩ ?_
    refine r_op (t_pickT rfl) ⟨rfl, rfl, trivial⟩ ?_
    refine r_as ?_
    refine r_nil (r_next (r_if rfl (fun h5 => ?_) (fun h5 => ?_)))
    · have hF := cnd_t h5 hF
      refine r_seq (r_reg (r_op (t_fa (off := 0) (k := 0) rfl tyF35_0) ⟨rfl, trivial⟩ ?_))
      refine r_op (t_l 2 2 rfl rfl rfl rfl (.agg tyA33)) ⟨rfl, trivial⟩ ?_
      refine r_op (t_fa (off := 0) (k := 0) rfl tyF35_0) ⟨rfl, trivial⟩ ?_
      refine r_op (t_l 1 2 rfl rfl rfl rfl (.agg tyA33)) ⟨rfl, trivial⟩ ?_
      obtain ⟨v6, h7, hF⟩ := bnd hF
      refine r_op (t_call rfl (ct_integer_Add h7) rfl) ⟨rfl, rfl, trivial⟩ ?_
      refine r_op (t_bld (is := [0]) (xs := [.tmp 24]) (ps := [.va (GInt.e v6)]) rfl tyB35 rfl rfl ⟨trivial, trivial⟩ rfl) ⟨rfl, trivial⟩ ?_
      refine r_op0 (t_s 0 rfl rfl rfl tyA35.s) ⟨rfl, rfl, trivial⟩ ?_
      refine r_nil (r_next (r_ret (r_toR ?_)))
      obtain rfl := sm1 hF
      exact r_done1 (.inl rfl) Tryz.results78 (rv_cell 0 4 rfl rfl rfl rfl (.agg tyA35) .nil) rfl rfl
    have hF := cnd_f h5 hF
    refine r_seq (r_reg (r_op (t_fa (off := 0) (k := 0) rfl tyF35_0) ⟨rfl, trivial⟩ ?_))
    refine r_op (t_fa (off := 0) (k := 1) rfl tyF33_1) ⟨rfl, trivial⟩ ?_
    refine r_op (t_l 2 1 rfl rfl rfl rfl (.one tyO22)) ⟨rfl, trivial⟩ ?_
    refine r_op (t_ln rfl tyS22) ⟨rfl, trivial⟩ ?_
    refine r_op (t_eq rfl) ⟨rfl, k_I _ _, trivial⟩ ?_
    refine r_as ?_
    refine r_nil (r_next (r_if rfl (fun h8 => ?_) (fun h8 => ?_)))
    · have hF := cnd_t h8 hF
      refine r_seq (r_reg (r_op (t_l 1 4 rfl rfl rfl rfl (.agg tyA35)) ⟨rfl, trivial⟩ ?_))
      refine r_op0 (t_s 0 rfl rfl rfl tyA35.s) ⟨rfl, rfl, trivial⟩ ?_
      refine r_nil (r_next (r_ret (r_toR ?_)))
      obtain rfl := sm1 hF
      exact r_done1 (.inl rfl) Tryz.results78 (rv_cell 0 4 rfl rfl rfl rfl (.agg tyA35) .nil) rfl rfl
    have hF := cnd_f h8 hF
    refine r_seq (r_reg (r_op (t_fa (off := 0) (k := 0) rfl tyF35_0) ⟨rfl, trivial⟩ ?_))
    refine r_op (t_fa (off := 0) (k := 1) rfl tyF33_1) ⟨rfl, trivial⟩ ?_
    refine r_op (t_l 1 1 rfl rfl rfl rfl (.one tyO22)) ⟨rfl, trivial⟩ ?_
    refine r_op (t_ln rfl tyS22) ⟨rfl, trivial⟩ ?_
    refine r_op (t_eq rfl) ⟨rfl, k_I _ _, trivial⟩ ?_
    refine r_as ?_
    refine r_nil (r_next (r_if rfl (fun h9 => ?_) (fun h9 => ?_)))
    · have hF := cnd_t h9 hF
      refine r_seq (r_reg (r_op (t_l 2 4 rfl rfl rfl rfl (.agg tyA35)) ⟨rfl, trivial⟩ ?_))
      refine r_op0 (t_s 0 rfl rfl rfl tyA35.s) ⟨rfl, rfl, trivial⟩ ?_
      refine r_nil (r_next (r_ret (r_toR ?_)))
      obtain rfl := sm1 hF
      exact r_done1 (.inl rfl) Tryz.results78 (rv_cell 0 4 rfl rfl rfl rfl (.agg tyA35) .nil) rfl rfl
    have hF := cnd_f h9 hF
    refine r_skip (r_blkN (r_next (r_seq ?_)))
    obtain ⟨v12, h13, hF⟩ := bnd hF
    obtain ⟨v14, h15, hF⟩ := bnd hF
    refine r_draw [0, 1, 0, 7, 0, 0, 63, 127] 6 2 [.v (.va (GRat.e a0)), .v (.va (GInt.e v12)), .v (.va (GRat.e a1)), .v (.va (GInt.e v14)), .a 33 ([pB false] ++ [pS cI ([] : List Int)]), .a 33 ([pB false] ++ [pS cI ([] : List Int)])] Tryz_mixed ⟨d0 (t_l 2 4 rfl rfl rfl rfl (.agg tyA35)) ⟨rfl, trivial⟩, d0 (t_call rfl (ct_rat_Den h13) rfl) ⟨rfl, trivial⟩, d0 (t_l 1 4 rfl rfl rfl rfl (.agg tyA35)) ⟨rfl, trivial⟩, d0 (t_call rfl (ct_rat_Den h15) rfl) ⟨rfl, trivial⟩, ⟨rfl, .alc tyZ33⟩, ⟨rfl, .alc tyZ33⟩, trivial⟩ (fun bs11 G10 => ?_)
    refine r_op0 (t_s 0 rfl rfl rfl tyA33.s) ⟨rfl, rfl, trivial⟩ ?_
    refine r_op0 (t_s 1 rfl rfl rfl tyA33.s) ⟨rfl, rfl, trivial⟩ ?_
    refine r_nil (r_next (r_seq ?_))
    obtain ⟨v18, h19, hF⟩ := bnd hF
    obtain ⟨v20, h21, hF⟩ := bnd hF
    obtain ⟨v22, h23, hF⟩ := bnd hF
    obtain ⟨v24, h25, hF⟩ := bnd hF
    obtain ⟨v26, h27, hF⟩ := bnd hF
    refine r_draw [0, 1, 0, 7, 0, 16, 0, 127, 255, 0, 0, 2047, 4095, 8191] 13 1 [.v (.vc (pP (some b1) 0)), .v (.va (GInt.e a0.p)), .v (.va (GInt.e v14)), .v (.va (GInt.e v18)), .v (.vc (pP (some b2) 0)), .v (.va (GInt.e a1.p)), .v (.va (GInt.e v12)), .v (.va (GInt.e v20)), .v (.va (GInt.e v22)), .v (.va (GInt.e v12)), .v (.va (GInt.e v14)), .v (.va (GInt.e v24)), .v (.va (GRat.e v26))] Tryz_mixed ⟨d0 (t_fa (off := 0) (k := 0) rfl tyF35_0) ⟨rfl, trivial⟩, d0 (t_l 4 2 rfl rfl rfl rfl (.agg tyA33)) ⟨rfl, trivial⟩, d0 (t_l 1 2 rfl rfl rfl rfl (.agg tyA33)) ⟨rfl, trivial⟩, d0 (t_call rfl (ct_integer_Mul h19) rfl) ⟨rfl, rfl, trivial⟩, d0 (t_fa (off := 0) (k := 0) rfl tyF35_0) ⟨rfl, trivial⟩, d0 (t_l 3 2 rfl rfl rfl rfl (.agg tyA33)) ⟨rfl, trivial⟩, d0 (t_l 0 2 rfl rfl rfl rfl (.agg tyA33)) ⟨rfl, trivial⟩, d0 (t_call rfl (ct_integer_Mul h21) rfl) ⟨rfl, rfl, trivial⟩, d0 (t_call rfl (ct_integer_Add h23) rfl) ⟨rfl, rfl, trivial⟩, d0 (t_l 0 2 rfl rfl rfl rfl (.agg tyA33)) ⟨rfl, trivial⟩, d0 (t_l 1 2 rfl rfl rfl rfl (.agg tyA33)) ⟨rfl, trivial⟩, d0 (t_call rfl (ct_integer_Mul h25) rfl) ⟨rfl, rfl, trivial⟩, d0 (t_call rfl (ct_rat_Make h27) rfl) ⟨rfl, rfl, trivial⟩, trivial⟩ (fun bs17 G16 => ?_)
    refine r_op0 (t_s 2 rfl rfl rfl tyA35.s) ⟨rfl, rfl, trivial⟩ ?_
    refine r_nil (r_next (r_ret (r_toR ?_)))
    obtain rfl := sm1 hF
    exact r_done1 (.inl rfl) Tryz.results78 (rv_cell 2 4 rfl rfl rfl rfl (.agg tyA35) .nil) rfl rfl
  have hF := cnd_f h4 hF
  refine r_opn ?_
  refine r_opn ?_
  refine r_opn ?_
  refine r_opn ?_
  refine r_opn ?_
  refine r_op (t_pickF rfl) ⟨rfl, k_B _, trivial⟩ ?_
  refine r_as ?_
  refine r_nil (r_next (r_ifF rfl ?_))
  refine r_seq (r_reg (r_op (t_fa (off := 0) (k := 0) rfl tyF35_0) ⟨rfl, trivial⟩ ?_))
  refine r_op (t_fa (off := 0) (k := 1) rfl tyF33_1) ⟨rfl, trivial⟩ ?_
  refine r_op (t_l 2 1 rfl rfl rfl rfl (.one tyO22)) ⟨rfl, trivial⟩ ?_
  refine r_op (t_ln rfl tyS22) ⟨rfl, trivial⟩ ?_
  refine r_op (t_eq rfl) ⟨rfl, k_I _ _, trivial⟩ ?_
  refine r_as ?_
  refine r_nil (r_next (r_if rfl (fun h28 => ?_) (fun h28 => ?_)))
  · have hF := cnd_t h28 hF
    refine r_seq (r_reg (r_op (t_l 1 4 rfl rfl rfl rfl (.agg tyA35)) ⟨rfl, trivial⟩ ?_))
    refine r_op0 (t_s 0 rfl rfl rfl tyA35.s) ⟨rfl, rfl, trivial⟩ ?_
    refine r_nil (r_next (r_ret (r_toR ?_)))
    obtain rfl := sm1 hF
    exact r_done1 (.inl rfl) Tryz.results78 (rv_cell 0 4 rfl rfl rfl rfl (.agg tyA35) .nil) rfl rfl
  have hF := cnd_f h28 hF
  refine r_seq (r_reg (r_op (t_fa (off := 0) (k := 0) rfl tyF35_0) ⟨rfl, trivial⟩ ?_))
  refine r_op (t_fa (off := 0) (k := 1) rfl tyF33_1) ⟨rfl, trivial⟩ ?_
  refine r_op (t_l 1 1 rfl rfl rfl rfl (.one tyO22)) ⟨rfl, trivial⟩ ?_
  refine r_op (t_ln rfl tyS22) ⟨rfl, trivial⟩ ?_
  refine r_op (t_eq rfl) ⟨rfl, k_I _ _, trivial⟩ ?_
  refine r_as ?_
  refine r_nil (r_next (r_if rfl (fun h29 => ?_) (fun h29 => ?_)))
  · have hF := cnd_t h29 hF
    refine r_seq (r_reg (r_op (t_l 2 4 rfl rfl rfl rfl (.agg tyA35)) ⟨rfl, trivial⟩ ?_))
    refine r_op0 (t_s 0 rfl rfl rfl tyA35.s) ⟨rfl, rfl, trivial⟩ ?_
    refine r_nil (r_next (r_ret (r_toR ?_)))
    obtain rfl := sm1 hF
    exact r_done1 (.inl rfl) Tryz.results78 (rv_cell 0 4 rfl rfl rfl rfl (.agg tyA35) .nil) rfl rfl
  have hF := cnd_f h29 hF
  refine r_skip (r_blkN (r_next (r_seq ?_)))
  obtain ⟨v32, h33, hF⟩ := bnd hF
  obtain ⟨v34, h35, hF⟩ := bnd hF
  refine r_draw [0, 1, 0, 7, 0, 0, 63, 127] 6 2 [.v (.va (GRat.e a0)), .v (.va (GInt.e v32)), .v (.va (GRat.e a1)), .v (.va (GInt.e v34)), .a 33 ([pB false] ++ [pS cI ([] : List Int)]), .a 33 ([pB false] ++ [pS cI ([] : List Int)])] Tryz_mixed ⟨d0 (t_l 2 4 rfl rfl rfl rfl (.agg tyA35)) ⟨rfl, trivial⟩, d0 (t_call rfl (ct_rat_Den h33) rfl) ⟨rfl, trivial⟩, d0 (t_l 1 4 rfl rfl rfl rfl (.agg tyA35)) ⟨rfl, trivial⟩, d0 (t_call rfl (ct_rat_Den h35) rfl) ⟨rfl, trivial⟩, ⟨rfl, .alc tyZ33⟩, ⟨rfl, .alc tyZ33⟩, trivial⟩ (fun bs31 G30 => ?_)
  refine r_op0 (t_s 0 rfl rfl rfl tyA33.s) ⟨rfl, rfl, trivial⟩ ?_
  refine r_op0 (t_s 1 rfl rfl rfl tyA33.s) ⟨rfl, rfl, trivial⟩ ?_
  refine r_nil (r_next (r_seq ?_))
  obtain ⟨v38, h39, hF⟩ := bnd hF
  obtain ⟨v40, h41, hF⟩ := bnd hF
  obtain ⟨v42, h43, hF⟩ := bnd hF
  obtain ⟨v44, h45, hF⟩ := bnd hF
  obtain ⟨v46, h47, hF⟩ := bnd hF
  refine r_draw [0, 1, 0, 7, 0, 16, 0, 127, 255, 0, 0, 2047, 4095, 8191] 13 1 [.v (.vc (pP (some b1) 0)), .v (.va (GInt.e a0.p)), .v (.va (GInt.e v34)), .v (.va (GInt.e v38)), .v (.vc (pP (some b2) 0)), .v (.va (GInt.e a1.p)), .v (.va (GInt.e v32)), .v (.va (GInt.e v40)), .v (.va (GInt.e v42)), .v (.va (GInt.e v32)), .v (.va (GInt.e v34)), .v (.va (GInt.e v44)), .v (.va (GRat.e v46))] Tryz_mixed ⟨d0 (t_fa (off := 0) (k := 0) rfl tyF35_0) ⟨rfl, trivial⟩, d0 (t_l 4 2 rfl rfl rfl rfl (.agg tyA33)) ⟨rfl, trivial⟩, d0 (t_l 1 2 rfl rfl rfl rfl (.agg tyA33)) ⟨rfl, trivial⟩, d0 (t_call rfl (ct_integer_Mul h39) rfl) ⟨rfl, rfl, trivial⟩, d0 (t_fa (off := 0) (k := 0) rfl tyF35_0) ⟨rfl, trivial⟩, d0 (t_l 3 2 rfl rfl rfl rfl (.agg tyA33)) ⟨rfl, trivial⟩, d0 (t_l 0 2 rfl rfl rfl rfl (.agg tyA33)) ⟨rfl, trivial⟩, d0 (t_call rfl (ct_integer_Mul h41) rfl) ⟨rfl, rfl, trivial⟩, d0 (t_call rfl (ct_integer_Add h43) rfl) ⟨rfl, rfl, trivial⟩, d0 (t_l 0 2 rfl rfl rfl rfl (.agg tyA33)) ⟨rfl, trivial⟩, d0 (t_l 1 2 rfl rfl rfl rfl (.agg tyA33)) ⟨rfl, trivial⟩, d0 (t_call rfl (ct_integer_Mul h45) rfl) ⟨rfl, rfl, trivial⟩, d0 (t_call rfl (ct_rat_Make h47) rfl) ⟨rfl, rfl, trivial⟩, trivial⟩ (fun bs37 G36 => ?_)
  refine r_op0 (t_s 2 rfl rfl rfl tyA35.s) ⟨rfl, rfl, trivial⟩ ?_
  refine r_nil (r_next (r_ret (r_toR ?_)))
  obtain rfl := sm1 hF
  exact r_done1 (.inl rfl) Tryz.results78 (rv_cell 2 4 rfl rfl rfl rfl (.agg tyA35) .nil) rfl rfl
abbrev N_rat_Neg : Nat := 112
def F_rat_Neg (a0 : GRat) : Option GRat :=
  (F_integer_Neg a0.p).bind fun v5 => some (⟨v5, a0.q⟩ : GRat)
theorem ct_rat_Neg {a0 : GRat} {r : GRat} (hF : F_rat_Neg a0 = some r) : Ct Tryz.prog 112 [.va (GRat.e a0)] (.va (GRat.e r)) := by
  unfold F_rat_Neg at hF
  refine ctO_intro Tryz.func112 rfl (by kernel_rfl) Tryz.ntmps112 rfl (fun w0 M0 => ?_)
  refine r_seq (r_reg (r_box rfl rfl trivial (fun b1 => ?_)))
  refine r_alloc rfl tyZ35 (fun b2 => ?_)
  refine r_nil (r_next (r_seq ?_))
  obtain ⟨v5, h6, hF⟩ := bnd hF
  refine r_draw [0, 1, 3, 0, 8, 31, 63] 6 1 [.v (.vc (pP (some b1) 0)), .v (.va (GInt.e a0.p)), .v (.va (GInt.e v5)), .v (.vc (pP (some b1) 2)), .v (.va (GInt.e a0.q)), .v (.va ((GInt.e v5) ++ (GInt.e a0.q)))] Tryz_mixed ⟨d0 (t_fa (off := 0) (k := 0) rfl tyF35_0) ⟨rfl, trivial⟩, d0 (t_l 1 2 rfl rfl rfl rfl (.agg tyA33)) ⟨rfl, trivial⟩, d0 (t_call rfl (ct_integer_Neg h6) rfl) ⟨rfl, trivial⟩, d0 (t_fa (off := 0) (k := 2) rfl tyF35_1) ⟨rfl, trivial⟩, d0 (t_l 1 2 rfl rfl rfl rfl (.agg tyA33)) ⟨rfl, trivial⟩, d0 (t_bld (is := [0, 1]) (xs := [.tmp 5, .tmp 7]) (ps := [.va (GInt.e v5), .va (GInt.e a0.q)]) rfl tyB35 rfl rfl ⟨trivial, trivial, trivial⟩ rfl) ⟨rfl, rfl, trivial⟩, trivial⟩ (fun bs4 G3 => ?_)
  refine r_op0 (t_s 0 rfl rfl rfl tyA35.s) ⟨rfl, rfl, trivial⟩ ?_
  refine r_nil (r_next (r_ret (r_toR ?_)))
  obtain rfl := sm1 hF
  exact r_done1 (.inl rfl) Tryz.results112 (rv_cell 0 4 rfl rfl rfl rfl (.agg tyA35) .nil) rfl rfl
abbrev N_rat_Sub : Nat := 90
def F_rat_Sub (K : Nat) (a0 : GRat) (a1 : GRat) : Option GRat :=
  (F_rat_Neg a1).bind fun v6 => (F_rat_Add K a0 v6).bind fun v8 => some v8
theorem ct_rat_Sub {K : Nat} {a0 : GRat} {a1 : GRat} {r : GRat} (hF : F_rat_Sub K a0 a1 = some r) : Ct Tryz.prog 90 [.va (GRat.e a0), .va (GRat.e a1)] (.va (GRat.e r)) := by
  unfold F_rat_Sub at hF
  refine ctO_intro Tryz.func90 rfl (by kernel_rfl) Tryz.ntmps90 rfl (fun w0 M0 => ?_)
  refine r_seq (r_reg (r_box rfl rfl trivial (fun b1 => ?_)))
  refine r_box rfl rfl trivial (fun b2 => ?_)
  refine r_alloc rfl tyZ35 (fun b3 => ?_)
  refine r_nil (r_next (r_seq ?_))
  obtain ⟨v6, h7, hF⟩ := bnd hF
  obtain ⟨v8, h9, hF⟩ := bnd hF
  refine r_draw [0, 0, 2, 7, 15] 4 1 [.v (.va (GRat.e a0)), .v (.va (GRat.e a1)), .v (.va (GRat.e v6)), .v (.va (GRat.e v8))] Tryz_mixed ⟨d0 (t_l 2 4 rfl rfl rfl rfl (.agg tyA35)) ⟨rfl, trivial⟩, d0 (t_l 1 4 rfl rfl rfl rfl (.agg tyA35)) ⟨rfl, trivial⟩, d0 (t_call rfl (ct_rat_Neg h7) rfl) ⟨rfl, trivial⟩, d0 (t_call rfl (ct_rat_Add h9) rfl) ⟨rfl, rfl, trivial⟩, trivial⟩ (fun bs5 G4 => ?_)
  refine r_op0 (t_s 0 rfl rfl rfl tyA35.s) ⟨rfl, rfl, trivial⟩ ?_
  refine r_nil (r_next (r_ret (r_toR ?_)))
  obtain rfl := sm1 hF
  exact r_done1 (.inl rfl) Tryz.results90 (rv_cell 0 4 rfl rfl rfl rfl (.agg tyA35) .nil) rfl rfl
abbrev N_gantryref05_Neg : Nat := 106
def F_gantryref05_Neg (K : Nat) (a0 : GRat) : Option GRat :=
  (F_gantryref04_Neg K a0.p).bind fun v5 => some (⟨v5, a0.q⟩ : GRat)
theorem ct_gantryref05_Neg {K : Nat} {a0 : GRat} {r : GRat} (hF : F_gantryref05_Neg K a0 = some r) : Ct Tryz.prog 106 [.va (GRat.e a0)] (.va (GRat.e r)) := by
  unfold F_gantryref05_Neg at hF
  refine ctO_intro Tryz.func106 rfl (by kernel_rfl) Tryz.ntmps106 rfl (fun w0 M0 => ?_)
  refine r_seq (r_reg (r_box rfl rfl trivial (fun b1 => ?_)))
  refine r_alloc rfl tyZ35 (fun b2 => ?_)
  refine r_nil (r_next (r_seq ?_))
  obtain ⟨v5, h6, hF⟩ := bnd hF
  refine r_draw [0, 1, 3, 0, 8, 31, 63] 6 1 [.v (.vc (pP (some b1) 0)), .v (.va (GInt.e a0.p)), .v (.va (GInt.e v5)), .v (.vc (pP (some b1) 2)), .v (.va (GInt.e a0.q)), .v (.va ((GInt.e v5) ++ (GInt.e a0.q)))] Tryz_mixed ⟨d0 (t_fa (off := 0) (k := 0) rfl tyF35_0) ⟨rfl, trivial⟩, d0 (t_l 1 2 rfl rfl rfl rfl (.agg tyA33)) ⟨rfl, trivial⟩, d0 (t_call rfl (ct_gantryref04_Neg h6) rfl) ⟨rfl, trivial⟩, d0 (t_fa (off := 0) (k := 2) rfl tyF35_1) ⟨rfl, trivial⟩, d0 (t_l 1 2 rfl rfl rfl rfl (.agg tyA33)) ⟨rfl, trivial⟩, d0 (t_bld (is := [0, 1]) (xs := [.tmp 5, .tmp 7]) (ps := [.va (GInt.e v5), .va (GInt.e a0.q)]) rfl tyB35 rfl rfl ⟨trivial, trivial, trivial⟩ rfl) ⟨rfl, rfl, trivial⟩, trivial⟩ (fun bs4 G3 => ?_)
  refine r_op0 (t_s 0 rfl rfl rfl tyA35.s) ⟨rfl, rfl, trivial⟩ ?_
  refine r_nil (r_next (r_ret (r_toR ?_)))
  obtain rfl := sm1 hF
  exact r_done1 (.inl rfl) Tryz.results106 (rv_cell 0 4 rfl rfl rfl rfl (.agg tyA35) .nil) rfl rfl
abbrev N_gantryref05_Sub : Nat := 95
def F_gantryref05_Sub (K : Nat) (a0 : GRat) (a1 : GRat) : Option GRat :=
  (F_gantryref05_Neg K a1).bind fun v6 => (F_gantryref05_Add K a0 v6).bind fun v8 => some v8
theorem ct_gantryref05_Sub {K : Nat} {a0 : GRat} {a1 : GRat} {r : GRat} (hF : F_gantryref05_Sub K a0 a1 = some r) : Ct Tryz.prog 95 [.va (GRat.e a0), .va (GRat.e a1)] (.va (GRat.e r)) := by
  unfold F_gantryref05_Sub at hF
  refine ctO_intro Tryz.func95 rfl (by kernel_rfl) Tryz.ntmps95 rfl (fun w0 M0 => ?_)
  refine r_seq (r_reg (r_box rfl rfl trivial (fun b1 => ?_)))
  refine r_box rfl rfl trivial (fun b2 => ?_)
  refine r_alloc rfl tyZ35 (fun b3 => ?_)
  refine r_nil (r_next (r_seq ?_))
  obtain ⟨v6, h7, hF⟩ := bnd hF
  obtain ⟨v8, h9, hF⟩ := bnd hF
  refine r_draw [0, 0, 2, 7, 15] 4 1 [.v (.va (GRat.e a0)), .v (.va (GRat.e a1)), .v (.va (GRat.e v6)), .v (.va (GRat.e v8))] Tryz_mixed ⟨d0 (t_l 2 4 rfl rfl rfl rfl (.agg tyA35)) ⟨rfl, trivial⟩, d0 (t_l 1 4 rfl rfl rfl rfl (.agg tyA35)) ⟨rfl, trivial⟩, d0 (t_call rfl (ct_gantryref05_Neg h7) rfl) ⟨rfl, trivial⟩, d0 (t_call rfl (ct_gantryref05_Add h9) rfl) ⟨rfl, rfl, trivial⟩, trivial⟩ (fun bs5 G4 => ?_)
  refine r_op0 (t_s 0 rfl rfl rfl tyA35.s) ⟨rfl, rfl, trivial⟩ ?_
  refine r_nil (r_next (r_ret (r_toR ?_)))
  obtain rfl := sm1 hF
  exact r_done1 (.inl rfl) Tryz.results95 (rv_cell 0 4 rfl rfl rfl rfl (.agg tyA35) .nil) rfl rfl
abbrev N_rat_Of : Nat := 111
def F_rat_Of (K : Nat) (a0 : Int) (a1 : Int) : Option GRat :=
  (F_integer_Of a0).bind fun v2 => (F_integer_Of a1).bind fun v4 => (F_rat_Make K v2 v4).bind fun v6 => some v6
theorem ct_rat_Of {K : Nat} {a0 : Int} {a1 : Int} {r : GRat} (hF : F_rat_Of K a0 a1 = some r) : Ct Tryz.prog 111 [.vc (pI .i64 a0), .vc (pI .i64 a1)] (.va (GRat.e r)) := by
  unfold F_rat_Of at hF
  refine ctO_intro Tryz.func111 rfl (by kernel_rfl) Tryz.ntmps111 rfl (fun w0 M0 => ?_)
  refine r_seq (r_reg (r_alloc rfl tyZ35 (fun b1 => ?_)))
  refine r_nil (r_next (r_seq (r_reg (r_mv ?_))))
  obtain ⟨v2, h3, hF⟩ := bnd hF
  refine r_op (t_call rfl (ct_integer_Of h3) rfl) ⟨rfl, trivial⟩ ?_
  refine r_mv ?_
  obtain ⟨v4, h5, hF⟩ := bnd hF
  refine r_op (t_call rfl (ct_integer_Of h5) rfl) ⟨rfl, trivial⟩ ?_
  obtain ⟨v6, h7, hF⟩ := bnd hF
  refine r_op (t_call rfl (ct_rat_Make h7) rfl) ⟨rfl, rfl, trivial⟩ ?_
  refine r_op0 (t_s 0 rfl rfl rfl tyA35.s) ⟨rfl, rfl, trivial⟩ ?_
  refine r_nil (r_next (r_ret (r_toR ?_)))
  obtain rfl := sm1 hF
  exact r_done1 (.inl rfl) Tryz.results111 (rv_cell 0 4 rfl rfl rfl rfl (.agg tyA35) .nil) rfl rfl
abbrev N_gantryref05_Same : Nat := 114
def F_gantryref05_Same (K : Nat) (a0 : GRat) (a1 : GRat) : Option Bool :=
  (F_gantryref04_Same K a0.p a1.p).bind fun v3 => bif v3 then ((F_gantryref04_Same K a0.q a1.q).bind fun v6 => some v6) else (some false)
theorem ct_gantryref05_Same {K : Nat} {a0 : GRat} {a1 : GRat} {r : Bool} (hF : F_gantryref05_Same K a0 a1 = some r) : Ct Tryz.prog 114 [.va (GRat.e a0), .va (GRat.e a1)] (.vc (pB r)) := by
  unfold F_gantryref05_Same at hF
  refine ctO_intro Tryz.func114 rfl (by kernel_rfl) Tryz.ntmps114 rfl (fun w0 M0 => ?_)
  refine r_seq (r_reg (r_box rfl rfl trivial (fun b1 => ?_)))
  refine r_box rfl rfl trivial (fun b2 => ?_)
  refine r_op (t_mv (.inr rfl)) ⟨k_B _, trivial⟩ ?_
  refine r_nil (r_next (r_seq (r_reg (r_op (t_fa (off := 0) (k := 0) rfl tyF35_0) ⟨rfl, trivial⟩ ?_))))
  refine r_op (t_l 1 2 rfl rfl rfl rfl (.agg tyA33)) ⟨rfl, trivial⟩ ?_
  refine r_op (t_fa (off := 0) (k := 0) rfl tyF35_0) ⟨rfl, trivial⟩ ?_
  refine r_op (t_l 0 2 rfl rfl rfl rfl (.agg tyA33)) ⟨rfl, trivial⟩ ?_
  obtain ⟨v3, h4, hF⟩ := bnd hF
  refine r_op (t_call rfl (ct_gantryref04_Same h4) rfl) ⟨rfl, rfl, trivial⟩ ?_
  refine r_mv ?_
  refine r_bool (fun h5 => ?_) (fun h5 => ?_)
  · have hF := cnd_t h5 hF
    refine r_opg (t_fa (off := 0) (k := 2) rfl tyF35_1) ⟨rfl, trivial⟩ ?_
    refine r_opg (t_l 1 2 rfl rfl rfl rfl (.agg tyA33)) ⟨rfl, trivial⟩ ?_
    refine r_opg (t_fa (off := 0) (k := 2) rfl tyF35_1) ⟨rfl, trivial⟩ ?_
    refine r_opg (t_l 0 2 rfl rfl rfl rfl (.agg tyA33)) ⟨rfl, trivial⟩ ?_
    obtain ⟨v6, h7, hF⟩ := bnd hF
    refine r_opg (t_call rfl (ct_gantryref04_Same h7) rfl) ⟨rfl, rfl, trivial⟩ ?_
    refine r_op (t_pickT rfl) ⟨rfl, rfl, trivial⟩ ?_
    refine r_as ?_
    refine r_nil (r_next (r_ret (r_toR ?_)))
    obtain rfl := sm1 hF
    exact r_done1 (.inl rfl) Tryz.results114 (.tmp rfl .nil) rfl rfl
  have hF := cnd_f h5 hF
  refine r_opn ?_
  refine r_opn ?_
  refine r_opn ?_
  refine r_opn ?_
  refine r_opn ?_
  refine r_op (t_pickF rfl) ⟨rfl, k_B _, trivial⟩ ?_
  refine r_as ?_
  refine r_nil (r_next (r_ret (r_toR ?_)))
  obtain rfl := sm1 hF
  exact r_done1 (.inl rfl) Tryz.results114 (.tmp rfl .nil) rfl rfl
end Go.Proofs.YtkjnngaceacmdaaGreat
