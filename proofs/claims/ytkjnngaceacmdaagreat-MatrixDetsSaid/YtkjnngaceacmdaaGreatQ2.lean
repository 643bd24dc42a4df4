import Derived.Test.YtkjnngaceacmdaaGreatQ1
set_option linter.unusedVariables false
namespace Go.Proofs.YtkjnngaceacmdaaGreat
def F_gantrylaw09_whole_j24 (K : Nat) (x17 : List Rat) : Option (List Rat) :=
  some x17
def F_gantrylaw09_whole_l23 (K : Nat) (a0 : List Int) : Nat → (List Rat) → Int → Option (List Rat)
  | 0, _, _ => none
  | k + 1, x10, x16 => bif (decide (x16 < (a0.length : Int))) then ((rdL a0 x16).bind fun v26 => (qof v26 1).bind fun v28 => (apL x10 [v28]).bind fun x30 => (chk (x16 + 1)).bind fun v37 => F_gantrylaw09_whole_l23 K a0 k x30 v37) else (some x10)
def F_gantrylaw09_whole (K : Nat) (a0 : List Int) : Option (List Rat) :=
  (F_gantrylaw09_whole_l23 K a0 K ([] : List Rat) 0).bind fun x17 => F_gantrylaw09_whole_j24 K x17
set_option maxRecDepth 100000 in
theorem ct_gantrylaw09_whole {K : Nat} {a0 : List Int} {r : List Rat} (hF : F_gantrylaw09_whole K a0 = some r) : Ct Tryz.prog 104 [.vc (pS cI a0)] (.vc (pS cQ r)) := by
  unfold F_gantrylaw09_whole at hF
  refine ctO_intro Tryz.func104 rfl (by kernel_rfl) Tryz.ntmps104 rfl (fun w0 M0 => ?_)
  refine r_seq (r_reg (r_op (t_mv (.inr rfl)) ⟨k_nil cQ, trivial⟩ ?_))
  refine r_nil (r_next (r_seq (r_reg (r_nilO cQ 35 rfl ?_))))
  refine r_nil (r_next (r_seq (r_seq (r_reg (r_op (t_mv (.inr rfl)) ⟨k_I _ _, trivial⟩ ?_)))))
  refine r_nil (r_next (r_blk (r_cutN (fun H E => ∃ (x17 : List Rat), ∃ (b18 : Option Nat), ∃ (c19 : Nat), ∃ (n20 : Nat), F_gantrylaw09_whole_j24 K x17 = some r ∧ x17.length = n20 ∧ H = [hO cQ b18 c19 35 n20 x17] ∧ E = [(3, .vc (pO b18 n20 c19))]) ?_ (fun Jj24 => ?_))))
  · rintro _ _ ⟨x17, b18, c19, n20, hF, q21, rfl, rfl⟩
    unfold F_gantrylaw09_whole_j24 at hF
    refine r_next (r_seq (r_reg (r_mv ?_)))
    refine r_as ?_
    refine r_nil (r_next (r_ret (r_toR (r_fzX 0 [2, 3, 19] rfl q21 ⟨rfl, rfl, rfl, trivial⟩ rfl ?_))))
    obtain rfl := sm1 hF
    exact r_done1 (.inl rfl) Tryz.results104 (.tmp rfl .nil) rfl rfl
  · skip
    obtain ⟨x17', hL, hRl23⟩ := bnd hF
    refine r_lp (fun k a w => ∃ (x10 : List Rat), ∃ (x16 : Int), ∃ (b11 : Option Nat), ∃ (c12 : Nat), ∃ (n13 : Nat), F_gantrylaw09_whole_l23 K a0 k x10 x16 = some x17' ∧ x10.length = n13 ∧ hs _ [hO cQ b11 c12 35 n13 x10] [(0, .vc (pS cI a0)), (3, .vc (pO b11 n13 c12)), (4, .vc (pI .i64 x16))] a w) K (fun a w ⟨_, _, _, _, _, hF, _, _⟩ => by cases hF) (fun k a w ⟨x10, x16, b11, c12, n13, hF, q14, hh⟩ => r_at ?_ hh) (fun a w hh => ⟨([] : List Rat), 0, none, 0, 0, hL, rfl, hs_back [0] rfl (by decide) (by exact ⟨rfl, rfl, rfl, trivial⟩) hh⟩)
    rw [F_gantrylaw09_whole_l23.eq_2] at hF
    refine r_seq (r_seq (r_reg (r_mv ?_)))
    refine r_mv ?_
    refine r_op (t_ln rfl tyS22) ⟨rfl, trivial⟩ ?_
    refine r_op (t_lt rfl) ⟨rfl, rfl, trivial⟩ ?_
    refine r_nil (r_next (r_if rfl (fun h25 => ?_) (fun h25 => ?_)))
    · have hF := cnd_t h25 hF
      refine r_skip (r_next (r_seq (r_blk (r_reg (r_mv ?_)))))
      refine r_mv ?_
      refine r_mv ?_
      obtain ⟨v26, h27, hF⟩ := bnd hF
      refine r_op (t_ix rfl tyS22 h27) ⟨rfl, rfl, trivial⟩ ?_
      refine r_op (t_lM 1 rfl rfl (.one tyO3)) ⟨rfl, trivial⟩ ?_
      obtain ⟨v28, h29, hF⟩ := bnd hF
      refine r_op (t_call rfl (qc_gantryref05_Of h29) rfl) ⟨rfl, k_I _ _, trivial⟩ ?_
      refine r_op (t_bs (C := cQ) (xs := [.tmp 16]) (ps := [.va (eQ v28)]) (zs := [v28]) rfl tyS24 rfl ⟨⟨trivial, rfl⟩, trivial⟩ rfl) ⟨rfl, trivial⟩ ?_
      obtain ⟨x30, h31, hF⟩ := bnd hF
      refine r_app 0 rfl tyS24 rfl rfl q14 rfl rfl h31 (fun b32 c33 H34 e35 => ?_)
      cases e35
      refine r_as ?_
      refine r_nil (r_blkN (r_next (r_reg (r_mv ?_))))
      obtain ⟨v37, h38, hF⟩ := bnd hF
      refine r_op (t_add rfl h38) ⟨rfl, k_I _ _, trivial⟩ ?_
      refine r_as ?_
      refine r_nil ?_
      exact r_round (fun a w hh => ⟨x30, v37, b32, c33, (n13 + [v28].length), hF, (apL_len h31 q14), hs_back [0] rfl (by decide) (by exact ⟨rfl, rfl, rfl, trivial⟩) hh⟩)
    · have hF := cnd_f h25 hF
      refine r_brk ?_
      obtain rfl := sm1 hF
      exact r_backJ Jj24 ⟨x10, b11, c12, n13, hRl23, q14, rfl, rfl⟩ [0] rfl ⟨rfl, trivial⟩
def F_gantrylaw09_lives (K : Nat) : Option Bool :=
  (F_gantrylaw09_whole K [1, 2, 3]).bind fun v1 => (F_gantrylaw09_whole K [2, 4, 7]).bind fun v3 => (F_gantrylaw09_whole K [2, 1]).bind fun v5 => (F_gantrylaw09_whole K [1, 2]).bind fun v7 => (F_matrix_Rank K [v1, v3]).bind fun v9 => (F_gantrylaw09_whole K [1, 3]).bind fun v11 => (F_matrix_Solve K [v1, v3] v11).bind fun v13 => (F_matrix_Kernel K [v1, v3]).bind fun v15 => (F_gantrylaw09_whole K [2, 4]).bind fun v17 => (F_gantrylaw09_whole K [1, 2]).bind fun v19 => (F_gantrylaw09_whole K [1, 1]).bind fun v21 => (F_matrix_Solve K [v17, v19] v21).bind fun v23 => (F_matrix_Det K [v5, v7]).bind fun v25 => (F_matrix_Inverse K [v5, v7]).bind fun v28 => bif (v9.2 != 0) then (some false) else (bif (v13.2 != 0) then (some false) else (bif (v15.2 != 0) then (some false) else (bif (v25.2 != 0) then (some false) else (bif (v28.2 != 0) then (some false) else (bif (v23.2 != 6) then (some false) else (bif ((v15.1.length : Int) != 1) then (some false) else ((qof (-1) 3).bind fun v37 => (qof 2 3).bind fun v40 => bif (v9.1 == 2) then ((F_gantrylaw09_whole K [(-2), 0, 1]).bind fun v46 => (F_gantryref09_SameRow K v13.1 v46).bind fun v48 => bif v48 then ((rdL v15.1 0).bind fun v51 => (F_gantrylaw09_whole K [(-2), 1, 0]).bind fun v53 => (F_gantryref09_SameRow K v51 v53).bind fun v55 => bif v55 then ((qof 3 1).bind fun v58 => (qsame v25.1 v58).bind fun v60 => bif v60 then ((F_gantryref09_Same K v28.1 [[v40, v37], [v37, v40]]).bind fun v63 => bif v63 then ((F_matrix_Positive K [v5, v7]).bind fun v66 => bif v66 then ((F_gantrylaw09_whole K [1, 2]).bind fun v69 => (F_gantrylaw09_whole K [2, 1]).bind fun v71 => (F_matrix_Positive K [v69, v71]).bind fun v73 => some (!v73)) else (some false)) else (some false)) else (some false)) else (some false)) else (some false)) else (some false))))))))
set_option maxRecDepth 100000 in
theorem ct_gantrylaw09_lives {K : Nat} {r : Bool} (hF : F_gantrylaw09_lives K = some r) : Ct Tryz.prog 44 [] (.vc (pB r)) := by
  unfold F_gantrylaw09_lives at hF
  refine ctO_intro Tryz.func44 rfl (by kernel_rfl) Tryz.ntmps44 rfl (fun w0 M0 => ?_)
  refine r_seq (r_reg (r_op (t_mv (.inr rfl)) ⟨k_B _, trivial⟩ ?_))
  refine r_nil (r_next (r_seq (r_reg (r_op (t_bs (C := cI) (xs := [.const (.int .i64 (1)), .const (.int .i64 (2)), .const (.int .i64 (3))]) (ps := [.vc (pI .i64 1), .vc (pI .i64 2), .vc (pI .i64 3)]) (zs := [1, 2, 3]) rfl tyS22 rfl ⟨⟨trivial, rfl⟩, ⟨trivial, rfl⟩, ⟨trivial, rfl⟩, trivial⟩ rfl) ⟨k_I _ _, k_I _ _, k_I _ _, trivial⟩ ?_))))
  obtain ⟨v1, h2, hF⟩ := bnd hF
  refine r_op (t_call rfl (ct_gantrylaw09_whole h2) rfl) ⟨rfl, trivial⟩ ?_
  refine r_op (t_bs (C := cI) (xs := [.const (.int .i64 (2)), .const (.int .i64 (4)), .const (.int .i64 (7))]) (ps := [.vc (pI .i64 2), .vc (pI .i64 4), .vc (pI .i64 7)]) (zs := [2, 4, 7]) rfl tyS22 rfl ⟨⟨trivial, rfl⟩, ⟨trivial, rfl⟩, ⟨trivial, rfl⟩, trivial⟩ rfl) ⟨k_I _ _, k_I _ _, k_I _ _, trivial⟩ ?_
  obtain ⟨v3, h4, hF⟩ := bnd hF
  refine r_op (t_call rfl (ct_gantrylaw09_whole h4) rfl) ⟨rfl, trivial⟩ ?_
  refine r_op (t_bs (C := (cSl cQ)) (xs := [.tmp 19, .tmp 21]) (ps := [.vc (pS cQ v1), .vc (pS cQ v3)]) (zs := [v1, v3]) rfl tyS47 rfl ⟨⟨trivial, rfl⟩, ⟨trivial, rfl⟩, trivial⟩ rfl) ⟨rfl, rfl, trivial⟩ ?_
  refine r_as ?_
  refine r_nil (r_next (r_seq (r_reg (r_op (t_bs (C := cI) (xs := [.const (.int .i64 (2)), .const (.int .i64 (1))]) (ps := [.vc (pI .i64 2), .vc (pI .i64 1)]) (zs := [2, 1]) rfl tyS22 rfl ⟨⟨trivial, rfl⟩, ⟨trivial, rfl⟩, trivial⟩ rfl) ⟨k_I _ _, k_I _ _, trivial⟩ ?_))))
  obtain ⟨v5, h6, hF⟩ := bnd hF
  refine r_op (t_call rfl (ct_gantrylaw09_whole h6) rfl) ⟨rfl, trivial⟩ ?_
  refine r_op (t_bs (C := cI) (xs := [.const (.int .i64 (1)), .const (.int .i64 (2))]) (ps := [.vc (pI .i64 1), .vc (pI .i64 2)]) (zs := [1, 2]) rfl tyS22 rfl ⟨⟨trivial, rfl⟩, ⟨trivial, rfl⟩, trivial⟩ rfl) ⟨k_I _ _, k_I _ _, trivial⟩ ?_
  obtain ⟨v7, h8, hF⟩ := bnd hF
  refine r_op (t_call rfl (ct_gantrylaw09_whole h8) rfl) ⟨rfl, trivial⟩ ?_
  refine r_op (t_bs (C := (cSl cQ)) (xs := [.tmp 24, .tmp 26]) (ps := [.vc (pS cQ v5), .vc (pS cQ v7)]) (zs := [v5, v7]) rfl tyS47 rfl ⟨⟨trivial, rfl⟩, ⟨trivial, rfl⟩, trivial⟩ rfl) ⟨rfl, rfl, trivial⟩ ?_
  refine r_as ?_
  refine r_nil (r_next (r_seq (r_reg (r_mv ?_))))
  obtain ⟨v9, h10, hF⟩ := bnd hF
  refine r_op (t_call rfl (ct_matrix_Rank h10) rfl) ⟨rfl, trivial⟩ ?_
  refine r_mv ?_
  refine r_op (t_ext2a rfl) ⟨rfl, trivial⟩ ?_
  refine r_op (t_ext2b rfl) ⟨rfl, trivial⟩ ?_
  refine r_as ?_
  refine r_as ?_
  refine r_nil (r_next (r_seq (r_reg (r_mv ?_))))
  refine r_op (t_bs (C := cI) (xs := [.const (.int .i64 (1)), .const (.int .i64 (3))]) (ps := [.vc (pI .i64 1), .vc (pI .i64 3)]) (zs := [1, 3]) rfl tyS22 rfl ⟨⟨trivial, rfl⟩, ⟨trivial, rfl⟩, trivial⟩ rfl) ⟨k_I _ _, k_I _ _, trivial⟩ ?_
  obtain ⟨v11, h12, hF⟩ := bnd hF
  refine r_op (t_call rfl (ct_gantrylaw09_whole h12) rfl) ⟨rfl, trivial⟩ ?_
  obtain ⟨v13, h14, hF⟩ := bnd hF
  refine r_op (t_call rfl (ct_matrix_Solve h14) rfl) ⟨rfl, rfl, trivial⟩ ?_
  refine r_mv ?_
  refine r_op (t_ext2a rfl) ⟨rfl, trivial⟩ ?_
  refine r_op (t_ext2b rfl) ⟨rfl, trivial⟩ ?_
  refine r_as ?_
  refine r_as ?_
  refine r_nil (r_next (r_seq (r_reg (r_mv ?_))))
  obtain ⟨v15, h16, hF⟩ := bnd hF
  refine r_op (t_call rfl (ct_matrix_Kernel h16) rfl) ⟨rfl, trivial⟩ ?_
  refine r_mv ?_
  refine r_op (t_ext2a rfl) ⟨rfl, trivial⟩ ?_
  refine r_op (t_ext2b rfl) ⟨rfl, trivial⟩ ?_
  refine r_as ?_
  refine r_as ?_
  refine r_nil (r_next (r_seq (r_reg (r_op (t_bs (C := cI) (xs := [.const (.int .i64 (2)), .const (.int .i64 (4))]) (ps := [.vc (pI .i64 2), .vc (pI .i64 4)]) (zs := [2, 4]) rfl tyS22 rfl ⟨⟨trivial, rfl⟩, ⟨trivial, rfl⟩, trivial⟩ rfl) ⟨k_I _ _, k_I _ _, trivial⟩ ?_))))
  obtain ⟨v17, h18, hF⟩ := bnd hF
  refine r_op (t_call rfl (ct_gantrylaw09_whole h18) rfl) ⟨rfl, trivial⟩ ?_
  refine r_op (t_bs (C := cI) (xs := [.const (.int .i64 (1)), .const (.int .i64 (2))]) (ps := [.vc (pI .i64 1), .vc (pI .i64 2)]) (zs := [1, 2]) rfl tyS22 rfl ⟨⟨trivial, rfl⟩, ⟨trivial, rfl⟩, trivial⟩ rfl) ⟨k_I _ _, k_I _ _, trivial⟩ ?_
  obtain ⟨v19, h20, hF⟩ := bnd hF
  refine r_op (t_call rfl (ct_gantrylaw09_whole h20) rfl) ⟨rfl, trivial⟩ ?_
  refine r_op (t_bs (C := (cSl cQ)) (xs := [.tmp 47, .tmp 49]) (ps := [.vc (pS cQ v17), .vc (pS cQ v19)]) (zs := [v17, v19]) rfl tyS47 rfl ⟨⟨trivial, rfl⟩, ⟨trivial, rfl⟩, trivial⟩ rfl) ⟨rfl, rfl, trivial⟩ ?_
  refine r_op (t_bs (C := cI) (xs := [.const (.int .i64 (1)), .const (.int .i64 (1))]) (ps := [.vc (pI .i64 1), .vc (pI .i64 1)]) (zs := [1, 1]) rfl tyS22 rfl ⟨⟨trivial, rfl⟩, ⟨trivial, rfl⟩, trivial⟩ rfl) ⟨k_I _ _, k_I _ _, trivial⟩ ?_
  obtain ⟨v21, h22, hF⟩ := bnd hF
  refine r_op (t_call rfl (ct_gantrylaw09_whole h22) rfl) ⟨rfl, trivial⟩ ?_
  obtain ⟨v23, h24, hF⟩ := bnd hF
  refine r_op (t_call rfl (ct_matrix_Solve h24) rfl) ⟨rfl, rfl, trivial⟩ ?_
  refine r_mv ?_
  refine r_op (t_ext2a rfl) ⟨rfl, trivial⟩ ?_
  refine r_op (t_ext2b rfl) ⟨rfl, trivial⟩ ?_
  refine r_as ?_
  refine r_as ?_
  refine r_nil (r_next (r_seq (r_reg (r_mv ?_))))
  obtain ⟨v25, h26, hF⟩ := bnd hF
  refine r_op (t_call rfl (ct_matrix_Det h26) rfl) ⟨rfl, trivial⟩ ?_
  refine r_mv ?_
  refine r_op (t_ext2a rfl) ⟨rfl, trivial⟩ ?_
  refine r_op (t_ext2b rfl) ⟨rfl, trivial⟩ ?_
  refine r_alloc rfl tyZ35q (fun b27 => ?_)
  refine r_op0 (t_s 0 rfl rfl rfl tyA35.s) ⟨rfl, rfl, trivial⟩ ?_
  refine r_as ?_
  refine r_nil (r_next (r_seq (r_reg (r_mv ?_))))
  obtain ⟨v28, h29, hF⟩ := bnd hF
  refine r_op (t_call rfl (ct_matrix_Inverse h29) rfl) ⟨rfl, trivial⟩ ?_
  refine r_mv ?_
  refine r_op (t_ext2a rfl) ⟨rfl, trivial⟩ ?_
  refine r_op (t_ext2b rfl) ⟨rfl, trivial⟩ ?_
  refine r_as ?_
  refine r_as ?_
  refine r_nil (r_next (r_seq (r_seq (r_reg (r_mv ?_)))))
  refine r_op (t_ne rfl) ⟨rfl, k_I _ _, trivial⟩ ?_
  refine r_mv ?_
  refine r_bool (fun h30 => ?_) (fun h30 => ?_)
  · have hF := cnd_t h30 hF
    refine r_opn ?_
    refine r_opn ?_
    refine r_op (t_pickT rfl) ⟨rfl, k_B _, trivial⟩ ?_
    refine r_mv ?_
    refine r_opn ?_
    refine r_opn ?_
    refine r_op (t_pickT rfl) ⟨rfl, k_B _, trivial⟩ ?_
    refine r_mv ?_
    refine r_opn ?_
    refine r_opn ?_
    refine r_op (t_pickT rfl) ⟨rfl, k_B _, trivial⟩ ?_
    refine r_mv ?_
    refine r_opn ?_
    refine r_opn ?_
    refine r_op (t_pickT rfl) ⟨rfl, k_B _, trivial⟩ ?_
    refine r_mv ?_
    refine r_opn ?_
    refine r_opn ?_
    refine r_op (t_pickT rfl) ⟨rfl, k_B _, trivial⟩ ?_
    refine r_mv ?_
    refine r_opn ?_
    refine r_opn ?_
    refine r_opn ?_
    refine r_op (t_pickT rfl) ⟨rfl, k_B _, trivial⟩ ?_
    refine r_nil (r_next (r_ifT rfl ?_))
    refine r_seq (r_reg (r_op (t_mv (.inr rfl)) ⟨k_B _, trivial⟩ ?_))
    refine r_nil (r_next (r_ret (r_toR ?_)))
    obtain rfl := sm1 hF
    exact r_done1 (.inl rfl) Tryz.results44 (.tmp rfl .nil) rfl rfl
  · have hF := cnd_f h30 hF
    refine r_opg (t_mv (.inl rfl)) ⟨rfl, trivial⟩ ?_
    refine r_opg (t_ne rfl) ⟨rfl, k_I _ _, trivial⟩ ?_
    refine r_op (t_pickF rfl) ⟨rfl, rfl, trivial⟩ ?_
    refine r_mv ?_
    refine r_bool (fun h31 => ?_) (fun h31 => ?_)
    · have hF := cnd_t h31 hF
      refine r_opn ?_
      refine r_opn ?_
      refine r_op (t_pickT rfl) ⟨rfl, k_B _, trivial⟩ ?_
      refine r_mv ?_
      refine r_opn ?_
      refine r_opn ?_
      refine r_op (t_pickT rfl) ⟨rfl, k_B _, trivial⟩ ?_
      refine r_mv ?_
      refine r_opn ?_
      refine r_opn ?_
      refine r_op (t_pickT rfl) ⟨rfl, k_B _, trivial⟩ ?_
      refine r_mv ?_
      refine r_opn ?_
      refine r_opn ?_
      refine r_op (t_pickT rfl) ⟨rfl, k_B _, trivial⟩ ?_
      refine r_mv ?_
      refine r_opn ?_
      refine r_opn ?_
      refine r_opn ?_
      refine r_op (t_pickT rfl) ⟨rfl, k_B _, trivial⟩ ?_
      refine r_nil (r_next (r_ifT rfl ?_))
      refine r_seq (r_reg (r_op (t_mv (.inr rfl)) ⟨k_B _, trivial⟩ ?_))
      refine r_nil (r_next (r_ret (r_toR ?_)))
      obtain rfl := sm1 hF
      exact r_done1 (.inl rfl) Tryz.results44 (.tmp rfl .nil) rfl rfl
    · have hF := cnd_f h31 hF
      refine r_opg (t_mv (.inl rfl)) ⟨rfl, trivial⟩ ?_
      refine r_opg (t_ne rfl) ⟨rfl, k_I _ _, trivial⟩ ?_
      refine r_op (t_pickF rfl) ⟨rfl, rfl, trivial⟩ ?_
      refine r_mv ?_
      refine r_bool (fun h32 => ?_) (fun h32 => ?_)
      · have hF := cnd_t h32 hF
        refine r_opn ?_
        refine r_opn ?_
        refine r_op (t_pickT rfl) ⟨rfl, k_B _, trivial⟩ ?_
        refine r_mv ?_
        refine r_opn ?_
        refine r_opn ?_
        refine r_op (t_pickT rfl) ⟨rfl, k_B _, trivial⟩ ?_
        refine r_mv ?_
        refine r_opn ?_
        refine r_opn ?_
        refine r_op (t_pickT rfl) ⟨rfl, k_B _, trivial⟩ ?_
        refine r_mv ?_
        refine r_opn ?_
        refine r_opn ?_
        refine r_opn ?_
        refine r_op (t_pickT rfl) ⟨rfl, k_B _, trivial⟩ ?_
        refine r_nil (r_next (r_ifT rfl ?_))
        refine r_seq (r_reg (r_op (t_mv (.inr rfl)) ⟨k_B _, trivial⟩ ?_))
        refine r_nil (r_next (r_ret (r_toR ?_)))
        obtain rfl := sm1 hF
        exact r_done1 (.inl rfl) Tryz.results44 (.tmp rfl .nil) rfl rfl
      · have hF := cnd_f h32 hF
        refine r_opg (t_mv (.inl rfl)) ⟨rfl, trivial⟩ ?_
        refine r_opg (t_ne rfl) ⟨rfl, k_I _ _, trivial⟩ ?_
        refine r_op (t_pickF rfl) ⟨rfl, rfl, trivial⟩ ?_
        refine r_mv ?_
        refine r_bool (fun h33 => ?_) (fun h33 => ?_)
        · have hF := cnd_t h33 hF
          refine r_opn ?_
          refine r_opn ?_
          refine r_op (t_pickT rfl) ⟨rfl, k_B _, trivial⟩ ?_
          refine r_mv ?_
          refine r_opn ?_
          refine r_opn ?_
          refine r_op (t_pickT rfl) ⟨rfl, k_B _, trivial⟩ ?_
          refine r_mv ?_
          refine r_opn ?_
          refine r_opn ?_
          refine r_opn ?_
          refine r_op (t_pickT rfl) ⟨rfl, k_B _, trivial⟩ ?_
          refine r_nil (r_next (r_ifT rfl ?_))
          refine r_seq (r_reg (r_op (t_mv (.inr rfl)) ⟨k_B _, trivial⟩ ?_))
          refine r_nil (r_next (r_ret (r_toR ?_)))
          obtain rfl := sm1 hF
          exact r_done1 (.inl rfl) Tryz.results44 (.tmp rfl .nil) rfl rfl
        · have hF := cnd_f h33 hF
          refine r_opg (t_mv (.inl rfl)) ⟨rfl, trivial⟩ ?_
          refine r_opg (t_ne rfl) ⟨rfl, k_I _ _, trivial⟩ ?_
          refine r_op (t_pickF rfl) ⟨rfl, rfl, trivial⟩ ?_
          refine r_mv ?_
          refine r_bool (fun h34 => ?_) (fun h34 => ?_)
          · have hF := cnd_t h34 hF
            refine r_opn ?_
            refine r_opn ?_
            refine r_op (t_pickT rfl) ⟨rfl, k_B _, trivial⟩ ?_
            refine r_mv ?_
            refine r_opn ?_
            refine r_opn ?_
            refine r_opn ?_
            refine r_op (t_pickT rfl) ⟨rfl, k_B _, trivial⟩ ?_
            refine r_nil (r_next (r_ifT rfl ?_))
            refine r_seq (r_reg (r_op (t_mv (.inr rfl)) ⟨k_B _, trivial⟩ ?_))
            refine r_nil (r_next (r_ret (r_toR ?_)))
            obtain rfl := sm1 hF
            exact r_done1 (.inl rfl) Tryz.results44 (.tmp rfl .nil) rfl rfl
          · have hF := cnd_f h34 hF
            refine r_opg (t_mv (.inl rfl)) ⟨rfl, trivial⟩ ?_
            refine r_opg (t_ne rfl) ⟨rfl, k_I _ _, trivial⟩ ?_
            refine r_op (t_pickF rfl) ⟨rfl, rfl, trivial⟩ ?_
            refine r_mv ?_
            refine r_bool (fun h35 => ?_) (fun h35 => ?_)
            · have hF := cnd_t h35 hF
              refine r_opn ?_
              refine r_opn ?_
              refine r_opn ?_
              refine r_op (t_pickT rfl) ⟨rfl, k_B _, trivial⟩ ?_
              refine r_nil (r_next (r_ifT rfl ?_))
              refine r_seq (r_reg (r_op (t_mv (.inr rfl)) ⟨k_B _, trivial⟩ ?_))
              refine r_nil (r_next (r_ret (r_toR ?_)))
              obtain rfl := sm1 hF
              exact r_done1 (.inl rfl) Tryz.results44 (.tmp rfl .nil) rfl rfl
            · have hF := cnd_f h35 hF
              refine r_opg (t_mv (.inl rfl)) ⟨rfl, trivial⟩ ?_
              refine r_opg (t_ln rfl tyS47) ⟨rfl, trivial⟩ ?_
              refine r_opg (t_ne rfl) ⟨rfl, k_I _ _, trivial⟩ ?_
              refine r_op (t_pickF rfl) ⟨rfl, rfl, trivial⟩ ?_
              refine r_nil (r_next (r_if rfl (fun h36 => ?_) (fun h36 => ?_)))
              · have hF := cnd_t h36 hF
                refine r_seq (r_reg (r_op (t_mv (.inr rfl)) ⟨k_B _, trivial⟩ ?_))
                refine r_nil (r_next (r_ret (r_toR ?_)))
                obtain rfl := sm1 hF
                exact r_done1 (.inl rfl) Tryz.results44 (.tmp rfl .nil) rfl rfl
              · have hF := cnd_f h36 hF
                refine r_skip (r_next (r_seq (r_reg ?_)))
                obtain ⟨v37, h38, hF⟩ := bnd hF
                refine r_op (t_call rfl (qc_gantryref05_Of h38) rfl) ⟨k_I _ _, k_I _ _, trivial⟩ ?_
                refine r_alloc rfl tyZ35q (fun b39 => ?_)
                refine r_op0 (t_s 0 rfl rfl rfl tyA35.s) ⟨rfl, rfl, trivial⟩ ?_
                refine r_nil (r_next (r_seq (r_reg ?_)))
                obtain ⟨v40, h41, hF⟩ := bnd hF
                refine r_op (t_call rfl (qc_gantryref05_Of h41) rfl) ⟨k_I _ _, k_I _ _, trivial⟩ ?_
                refine r_alloc rfl tyZ35q (fun b42 => ?_)
                refine r_op0 (t_s 0 rfl rfl rfl tyA35.s) ⟨rfl, rfl, trivial⟩ ?_
                refine r_nil (r_next (r_seq ?_))
                rcases Bool.eq_false_or_eq_true (v9.1 == 2) with h45 | h45
                · have hF := cnd_t h45 hF
                  obtain ⟨v46, h47, hF⟩ := bnd hF
                  obtain ⟨v48, h49, hF⟩ := bnd hF
                  rcases Bool.eq_false_or_eq_true v48 with h50 | h50
                  · have hF := cnd_t h50 hF
                    obtain ⟨v51, h52, hF⟩ := bnd hF
                    obtain ⟨v53, h54, hF⟩ := bnd hF
                    obtain ⟨v55, h56, hF⟩ := bnd hF
                    rcases Bool.eq_false_or_eq_true v55 with h57 | h57
                    · have hF := cnd_t h57 hF
                      obtain ⟨v58, h59, hF⟩ := bnd hF
                      obtain ⟨v60, h61, hF⟩ := bnd hF
                      refine r_draw [0, 1, 3, 7, 7, 23, 63, 127, 255, 511, 1023, 2047, 511, 4607, 16383, 32767, 65535, 131071, 131071, 524287, 1048575, 2097151] 22 0 [.v (.vc (pI .i64 v9.1)), .v (.vc (pB (v9.1 == 2))), .v (.vc (pB true)), .v (.vc (pS cQ v13.1)), .v (.vc (pS cI [(-2), 0, 1])), .v (.vc (pS cQ v46)), .v (.vc (pB v48)), .v (.vc (pB v48)), .v (.vc (pB true)), .v (.vc (pS (cSl cQ) v15.1)), .v (.vc (pM ((cSl cQ).e v51))), .v (.vc (pS cQ v51)), .v (.vc (pS cI [(-2), 1, 0])), .v (.vc (pS cQ v53)), .v (.vc (pB v55)), .v (.vc (pB v55)), .v (.vc (pB true)), .v (.va (eQ v25.1)), .v (.va (eQ v58)), .v (.vc (pB v60)), .v (.vc (pB v60)), .v (.vc (pB v60))] Tryz_mixed ⟨⟨rfl, .run (lo := 0) (n := 1) ⟨fun G43 A => t_mv (.inl rfl), trivial⟩ (fun G43 => ⟨rfl, trivial⟩)⟩, ⟨rfl, .run (lo := 0) (n := 1) ⟨fun G43 A => t_eq rfl, trivial⟩ (fun G43 => ⟨rfl, k_I _ _, trivial⟩)⟩, ⟨rfl, .run (lo := 0) (n := 1) ⟨fun G43 A => tr_bool (t_mv (.inl rfl)) h45, trivial⟩ (fun G43 => ⟨rfl, trivial⟩)⟩, ⟨rfl, .runG (lo := 0) (n := 1) ⟨fun G43 A => t_mv (.inl rfl), trivial⟩ (fun G43 => ⟨rfl, trivial⟩)⟩, ⟨rfl, .runG (lo := 0) (n := 1) ⟨fun G43 A => t_bs (C := cI) (xs := [.const (.int .i64 (-2)), .const (.int .i64 (0)), .const (.int .i64 (1))]) (ps := [.vc (pI .i64 (-2)), .vc (pI .i64 0), .vc (pI .i64 1)]) (zs := [(-2), 0, 1]) rfl tyS22 rfl ⟨⟨trivial, rfl⟩, ⟨trivial, rfl⟩, ⟨trivial, rfl⟩, trivial⟩ rfl, trivial⟩ (fun G43 => ⟨k_I _ _, k_I _ _, k_I _ _, trivial⟩)⟩, ⟨rfl, .runG (lo := 0) (n := 1) ⟨fun G43 A => t_call rfl (ct_gantrylaw09_whole h47) rfl, trivial⟩ (fun G43 => ⟨rfl, trivial⟩)⟩, ⟨rfl, .runG (lo := 0) (n := 1) ⟨fun G43 A => t_call rfl (ct_gantryref09_SameRow h49) rfl, trivial⟩ (fun G43 => ⟨rfl, rfl, trivial⟩)⟩, ⟨rfl, .run (lo := 0) (n := 1) ⟨fun G43 A => t_pickT rfl, trivial⟩ (fun G43 => ⟨rfl, rfl, trivial⟩)⟩, ⟨rfl, .run (lo := 0) (n := 1) ⟨fun G43 A => tr_bool (t_mv (.inl rfl)) h50, trivial⟩ (fun G43 => ⟨rfl, trivial⟩)⟩, ⟨rfl, .runG (lo := 0) (n := 1) ⟨fun G43 A => t_mv (.inl rfl), trivial⟩ (fun G43 => ⟨rfl, trivial⟩)⟩, ⟨rfl, .runG (lo := 0) (n := 1) ⟨fun G43 A => t_ix rfl tyS47 h52, trivial⟩ (fun G43 => ⟨rfl, k_I _ _, trivial⟩)⟩, ⟨rfl, .runG (lo := 0) (n := 1) ⟨fun G43 A => t_lM 1 rfl rfl (.one tyO24), trivial⟩ (fun G43 => ⟨rfl, trivial⟩)⟩, ⟨rfl, .runG (lo := 0) (n := 1) ⟨fun G43 A => t_bs (C := cI) (xs := [.const (.int .i64 (-2)), .const (.int .i64 (1)), .const (.int .i64 (0))]) (ps := [.vc (pI .i64 (-2)), .vc (pI .i64 1), .vc (pI .i64 0)]) (zs := [(-2), 1, 0]) rfl tyS22 rfl ⟨⟨trivial, rfl⟩, ⟨trivial, rfl⟩, ⟨trivial, rfl⟩, trivial⟩ rfl, trivial⟩ (fun G43 => ⟨k_I _ _, k_I _ _, k_I _ _, trivial⟩)⟩, ⟨rfl, .runG (lo := 0) (n := 1) ⟨fun G43 A => t_call rfl (ct_gantrylaw09_whole h54) rfl, trivial⟩ (fun G43 => ⟨rfl, trivial⟩)⟩, ⟨rfl, .runG (lo := 0) (n := 1) ⟨fun G43 A => t_call rfl (ct_gantryref09_SameRow h56) rfl, trivial⟩ (fun G43 => ⟨rfl, rfl, trivial⟩)⟩, ⟨rfl, .run (lo := 0) (n := 1) ⟨fun G43 A => t_pickT rfl, trivial⟩ (fun G43 => ⟨rfl, rfl, trivial⟩)⟩, ⟨rfl, .run (lo := 0) (n := 1) ⟨fun G43 A => tr_bool (t_mv (.inl rfl)) h57, trivial⟩ (fun G43 => ⟨rfl, trivial⟩)⟩, ⟨rfl, .runG (lo := 0) (n := 1) ⟨fun G43 A => t_l 2 4 rfl rfl rfl rfl (.agg tyA35), trivial⟩ (fun G43 => ⟨rfl, trivial⟩)⟩, ⟨rfl, .runG (lo := 0) (n := 1) ⟨fun G43 A => t_call rfl (qc_gantryref05_Of h59) rfl, trivial⟩ (fun G43 => ⟨k_I _ _, k_I _ _, trivial⟩)⟩, ⟨rfl, .runG (lo := 0) (n := 1) ⟨fun G43 A => t_call rfl (qc_rat_Same h61) rfl, trivial⟩ (fun G43 => ⟨rfl, rfl, trivial⟩)⟩, ⟨rfl, .run (lo := 0) (n := 1) ⟨fun G43 A => t_pickT rfl, trivial⟩ (fun G43 => ⟨rfl, rfl, trivial⟩)⟩, ⟨rfl, .run (lo := 0) (n := 1) ⟨fun G43 A => t_mv (.inr rfl), trivial⟩ (fun G43 => ⟨rfl, trivial⟩)⟩, trivial⟩ (fun bs44 G43 => ?_)
                      refine r_nil (r_next (r_seq (r_reg (r_mv ?_))))
                      refine r_mv ?_
                      refine r_bool (fun h62 => ?_) (fun h62 => ?_)
                      · have hF := cnd_t h62 hF
                        refine r_opg (t_mv (.inl rfl)) ⟨rfl, trivial⟩ ?_
                        refine r_opg (t_l 0 4 rfl rfl rfl rfl (.agg tyA35)) ⟨rfl, trivial⟩ ?_
                        refine r_opg (t_l 1 4 rfl rfl rfl rfl (.agg tyA35)) ⟨rfl, trivial⟩ ?_
                        refine r_opg (t_bs (C := cQ) (xs := [.tmp 119, .tmp 120]) (ps := [.va (eQ v40), .va (eQ v37)]) (zs := [v40, v37]) rfl tyS24 rfl ⟨⟨trivial, rfl⟩, ⟨trivial, rfl⟩, trivial⟩ rfl) ⟨rfl, rfl, trivial⟩ ?_
                        refine r_opg (t_l 1 4 rfl rfl rfl rfl (.agg tyA35)) ⟨rfl, trivial⟩ ?_
                        refine r_opg (t_l 0 4 rfl rfl rfl rfl (.agg tyA35)) ⟨rfl, trivial⟩ ?_
                        refine r_opg (t_bs (C := cQ) (xs := [.tmp 122, .tmp 123]) (ps := [.va (eQ v37), .va (eQ v40)]) (zs := [v37, v40]) rfl tyS24 rfl ⟨⟨trivial, rfl⟩, ⟨trivial, rfl⟩, trivial⟩ rfl) ⟨rfl, rfl, trivial⟩ ?_
                        refine r_opg (t_bs (C := (cSl cQ)) (xs := [.tmp 121, .tmp 124]) (ps := [.vc (pS cQ [v40, v37]), .vc (pS cQ [v37, v40])]) (zs := [[v40, v37], [v37, v40]]) rfl tyS47 rfl ⟨⟨trivial, rfl⟩, ⟨trivial, rfl⟩, trivial⟩ rfl) ⟨rfl, rfl, trivial⟩ ?_
                        obtain ⟨v63, h64, hF⟩ := bnd hF
                        refine r_opg (t_call rfl (ct_gantryref09_Same h64) rfl) ⟨rfl, rfl, trivial⟩ ?_
                        refine r_op (t_pickT rfl) ⟨rfl, rfl, trivial⟩ ?_
                        refine r_mv ?_
                        refine r_bool (fun h65 => ?_) (fun h65 => ?_)
                        · have hF := cnd_t h65 hF
                          refine r_opg (t_mv (.inl rfl)) ⟨rfl, trivial⟩ ?_
                          obtain ⟨v66, h67, hF⟩ := bnd hF
                          refine r_opg (t_call rfl (ct_matrix_Positive h67) rfl) ⟨rfl, trivial⟩ ?_
                          refine r_op (t_pickT rfl) ⟨rfl, rfl, trivial⟩ ?_
                          refine r_mv ?_
                          refine r_bool (fun h68 => ?_) (fun h68 => ?_)
                          · have hF := cnd_t h68 hF
                            refine r_opg (t_bs (C := cI) (xs := [.const (.int .i64 (1)), .const (.int .i64 (2))]) (ps := [.vc (pI .i64 1), .vc (pI .i64 2)]) (zs := [1, 2]) rfl tyS22 rfl ⟨⟨trivial, rfl⟩, ⟨trivial, rfl⟩, trivial⟩ rfl) ⟨k_I _ _, k_I _ _, trivial⟩ ?_
                            obtain ⟨v69, h70, hF⟩ := bnd hF
                            refine r_opg (t_call rfl (ct_gantrylaw09_whole h70) rfl) ⟨rfl, trivial⟩ ?_
                            refine r_opg (t_bs (C := cI) (xs := [.const (.int .i64 (2)), .const (.int .i64 (1))]) (ps := [.vc (pI .i64 2), .vc (pI .i64 1)]) (zs := [2, 1]) rfl tyS22 rfl ⟨⟨trivial, rfl⟩, ⟨trivial, rfl⟩, trivial⟩ rfl) ⟨k_I _ _, k_I _ _, trivial⟩ ?_
                            obtain ⟨v71, h72, hF⟩ := bnd hF
                            refine r_opg (t_call rfl (ct_gantrylaw09_whole h72) rfl) ⟨rfl, trivial⟩ ?_
                            refine r_opg (t_bs (C := (cSl cQ)) (xs := [.tmp 134, .tmp 136]) (ps := [.vc (pS cQ v69), .vc (pS cQ v71)]) (zs := [v69, v71]) rfl tyS47 rfl ⟨⟨trivial, rfl⟩, ⟨trivial, rfl⟩, trivial⟩ rfl) ⟨rfl, rfl, trivial⟩ ?_
                            obtain ⟨v73, h74, hF⟩ := bnd hF
                            refine r_opg (t_call rfl (ct_matrix_Positive h74) rfl) ⟨rfl, trivial⟩ ?_
                            refine r_opg (t_not rfl) ⟨rfl, trivial⟩ ?_
                            refine r_op (t_pickT rfl) ⟨rfl, rfl, trivial⟩ ?_
                            refine r_as ?_
                            refine r_nil (r_next (r_ret (r_toR ?_)))
                            obtain rfl := sm1 hF
                            exact r_done1 (.inl rfl) Tryz.results44 (.tmp rfl .nil) rfl rfl
                          · have hF := cnd_f h68 hF
                            refine r_opn ?_
                            refine r_opn ?_
                            refine r_opn ?_
                            refine r_opn ?_
                            refine r_opn ?_
                            refine r_opn ?_
                            refine r_opn ?_
                            refine r_op (t_pickF rfl) ⟨rfl, k_B _, trivial⟩ ?_
                            refine r_as ?_
                            refine r_nil (r_next (r_ret (r_toR ?_)))
                            obtain rfl := sm1 hF
                            exact r_done1 (.inl rfl) Tryz.results44 (.tmp rfl .nil) rfl rfl
                        · have hF := cnd_f h65 hF
                          refine r_opn ?_
                          refine r_opn ?_
                          refine r_op (t_pickF rfl) ⟨rfl, k_B _, trivial⟩ ?_
                          refine r_mv ?_
                          refine r_opn ?_
                          refine r_opn ?_
                          refine r_opn ?_
                          refine r_opn ?_
                          refine r_opn ?_
                          refine r_opn ?_
                          refine r_opn ?_
                          refine r_op (t_pickF rfl) ⟨rfl, k_B _, trivial⟩ ?_
                          refine r_as ?_
                          refine r_nil (r_next (r_ret (r_toR ?_)))
                          obtain rfl := sm1 hF
                          exact r_done1 (.inl rfl) Tryz.results44 (.tmp rfl .nil) rfl rfl
                      · have hF := cnd_f h62 hF
                        refine r_opn ?_
                        refine r_opn ?_
                        refine r_opn ?_
                        refine r_opn ?_
                        refine r_opn ?_
                        refine r_opn ?_
                        refine r_opn ?_
                        refine r_opn ?_
                        refine r_opn ?_
                        refine r_op (t_pickF rfl) ⟨rfl, k_B _, trivial⟩ ?_
                        refine r_mv ?_
                        refine r_opn ?_
                        refine r_opn ?_
                        refine r_op (t_pickF rfl) ⟨rfl, k_B _, trivial⟩ ?_
                        refine r_mv ?_
                        refine r_opn ?_
                        refine r_opn ?_
                        refine r_opn ?_
                        refine r_opn ?_
                        refine r_opn ?_
                        refine r_opn ?_
                        refine r_opn ?_
                        refine r_op (t_pickF rfl) ⟨rfl, k_B _, trivial⟩ ?_
                        refine r_as ?_
                        refine r_nil (r_next (r_ret (r_toR ?_)))
                        obtain rfl := sm1 hF
                        exact r_done1 (.inl rfl) Tryz.results44 (.tmp rfl .nil) rfl rfl
                    · have hF := cnd_f h57 hF
                      refine r_draw [0, 1, 3, 7, 7, 23, 63, 127, 255, 511, 1023, 2047, 511, 4607, 16383, 32767, 65535, 131071, 131071, 524287, 1048575, 2097151] 22 0 [.v (.vc (pI .i64 v9.1)), .v (.vc (pB (v9.1 == 2))), .v (.vc (pB true)), .v (.vc (pS cQ v13.1)), .v (.vc (pS cI [(-2), 0, 1])), .v (.vc (pS cQ v46)), .v (.vc (pB v48)), .v (.vc (pB v48)), .v (.vc (pB true)), .v (.vc (pS (cSl cQ) v15.1)), .v (.vc (pM ((cSl cQ).e v51))), .v (.vc (pS cQ v51)), .v (.vc (pS cI [(-2), 1, 0])), .v (.vc (pS cQ v53)), .v (.vc (pB v55)), .v (.vc (pB v55)), .v (.vc (pB false)), .v .any, .v .any, .v .any, .v (.vc (pB false)), .v (.vc (pB false))] Tryz_mixed ⟨⟨rfl, .run (lo := 0) (n := 1) ⟨fun G43 A => t_mv (.inl rfl), trivial⟩ (fun G43 => ⟨rfl, trivial⟩)⟩, ⟨rfl, .run (lo := 0) (n := 1) ⟨fun G43 A => t_eq rfl, trivial⟩ (fun G43 => ⟨rfl, k_I _ _, trivial⟩)⟩, ⟨rfl, .run (lo := 0) (n := 1) ⟨fun G43 A => tr_bool (t_mv (.inl rfl)) h45, trivial⟩ (fun G43 => ⟨rfl, trivial⟩)⟩, ⟨rfl, .runG (lo := 0) (n := 1) ⟨fun G43 A => t_mv (.inl rfl), trivial⟩ (fun G43 => ⟨rfl, trivial⟩)⟩, ⟨rfl, .runG (lo := 0) (n := 1) ⟨fun G43 A => t_bs (C := cI) (xs := [.const (.int .i64 (-2)), .const (.int .i64 (0)), .const (.int .i64 (1))]) (ps := [.vc (pI .i64 (-2)), .vc (pI .i64 0), .vc (pI .i64 1)]) (zs := [(-2), 0, 1]) rfl tyS22 rfl ⟨⟨trivial, rfl⟩, ⟨trivial, rfl⟩, ⟨trivial, rfl⟩, trivial⟩ rfl, trivial⟩ (fun G43 => ⟨k_I _ _, k_I _ _, k_I _ _, trivial⟩)⟩, ⟨rfl, .runG (lo := 0) (n := 1) ⟨fun G43 A => t_call rfl (ct_gantrylaw09_whole h47) rfl, trivial⟩ (fun G43 => ⟨rfl, trivial⟩)⟩, ⟨rfl, .runG (lo := 0) (n := 1) ⟨fun G43 A => t_call rfl (ct_gantryref09_SameRow h49) rfl, trivial⟩ (fun G43 => ⟨rfl, rfl, trivial⟩)⟩, ⟨rfl, .run (lo := 0) (n := 1) ⟨fun G43 A => t_pickT rfl, trivial⟩ (fun G43 => ⟨rfl, rfl, trivial⟩)⟩, ⟨rfl, .run (lo := 0) (n := 1) ⟨fun G43 A => tr_bool (t_mv (.inl rfl)) h50, trivial⟩ (fun G43 => ⟨rfl, trivial⟩)⟩, ⟨rfl, .runG (lo := 0) (n := 1) ⟨fun G43 A => t_mv (.inl rfl), trivial⟩ (fun G43 => ⟨rfl, trivial⟩)⟩, ⟨rfl, .runG (lo := 0) (n := 1) ⟨fun G43 A => t_ix rfl tyS47 h52, trivial⟩ (fun G43 => ⟨rfl, k_I _ _, trivial⟩)⟩, ⟨rfl, .runG (lo := 0) (n := 1) ⟨fun G43 A => t_lM 1 rfl rfl (.one tyO24), trivial⟩ (fun G43 => ⟨rfl, trivial⟩)⟩, ⟨rfl, .runG (lo := 0) (n := 1) ⟨fun G43 A => t_bs (C := cI) (xs := [.const (.int .i64 (-2)), .const (.int .i64 (1)), .const (.int .i64 (0))]) (ps := [.vc (pI .i64 (-2)), .vc (pI .i64 1), .vc (pI .i64 0)]) (zs := [(-2), 1, 0]) rfl tyS22 rfl ⟨⟨trivial, rfl⟩, ⟨trivial, rfl⟩, ⟨trivial, rfl⟩, trivial⟩ rfl, trivial⟩ (fun G43 => ⟨k_I _ _, k_I _ _, k_I _ _, trivial⟩)⟩, ⟨rfl, .runG (lo := 0) (n := 1) ⟨fun G43 A => t_call rfl (ct_gantrylaw09_whole h54) rfl, trivial⟩ (fun G43 => ⟨rfl, trivial⟩)⟩, ⟨rfl, .runG (lo := 0) (n := 1) ⟨fun G43 A => t_call rfl (ct_gantryref09_SameRow h56) rfl, trivial⟩ (fun G43 => ⟨rfl, rfl, trivial⟩)⟩, ⟨rfl, .run (lo := 0) (n := 1) ⟨fun G43 A => t_pickT rfl, trivial⟩ (fun G43 => ⟨rfl, rfl, trivial⟩)⟩, ⟨rfl, .run (lo := 0) (n := 1) ⟨fun G43 A => tr_bool (t_mv (.inl rfl)) h57, trivial⟩ (fun G43 => ⟨rfl, trivial⟩)⟩, ⟨rfl, .skip⟩, ⟨rfl, .skip⟩, ⟨rfl, .skip⟩, ⟨rfl, .run (lo := 0) (n := 1) ⟨fun G43 A => t_pickF rfl, trivial⟩ (fun G43 => ⟨rfl, k_B _, trivial⟩)⟩, ⟨rfl, .run (lo := 0) (n := 1) ⟨fun G43 A => t_mv (.inr rfl), trivial⟩ (fun G43 => ⟨rfl, trivial⟩)⟩, trivial⟩ (fun bs44 G43 => ?_)
                      refine r_nil (r_next (r_seq (r_reg (r_mv ?_))))
                      refine r_mv ?_
                      refine r_opn ?_
                      refine r_opn ?_
                      refine r_opn ?_
                      refine r_opn ?_
                      refine r_opn ?_
                      refine r_opn ?_
                      refine r_opn ?_
                      refine r_opn ?_
                      refine r_opn ?_
                      refine r_op (t_pickF rfl) ⟨rfl, k_B _, trivial⟩ ?_
                      refine r_mv ?_
                      refine r_opn ?_
                      refine r_opn ?_
                      refine r_op (t_pickF rfl) ⟨rfl, k_B _, trivial⟩ ?_
                      refine r_mv ?_
                      refine r_opn ?_
                      refine r_opn ?_
                      refine r_opn ?_
                      refine r_opn ?_
                      refine r_opn ?_
                      refine r_opn ?_
                      refine r_opn ?_
                      refine r_op (t_pickF rfl) ⟨rfl, k_B _, trivial⟩ ?_
                      refine r_as ?_
                      refine r_nil (r_next (r_ret (r_toR ?_)))
                      obtain rfl := sm1 hF
                      exact r_done1 (.inl rfl) Tryz.results44 (.tmp rfl .nil) rfl rfl
                  · have hF := cnd_f h50 hF
                    refine r_draw [0, 1, 3, 7, 7, 23, 63, 127, 255, 511, 1023, 2047, 511, 4607, 16383, 32767, 65535, 131071, 131071, 524287, 1048575, 2097151] 22 0 [.v (.vc (pI .i64 v9.1)), .v (.vc (pB (v9.1 == 2))), .v (.vc (pB true)), .v (.vc (pS cQ v13.1)), .v (.vc (pS cI [(-2), 0, 1])), .v (.vc (pS cQ v46)), .v (.vc (pB v48)), .v (.vc (pB v48)), .v (.vc (pB false)), .v .any, .v .any, .v .any, .v .any, .v .any, .v .any, .v (.vc (pB false)), .v (.vc (pB false)), .v .any, .v .any, .v .any, .v (.vc (pB false)), .v (.vc (pB false))] Tryz_mixed ⟨⟨rfl, .run (lo := 0) (n := 1) ⟨fun G43 A => t_mv (.inl rfl), trivial⟩ (fun G43 => ⟨rfl, trivial⟩)⟩, ⟨rfl, .run (lo := 0) (n := 1) ⟨fun G43 A => t_eq rfl, trivial⟩ (fun G43 => ⟨rfl, k_I _ _, trivial⟩)⟩, ⟨rfl, .run (lo := 0) (n := 1) ⟨fun G43 A => tr_bool (t_mv (.inl rfl)) h45, trivial⟩ (fun G43 => ⟨rfl, trivial⟩)⟩, ⟨rfl, .runG (lo := 0) (n := 1) ⟨fun G43 A => t_mv (.inl rfl), trivial⟩ (fun G43 => ⟨rfl, trivial⟩)⟩, ⟨rfl, .runG (lo := 0) (n := 1) ⟨fun G43 A => t_bs (C := cI) (xs := [.const (.int .i64 (-2)), .const (.int .i64 (0)), .const (.int .i64 (1))]) (ps := [.vc (pI .i64 (-2)), .vc (pI .i64 0), .vc (pI .i64 1)]) (zs := [(-2), 0, 1]) rfl tyS22 rfl ⟨⟨trivial, rfl⟩, ⟨trivial, rfl⟩, ⟨trivial, rfl⟩, trivial⟩ rfl, trivial⟩ (fun G43 => ⟨k_I _ _, k_I _ _, k_I _ _, trivial⟩)⟩, ⟨rfl, .runG (lo := 0) (n := 1) ⟨fun G43 A => t_call rfl (ct_gantrylaw09_whole h47) rfl, trivial⟩ (fun G43 => ⟨rfl, trivial⟩)⟩, ⟨rfl, .runG (lo := 0) (n := 1) ⟨fun G43 A => t_call rfl (ct_gantryref09_SameRow h49) rfl, trivial⟩ (fun G43 => ⟨rfl, rfl, trivial⟩)⟩, ⟨rfl, .run (lo := 0) (n := 1) ⟨fun G43 A => t_pickT rfl, trivial⟩ (fun G43 => ⟨rfl, rfl, trivial⟩)⟩, ⟨rfl, .run (lo := 0) (n := 1) ⟨fun G43 A => tr_bool (t_mv (.inl rfl)) h50, trivial⟩ (fun G43 => ⟨rfl, trivial⟩)⟩, ⟨rfl, .skip⟩, ⟨rfl, .skip⟩, ⟨rfl, .skip⟩, ⟨rfl, .skip⟩, ⟨rfl, .skip⟩, ⟨rfl, .skip⟩, ⟨rfl, .run (lo := 0) (n := 1) ⟨fun G43 A => t_pickF rfl, trivial⟩ (fun G43 => ⟨rfl, k_B _, trivial⟩)⟩, ⟨rfl, .run (lo := 0) (n := 1) ⟨fun G43 A => t_mv (.inl rfl), trivial⟩ (fun G43 => ⟨rfl, trivial⟩)⟩, ⟨rfl, .skip⟩, ⟨rfl, .skip⟩, ⟨rfl, .skip⟩, ⟨rfl, .run (lo := 0) (n := 1) ⟨fun G43 A => t_pickF rfl, trivial⟩ (fun G43 => ⟨rfl, k_B _, trivial⟩)⟩, ⟨rfl, .run (lo := 0) (n := 1) ⟨fun G43 A => t_mv (.inr rfl), trivial⟩ (fun G43 => ⟨rfl, trivial⟩)⟩, trivial⟩ (fun bs44 G43 => ?_)
                    refine r_nil (r_next (r_seq (r_reg (r_mv ?_))))
                    refine r_mv ?_
                    refine r_opn ?_
                    refine r_opn ?_
                    refine r_opn ?_
                    refine r_opn ?_
                    refine r_opn ?_
                    refine r_opn ?_
                    refine r_opn ?_
                    refine r_opn ?_
                    refine r_opn ?_
                    refine r_op (t_pickF rfl) ⟨rfl, k_B _, trivial⟩ ?_
                    refine r_mv ?_
                    refine r_opn ?_
                    refine r_opn ?_
                    refine r_op (t_pickF rfl) ⟨rfl, k_B _, trivial⟩ ?_
                    refine r_mv ?_
                    refine r_opn ?_
                    refine r_opn ?_
                    refine r_opn ?_
                    refine r_opn ?_
                    refine r_opn ?_
                    refine r_opn ?_
                    refine r_opn ?_
                    refine r_op (t_pickF rfl) ⟨rfl, k_B _, trivial⟩ ?_
                    refine r_as ?_
                    refine r_nil (r_next (r_ret (r_toR ?_)))
                    obtain rfl := sm1 hF
                    exact r_done1 (.inl rfl) Tryz.results44 (.tmp rfl .nil) rfl rfl
                · have hF := cnd_f h45 hF
                  refine r_draw [0, 1, 3, 7, 7, 23, 63, 127, 255, 511, 1023, 2047, 511, 4607, 16383, 32767, 65535, 131071, 131071, 524287, 1048575, 2097151] 22 0 [.v (.vc (pI .i64 v9.1)), .v (.vc (pB (v9.1 == 2))), .v (.vc (pB false)), .v .any, .v .any, .v .any, .v .any, .v (.vc (pB false)), .v (.vc (pB false)), .v .any, .v .any, .v .any, .v .any, .v .any, .v .any, .v (.vc (pB false)), .v (.vc (pB false)), .v .any, .v .any, .v .any, .v (.vc (pB false)), .v (.vc (pB false))] Tryz_mixed ⟨⟨rfl, .run (lo := 0) (n := 1) ⟨fun G43 A => t_mv (.inl rfl), trivial⟩ (fun G43 => ⟨rfl, trivial⟩)⟩, ⟨rfl, .run (lo := 0) (n := 1) ⟨fun G43 A => t_eq rfl, trivial⟩ (fun G43 => ⟨rfl, k_I _ _, trivial⟩)⟩, ⟨rfl, .run (lo := 0) (n := 1) ⟨fun G43 A => tr_bool (t_mv (.inl rfl)) h45, trivial⟩ (fun G43 => ⟨rfl, trivial⟩)⟩, ⟨rfl, .skip⟩, ⟨rfl, .skip⟩, ⟨rfl, .skip⟩, ⟨rfl, .skip⟩, ⟨rfl, .run (lo := 0) (n := 1) ⟨fun G43 A => t_pickF rfl, trivial⟩ (fun G43 => ⟨rfl, k_B _, trivial⟩)⟩, ⟨rfl, .run (lo := 0) (n := 1) ⟨fun G43 A => t_mv (.inl rfl), trivial⟩ (fun G43 => ⟨rfl, trivial⟩)⟩, ⟨rfl, .skip⟩, ⟨rfl, .skip⟩, ⟨rfl, .skip⟩, ⟨rfl, .skip⟩, ⟨rfl, .skip⟩, ⟨rfl, .skip⟩, ⟨rfl, .run (lo := 0) (n := 1) ⟨fun G43 A => t_pickF rfl, trivial⟩ (fun G43 => ⟨rfl, k_B _, trivial⟩)⟩, ⟨rfl, .run (lo := 0) (n := 1) ⟨fun G43 A => t_mv (.inl rfl), trivial⟩ (fun G43 => ⟨rfl, trivial⟩)⟩, ⟨rfl, .skip⟩, ⟨rfl, .skip⟩, ⟨rfl, .skip⟩, ⟨rfl, .run (lo := 0) (n := 1) ⟨fun G43 A => t_pickF rfl, trivial⟩ (fun G43 => ⟨rfl, k_B _, trivial⟩)⟩, ⟨rfl, .run (lo := 0) (n := 1) ⟨fun G43 A => t_mv (.inr rfl), trivial⟩ (fun G43 => ⟨rfl, trivial⟩)⟩, trivial⟩ (fun bs44 G43 => ?_)
                  refine r_nil (r_next (r_seq (r_reg (r_mv ?_))))
                  refine r_mv ?_
                  refine r_opn ?_
                  refine r_opn ?_
                  refine r_opn ?_
                  refine r_opn ?_
                  refine r_opn ?_
                  refine r_opn ?_
                  refine r_opn ?_
                  refine r_opn ?_
                  refine r_opn ?_
                  refine r_op (t_pickF rfl) ⟨rfl, k_B _, trivial⟩ ?_
                  refine r_mv ?_
                  refine r_opn ?_
                  refine r_opn ?_
                  refine r_op (t_pickF rfl) ⟨rfl, k_B _, trivial⟩ ?_
                  refine r_mv ?_
                  refine r_opn ?_
                  refine r_opn ?_
                  refine r_opn ?_
                  refine r_opn ?_
                  refine r_opn ?_
                  refine r_opn ?_
                  refine r_opn ?_
                  refine r_op (t_pickF rfl) ⟨rfl, k_B _, trivial⟩ ?_
                  refine r_as ?_
                  refine r_nil (r_next (r_ret (r_toR ?_)))
                  obtain rfl := sm1 hF
                  exact r_done1 (.inl rfl) Tryz.results44 (.tmp rfl .nil) rfl rfl
def F_gantryref09_without_j24 (K : Nat) (x17 : List (List Rat)) : Option (List (List Rat)) :=
  some x17
def F_gantryref09_without_l23 (K : Nat) (a0 : List (List Rat)) (a1 : Int) : Nat → (List (List Rat)) → Int → Option (List (List Rat))
  | 0, _, _ => none
  | k + 1, x10, x16 => bif (decide (x16 < (a0.length : Int))) then ((rdL a0 x16).bind fun v30 => (slL v30 0 a1).bind fun x32 => (apL ([] : List Rat) x32).bind fun x34 => (rdL a0 x16).bind fun v37 => (chk (a1 + 1)).bind fun v39 => (slL v37 v39 (v37.length : Int)).bind fun x41 => (apL x34 x41).bind fun x43 => (apL x10 [x43]).bind fun x45 => (chk (x16 + 1)).bind fun v52 => F_gantryref09_without_l23 K a0 a1 k x45 v52) else (some x10)
def F_gantryref09_without (K : Nat) (a0 : List (List Rat)) (a1 : Int) : Option (List (List Rat)) :=
  (F_gantryref09_without_l23 K a0 a1 K ([] : List (List Rat)) 1).bind fun x17 => F_gantryref09_without_j24 K x17
set_option maxRecDepth 100000 in
theorem ct_gantryref09_without {K : Nat} {a0 : List (List Rat)} {a1 : Int} {r : List (List Rat)} (hF : F_gantryref09_without K a0 a1 = some r) : Ct Tryz.prog 105 [.vc (pS (cSl cQ) a0), .vc (pI .i64 a1)] (.vc (pS (cSl cQ) r)) := by
  unfold F_gantryref09_without at hF
  refine ctO_intro Tryz.func105 rfl (by kernel_rfl) Tryz.ntmps105 rfl (fun w0 M0 => ?_)
  refine r_seq (r_reg (r_op (t_mv (.inr rfl)) ⟨k_nil (cSl cQ), trivial⟩ ?_))
  refine r_nil (r_next (r_seq (r_reg (r_nilO (cSl cQ) 24 rfl ?_))))
  refine r_nil (r_next (r_seq (r_seq (r_reg (r_op (t_mv (.inr rfl)) ⟨k_I _ _, trivial⟩ ?_)))))
  refine r_nil (r_next (r_blk (r_cutN (fun H E => ∃ (x17 : List (List Rat)), ∃ (b18 : Option Nat), ∃ (c19 : Nat), ∃ (n20 : Nat), F_gantryref09_without_j24 K x17 = some r ∧ x17.length = n20 ∧ H = [hO (cSl cQ) b18 c19 24 n20 x17] ∧ E = [(5, .vc (pO b18 n20 c19))]) ?_ (fun Jj24 => ?_))))
  · rintro _ _ ⟨x17, b18, c19, n20, hF, q21, rfl, rfl⟩
    unfold F_gantryref09_without_j24 at hF
    refine r_next (r_seq (r_reg (r_mv ?_)))
    refine r_as ?_
    refine r_nil (r_next (r_ret (r_toR (r_fzX 0 [4, 5, 33] rfl q21 ⟨rfl, rfl, rfl, trivial⟩ rfl ?_))))
    obtain rfl := sm1 hF
    exact r_done1 (.inl rfl) Tryz.results105 (.tmp rfl .nil) rfl rfl
  · skip
    obtain ⟨x17', hL, hRl23⟩ := bnd hF
    refine r_lp (fun k a w => ∃ (x10 : List (List Rat)), ∃ (x16 : Int), ∃ (b11 : Option Nat), ∃ (c12 : Nat), ∃ (n13 : Nat), F_gantryref09_without_l23 K a0 a1 k x10 x16 = some x17' ∧ x10.length = n13 ∧ hs _ [hO (cSl cQ) b11 c12 24 n13 x10] [(0, .vc (pS (cSl cQ) a0)), (1, .vc (pI .i64 a1)), (5, .vc (pO b11 n13 c12)), (6, .vc (pI .i64 x16))] a w) K (fun a w ⟨_, _, _, _, _, hF, _, _⟩ => by cases hF) (fun k a w ⟨x10, x16, b11, c12, n13, hF, q14, hh⟩ => r_at ?_ hh) (fun a w hh => ⟨([] : List (List Rat)), 1, none, 0, 0, hL, rfl, hs_back [0] rfl (by decide) (by exact ⟨rfl, rfl, rfl, rfl, trivial⟩) hh⟩)
    rw [F_gantryref09_without_l23.eq_2] at hF
    refine r_seq (r_seq (r_reg (r_mv ?_)))
    refine r_mv ?_
    refine r_op (t_ln rfl tyS47) ⟨rfl, trivial⟩ ?_
    refine r_op (t_lt rfl) ⟨rfl, rfl, trivial⟩ ?_
    refine r_nil (r_next (r_if rfl (fun h25 => ?_) (fun h25 => ?_)))
    · have hF := cnd_t h25 hF
      refine r_skip (r_next (r_seq (r_blk (r_seq (r_reg (r_nilO cQ 35 rfl ?_))))))
      refine r_nil (r_next ?_)
      obtain ⟨v30, h31, hF⟩ := bnd hF
      obtain ⟨x32, h33, hF⟩ := bnd hF
      obtain ⟨x34, h35, hF⟩ := bnd hF
      obtain ⟨v37, h38, hF⟩ := bnd hF
      obtain ⟨v39, h40, hF⟩ := bnd hF
      obtain ⟨x41, h42, hF⟩ := bnd hF
      obtain ⟨x43, h44, hF⟩ := bnd hF
      refine r_drawH (HsL [fun G28 => [hO cQ none 0 35 0 ([] : List Rat), hO (cSl cQ) b11 c12 24 n13 x10], fun G28 => [hO cQ ((G28 8).1) ((G28 8).2) 35 (0 + x32.length) x34, hO (cSl cQ) b11 c12 24 n13 x10], fun G28 => [hO (cSl cQ) b11 c12 24 n13 x10]]) [8, 16] [0, 0, 0, 0, 12, 28, 0, 124, 254, 0, 0, 1536, 3584, 0, 8192, 32256, 65534, 131070, 262143, 524287] 18 2 [.v (.vc (pO b11 n13 c12)), .v (.vc (pO none 0 0)), .v (.vc (pS (cSl cQ) a0)), .v (.vc (pI .i64 x16)), .v (.vc (pM ((cSl cQ).e v30))), .v (.vc (pS cQ v30)), .v (.vc (pI .i64 a1)), .v (.vc (pS cQ x32)), .g (fun b c => .vc (pO b (0 + x32.length) c)), .v (.vc (pS (cSl cQ) a0)), .v (.vc (pI .i64 x16)), .v (.vc (pM ((cSl cQ).e v37))), .v (.vc (pS cQ v37)), .v (.vc (pI .i64 a1)), .v (.vc (pI .i64 v39)), .v (.vc (pS cQ x41)), .g (fun _ _ => .vc (pS cQ x43)), .v (.vc (pS (cSl cQ) [x43]))] Tryz_mixed ⟨⟨rfl, .run (lo := 0) (n := 3) ⟨fun G28 A => t_mv (.inl rfl), fun G28 A => t_mv (.inl rfl), fun G28 A => t_mv (.inl rfl), trivial⟩ (fun G28 => ⟨rfl, trivial⟩)⟩, ⟨rfl, .run (lo := 0) (n := 1) ⟨fun G28 A => t_mv (.inl rfl), trivial⟩ (fun G28 => ⟨rfl, trivial⟩)⟩, ⟨rfl, .run (lo := 0) (n := 1) ⟨fun G28 A => t_mv (.inl rfl), trivial⟩ (fun G28 => ⟨rfl, trivial⟩)⟩, ⟨rfl, .run (lo := 0) (n := 1) ⟨fun G28 A => t_mv (.inl rfl), trivial⟩ (fun G28 => ⟨rfl, trivial⟩)⟩, ⟨rfl, .run (lo := 0) (n := 1) ⟨fun G28 A => t_ix rfl tyS47 h31, trivial⟩ (fun G28 => ⟨rfl, rfl, trivial⟩)⟩, ⟨rfl, .run (lo := 0) (n := 1) ⟨fun G28 A => t_lM 1 rfl rfl (.one tyO24), trivial⟩ (fun G28 => ⟨rfl, trivial⟩)⟩, ⟨rfl, .run (lo := 0) (n := 1) ⟨fun G28 A => t_mv (.inl rfl), trivial⟩ (fun G28 => ⟨rfl, trivial⟩)⟩, ⟨rfl, .run (lo := 0) (n := 1) ⟨fun G28 A => t_cutH rfl tyS24 h33, trivial⟩ (fun G28 => ⟨rfl, rfl, trivial⟩)⟩, ⟨rfl, .hvy 0 (fun G28 A => hv_app 0 rfl tyS24 rfl rfl rfl h35) (fun G28 => ⟨rfl, rfl, trivial⟩)⟩, ⟨rfl, .run (lo := 0) (n := 2) ⟨fun G28 A => t_mv (.inl rfl), fun G28 A => t_mv (.inl rfl), trivial⟩ (fun G28 => ⟨rfl, trivial⟩)⟩, ⟨rfl, .run (lo := 0) (n := 2) ⟨fun G28 A => t_mv (.inl rfl), fun G28 A => t_mv (.inl rfl), trivial⟩ (fun G28 => ⟨rfl, trivial⟩)⟩, ⟨rfl, .run (lo := 0) (n := 2) ⟨fun G28 A => t_ix rfl tyS47 h38, fun G28 A => t_ix rfl tyS47 h38, trivial⟩ (fun G28 => ⟨rfl, rfl, trivial⟩)⟩, ⟨rfl, .run (lo := 0) (n := 2) ⟨fun G28 A => t_lM 1 rfl rfl (.one tyO24), fun G28 A => t_lM 1 rfl rfl (.one tyO24), trivial⟩ (fun G28 => ⟨rfl, trivial⟩)⟩, ⟨rfl, .run (lo := 0) (n := 2) ⟨fun G28 A => t_mv (.inl rfl), fun G28 A => t_mv (.inl rfl), trivial⟩ (fun G28 => ⟨rfl, trivial⟩)⟩, ⟨rfl, .run (lo := 0) (n := 2) ⟨fun G28 A => t_add rfl h40, fun G28 A => t_add rfl h40, trivial⟩ (fun G28 => ⟨rfl, k_I _ _, trivial⟩)⟩, ⟨rfl, .run (lo := 0) (n := 2) ⟨fun G28 A => t_cutL rfl tyS24 h42, fun G28 A => t_cutL rfl tyS24 h42, trivial⟩ (fun G28 => ⟨rfl, rfl, trivial⟩)⟩, ⟨rfl, .hvy 1 (fun G28 A => hv_tr (tr_frz 0 (hv_app 0 rfl tyS24 rfl rfl (apL_len h35 rfl) h44) (fun _ _ => rfl) (apL_len h44 (apL_len h35 rfl)) (fun _ _ => rfl))) (fun G28 => ⟨rfl, rfl, trivial⟩)⟩, ⟨rfl, .run (lo := 2) (n := 1) ⟨fun G28 A => t_bs (C := (cSl cQ)) (xs := [.tmp 30]) (ps := [.vc (pS cQ x43)]) (zs := [x43]) rfl tyS47 rfl ⟨⟨trivial, rfl⟩, trivial⟩ rfl, trivial⟩ (fun G28 => ⟨rfl, trivial⟩)⟩, trivial⟩ (fun bs29 G28 => ?_)
      obtain ⟨x45, h46, hF⟩ := bnd hF
      refine r_app 0 rfl tyS47 rfl rfl q14 rfl rfl h46 (fun b47 c48 H49 e50 => ?_)
      cases e50
      refine r_as ?_
      refine r_nil (r_blkN (r_next (r_reg (r_mv ?_))))
      obtain ⟨v52, h53, hF⟩ := bnd hF
      refine r_op (t_add rfl h53) ⟨rfl, k_I _ _, trivial⟩ ?_
      refine r_as ?_
      refine r_nil ?_
      exact r_round (fun a w hh => ⟨x45, v52, b47, c48, (n13 + [x43].length), hF, (apL_len h46 q14), hs_back [0] rfl (by decide) (by exact ⟨rfl, rfl, rfl, rfl, trivial⟩) hh⟩)
    · have hF := cnd_f h25 hF
      refine r_brk ?_
      obtain rfl := sm1 hF
      exact r_backJ Jj24 ⟨x10, b11, c12, n13, hRl23, q14, rfl, rfl⟩ [0] rfl ⟨rfl, trivial⟩
def F_gantryref09_Det_b_j12 (K : Nat) (x10 : Rat) : Option Rat :=
  some x10
def F_gantryref09_Det_b_l11 (K : Nat) (a0 : List (List Rat)) (self : (List (List Rat)) → Option Rat) : Nat → Rat → Int → Option Rat
  | 0, _, _ => none
  | k + 1, x8, x9 => bif (decide (x9 < (a0.length : Int))) then ((rdL a0 0).bind fun v14 => (rdL v14 x9).bind fun v16 => (qsgn v16).bind fun v18 => bif (v18 == 0) then ((chk (x9 + 1)).bind fun v21 => F_gantryref09_Det_b_l11 K a0 self k x8 v21) else ((rdL a0 0).bind fun v25 => (rdL v25 x9).bind fun v27 => (F_gantryref09_without K a0 x9).bind fun v29 => (self v29).bind fun v31 => (qmul v27 v31).bind fun v33 => (chr x9 2).bind fun v35 => bif (v35 == 1) then ((qneg v33).bind fun v38 => (qadd x8 v38).bind fun v40 => (chk (x9 + 1)).bind fun v42 => F_gantryref09_Det_b_l11 K a0 self k v40 v42) else ((qadd x8 v33).bind fun v44 => (chk (x9 + 1)).bind fun v46 => F_gantryref09_Det_b_l11 K a0 self k v44 v46))) else (some x8)
def F_gantryref09_Det_b (K : Nat) (self : (List (List Rat)) → Option Rat) (a0 : List (List Rat)) : Option Rat :=
  bif ((a0.length : Int) == 0) then ((qof 1 1).bind fun v3 => some v3) else ((F_gantryref09_Det_b_l11 K a0 self K 0 0).bind fun x10 => F_gantryref09_Det_b_j12 K x10)
set_option maxRecDepth 100000 in
theorem ct_gantryref09_Det_b {K : Nat} {self : (List (List Rat)) → Option Rat} (hself : ∀ {a0 : List (List Rat)} {r : Rat}, self a0 = some r → Ct Tryz.prog 45 [.vc (pS (cSl cQ) a0)] (.va (eQ r))) {a0 : List (List Rat)} {r : Rat} (hF : F_gantryref09_Det_b K self a0 = some r) : Ct Tryz.prog 45 [.vc (pS (cSl cQ) a0)] (.va (eQ r)) := by
  unfold F_gantryref09_Det_b at hF
  refine ctO_intro Tryz.func45 rfl (by kernel_rfl) Tryz.ntmps45 rfl (fun w0 M0 => ?_)
  refine r_seq (r_reg (r_alloc rfl tyZ35q (fun b1 => ?_)))
  refine r_nil (r_next (r_seq (r_seq (r_reg (r_mv ?_)))))
  refine r_op (t_ln rfl tyS47) ⟨rfl, trivial⟩ ?_
  refine r_op (t_eq rfl) ⟨rfl, k_I _ _, trivial⟩ ?_
  refine r_nil (r_next (r_if rfl (fun h2 => ?_) (fun h2 => ?_)))
  · have hF := cnd_t h2 hF
    refine r_seq (r_reg ?_)
    obtain ⟨v3, h4, hF⟩ := bnd hF
    refine r_op (t_call rfl (qc_gantryref05_Of h4) rfl) ⟨k_I _ _, k_I _ _, trivial⟩ ?_
    refine r_op0 (t_s 0 rfl rfl rfl tyA35.s) ⟨rfl, rfl, trivial⟩ ?_
    refine r_nil (r_next (r_ret (r_toR ?_)))
    obtain rfl := sm1 hF
    exact r_done1 (.inl rfl) Tryz.results45 (rv_cell 0 4 rfl rfl rfl rfl (.agg tyA35) .nil) rfl rfl
  · have hF := cnd_f h2 hF
    refine r_skip (r_next (r_seq (r_reg (r_alloc rfl tyZ35q (fun b5 => ?_)))))
    refine r_nil (r_next (r_seq (r_seq (r_reg (r_op (t_mv (.inr rfl)) ⟨k_I _ _, trivial⟩ ?_)))))
    refine r_nil (r_next (r_blk (r_cutN (fun H E => ∃ (x10 : Rat), F_gantryref09_Det_b_j12 K x10 = some r ∧ H = [⟨some b5, 1, 35, 4, 1, (eQ x10)⟩, ⟨some b1, 1, 35, 4, 1, (eQ 0)⟩] ∧ E = [(2, .vc (pP (some b1) 0)), (3, .vc (pP (some b5) 0))]) ?_ (fun Jj12 => ?_))))
    · rintro _ _ ⟨x10, hF, rfl, rfl⟩
      unfold F_gantryref09_Det_b_j12 at hF
      refine r_next (r_seq (r_reg (r_op (t_l 0 4 rfl rfl rfl rfl (.agg tyA35)) ⟨rfl, trivial⟩ ?_)))
      refine r_op0 (t_s 1 rfl rfl rfl tyA35.s) ⟨rfl, rfl, trivial⟩ ?_
      refine r_nil (r_next (r_ret (r_toR ?_)))
      obtain rfl := sm1 hF
      exact r_done1 (.inl rfl) Tryz.results45 (rv_cell 1 4 rfl rfl rfl rfl (.agg tyA35) .nil) rfl rfl
    · skip
      obtain ⟨x10', hL, hRl11⟩ := bnd hF
      refine r_lp (fun k a w => ∃ (x8 : Rat), ∃ (x9 : Int), F_gantryref09_Det_b_l11 K a0 self k x8 x9 = some x10' ∧ hs _ [⟨some b5, 1, 35, 4, 1, (eQ x8)⟩, ⟨some b1, 1, 35, 4, 1, (eQ 0)⟩] [(0, .vc (pS (cSl cQ) a0)), (2, .vc (pP (some b1) 0)), (3, .vc (pP (some b5) 0)), (4, .vc (pI .i64 x9))] a w) K (fun a w ⟨_, _, hF, _⟩ => by cases hF) (fun k a w ⟨x8, x9, hF, hh⟩ => r_at ?_ hh) (fun a w hh => ⟨0, 0, hL, hs_back [0, 1] rfl (by decide) (by exact ⟨rfl, rfl, rfl, rfl, trivial⟩) hh⟩)
      rw [F_gantryref09_Det_b_l11.eq_2] at hF
      refine r_seq (r_seq (r_reg (r_mv ?_)))
      refine r_mv ?_
      refine r_op (t_ln rfl tyS47) ⟨rfl, trivial⟩ ?_
      refine r_op (t_lt rfl) ⟨rfl, rfl, trivial⟩ ?_
      refine r_nil (r_next (r_if rfl (fun h13 => ?_) (fun h13 => ?_)))
      · have hF := cnd_t h13 hF
        refine r_skip (r_next (r_seq (r_blk (r_seq (r_seq (r_reg (r_mv ?_)))))))
        obtain ⟨v14, h15, hF⟩ := bnd hF
        refine r_op (t_ix rfl tyS47 h15) ⟨rfl, k_I _ _, trivial⟩ ?_
        refine r_op (t_lM 1 rfl rfl (.one tyO24)) ⟨rfl, trivial⟩ ?_
        refine r_mv ?_
        obtain ⟨v16, h17, hF⟩ := bnd hF
        refine r_op (t_ix rfl tyS24 h17) ⟨rfl, rfl, trivial⟩ ?_
        refine r_op (t_lM 4 rfl rfl (.agg tyA35)) ⟨rfl, trivial⟩ ?_
        obtain ⟨v18, h19, hF⟩ := bnd hF
        refine r_op (t_call rfl (qc_gantryref05_Sign h19) rfl) ⟨rfl, trivial⟩ ?_
        refine r_op (t_eq rfl) ⟨rfl, k_I _ _, trivial⟩ ?_
        refine r_nil (r_next (r_if rfl (fun h20 => ?_) (fun h20 => ?_)))
        · have hF := cnd_t h20 hF
          refine r_brk (r_next (r_reg (r_mv ?_)))
          obtain ⟨v21, h22, hF⟩ := bnd hF
          refine r_op (t_add rfl h22) ⟨rfl, k_I _ _, trivial⟩ ?_
          refine r_as ?_
          refine r_nil ?_
          exact r_round (fun a w hh => ⟨x8, v21, hF, hs_back [0, 1] rfl (by decide) (by exact ⟨rfl, rfl, rfl, rfl, trivial⟩) hh⟩)
        · have hF := cnd_f h20 hF
          refine r_skip (r_next (r_seq ?_))
          obtain ⟨v25, h26, hF⟩ := bnd hF
          obtain ⟨v27, h28, hF⟩ := bnd hF
          obtain ⟨v29, h30, hF⟩ := bnd hF
          obtain ⟨v31, h32, hF⟩ := bnd hF
          obtain ⟨v33, h34, hF⟩ := bnd hF
          refine r_draw [0, 1, 3, 0, 15, 31, 0, 0, 192, 448, 1023, 0, 4095] 12 1 [.v (.vc (pS (cSl cQ) a0)), .v (.vc (pM ((cSl cQ).e v25))), .v (.vc (pS cQ v25)), .v (.vc (pI .i64 x9)), .v (.vc (pM (cQ.e v27))), .v (.va (eQ v27)), .v (.vc (pS (cSl cQ) a0)), .v (.vc (pI .i64 x9)), .v (.vc (pS (cSl cQ) v29)), .v (.va (eQ v31)), .v (.va (eQ v33)), .a 35 (eQ 0)] Tryz_mixed ⟨⟨rfl, .run (lo := 0) (n := 1) ⟨fun G23 A => t_mv (.inl rfl), trivial⟩ (fun G23 => ⟨rfl, trivial⟩)⟩, ⟨rfl, .run (lo := 0) (n := 1) ⟨fun G23 A => t_ix rfl tyS47 h26, trivial⟩ (fun G23 => ⟨rfl, k_I _ _, trivial⟩)⟩, ⟨rfl, .run (lo := 0) (n := 1) ⟨fun G23 A => t_lM 1 rfl rfl (.one tyO24), trivial⟩ (fun G23 => ⟨rfl, trivial⟩)⟩, ⟨rfl, .run (lo := 0) (n := 1) ⟨fun G23 A => t_mv (.inl rfl), trivial⟩ (fun G23 => ⟨rfl, trivial⟩)⟩, ⟨rfl, .run (lo := 0) (n := 1) ⟨fun G23 A => t_ix rfl tyS24 h28, trivial⟩ (fun G23 => ⟨rfl, rfl, trivial⟩)⟩, ⟨rfl, .run (lo := 0) (n := 1) ⟨fun G23 A => t_lM 4 rfl rfl (.agg tyA35), trivial⟩ (fun G23 => ⟨rfl, trivial⟩)⟩, ⟨rfl, .run (lo := 0) (n := 1) ⟨fun G23 A => t_mv (.inl rfl), trivial⟩ (fun G23 => ⟨rfl, trivial⟩)⟩, ⟨rfl, .run (lo := 0) (n := 1) ⟨fun G23 A => t_mv (.inl rfl), trivial⟩ (fun G23 => ⟨rfl, trivial⟩)⟩, ⟨rfl, .run (lo := 0) (n := 1) ⟨fun G23 A => t_call rfl (ct_gantryref09_without h30) rfl, trivial⟩ (fun G23 => ⟨rfl, rfl, trivial⟩)⟩, ⟨rfl, .run (lo := 0) (n := 1) ⟨fun G23 A => t_call rfl (hself h32) rfl, trivial⟩ (fun G23 => ⟨rfl, trivial⟩)⟩, ⟨rfl, .run (lo := 0) (n := 1) ⟨fun G23 A => t_call rfl (qc_gantryref05_Mul h34) rfl, trivial⟩ (fun G23 => ⟨rfl, rfl, trivial⟩)⟩, ⟨rfl, .alc tyZ35q⟩, trivial⟩ (fun bs24 G23 => ?_)
          refine r_op0 (t_s 0 rfl rfl rfl tyA35.s) ⟨rfl, rfl, trivial⟩ ?_
          refine r_nil (r_next (r_seq (r_seq (r_reg (r_mv ?_)))))
          obtain ⟨v35, h36, hF⟩ := bnd hF
          refine r_op (t_rem rfl h36) ⟨rfl, k_I _ _, trivial⟩ ?_
          refine r_op (t_eq rfl) ⟨rfl, k_I _ _, trivial⟩ ?_
          refine r_nil (r_next (r_if rfl (fun h37 => ?_) (fun h37 => ?_)))
          · have hF := cnd_t h37 hF
            refine r_reg (r_op (t_l 0 4 rfl rfl rfl rfl (.agg tyA35)) ⟨rfl, trivial⟩ ?_)
            obtain ⟨v38, h39, hF⟩ := bnd hF
            refine r_op (t_call rfl (qc_gantryref05_Neg h39) rfl) ⟨rfl, trivial⟩ ?_
            refine r_op0 (t_s 0 rfl rfl rfl tyA35.s) ⟨rfl, rfl, trivial⟩ ?_
            refine r_nil (r_next (r_reg (r_op (t_l 1 4 rfl rfl rfl rfl (.agg tyA35)) ⟨rfl, trivial⟩ ?_)))
            refine r_op (t_l 0 4 rfl rfl rfl rfl (.agg tyA35)) ⟨rfl, trivial⟩ ?_
            obtain ⟨v40, h41, hF⟩ := bnd hF
            refine r_op (t_call rfl (qc_gantryref05_Add h41) rfl) ⟨rfl, rfl, trivial⟩ ?_
            refine r_op0 (t_s 1 rfl rfl rfl tyA35.s) ⟨rfl, rfl, trivial⟩ ?_
            refine r_nil (r_blkN (r_next (r_reg (r_mv ?_))))
            obtain ⟨v42, h43, hF⟩ := bnd hF
            refine r_op (t_add rfl h43) ⟨rfl, k_I _ _, trivial⟩ ?_
            refine r_as ?_
            refine r_nil ?_
            exact r_round (fun a w hh => ⟨v40, v42, hF, hs_back [1, 2] rfl (by decide) (by exact ⟨rfl, rfl, rfl, rfl, trivial⟩) hh⟩)
          · have hF := cnd_f h37 hF
            refine r_skip (r_next (r_reg (r_op (t_l 1 4 rfl rfl rfl rfl (.agg tyA35)) ⟨rfl, trivial⟩ ?_)))
            refine r_op (t_l 0 4 rfl rfl rfl rfl (.agg tyA35)) ⟨rfl, trivial⟩ ?_
            obtain ⟨v44, h45, hF⟩ := bnd hF
            refine r_op (t_call rfl (qc_gantryref05_Add h45) rfl) ⟨rfl, rfl, trivial⟩ ?_
            refine r_op0 (t_s 1 rfl rfl rfl tyA35.s) ⟨rfl, rfl, trivial⟩ ?_
            refine r_nil (r_blkN (r_next (r_reg (r_mv ?_))))
            obtain ⟨v46, h47, hF⟩ := bnd hF
            refine r_op (t_add rfl h47) ⟨rfl, k_I _ _, trivial⟩ ?_
            refine r_as ?_
            refine r_nil ?_
            exact r_round (fun a w hh => ⟨v44, v46, hF, hs_back [1, 2] rfl (by decide) (by exact ⟨rfl, rfl, rfl, rfl, trivial⟩) hh⟩)
      · have hF := cnd_f h13 hF
        refine r_brk ?_
        obtain rfl := sm1 hF
        exact r_backJ Jj12 ⟨x8, hRl11, rfl, rfl⟩ [0, 1] rfl ⟨rfl, rfl, trivial⟩
def F_gantryref09_Det_r (K : Nat) : Nat → (List (List Rat)) → Option Rat
  | 0, _ => none
  | k + 1, a0 => F_gantryref09_Det_b K (F_gantryref09_Det_r K k) a0
theorem ct_gantryref09_Det_r {K : Nat} : ∀ (k : Nat) {a0 : List (List Rat)} {r : Rat}, F_gantryref09_Det_r K k a0 = some r → Ct Tryz.prog 45 [.vc (pS (cSl cQ) a0)] (.va (eQ r))
  | 0, _, _, h => by cases h
  | k + 1, _, _, h => ct_gantryref09_Det_b (fun h => ct_gantryref09_Det_r k h) h
def F_gantryref09_Det (K : Nat) (a0 : List (List Rat)) : Option Rat := F_gantryref09_Det_r K K a0
theorem ct_gantryref09_Det {K : Nat} {a0 : List (List Rat)} {r : Rat} (hF : F_gantryref09_Det K a0 = some r) : Ct Tryz.prog 45 [.vc (pS (cSl cQ) a0)] (.va (eQ r)) := ct_gantryref09_Det_r K hF
def F_gantrylaw09_MatrixDets_j5 (K : Nat) (a0 : List Int) (a2 : Int) (v1 : Int × Int) (x4 : Int) : Option Bool :=
  (F_gantryref09_Matrix K a0 0 v1.1 x4).bind fun v6 => (F_matrix_Det K v6).bind fun v8 => (F_matrix_Rank K v6).bind fun v11 => (F_gantrylaw09_ragged v6 a2).bind fun v13 => (F_matrix_Det K v13).bind fun v15 => (F_gantrylaw09_ragged v6 a2).bind fun v18 => (F_matrix_Rank K v18).bind fun v20 => bif (v11.2 != 0) then (some false) else ((F_gantryref09_Rank K v6).bind fun v23 => bif (v11.1 != v23) then (some false) else (bif (v15.2 != 1) then (some false) else (bif (v20.2 != 1) then (some false) else (bif (v1.1 != x4) then (bif (v8.2 == 1) then ((F_gantrylaw09_lives K ).bind fun v30 => some v30) else (some false)) else (bif (v8.2 == 0) then ((F_gantryref09_Det K v6).bind fun v35 => (qsame v8.1 v35).bind fun v37 => bif v37 then ((F_gantrylaw09_lives K ).bind fun v40 => some v40) else (some false)) else (some false))))))
def F_gantrylaw09_MatrixDets (K : Nat) (a0 : List Int) (a1 : Int) (a2 : Int) : Option Bool :=
  (F_gantrylaw09_sizes a1).bind fun v1 => (chr a2 3).bind fun v42 => bif (v42 != 0) then (bif (decide (0 < v1.1)) then (F_gantrylaw09_MatrixDets_j5 K a0 a2 v1 v1.1) else (F_gantrylaw09_MatrixDets_j5 K a0 a2 v1 v1.2)) else (F_gantrylaw09_MatrixDets_j5 K a0 a2 v1 v1.2)
set_option maxRecDepth 100000 in
theorem ct_gantrylaw09_MatrixDets {K : Nat} {a0 : List Int} {a1 : Int} {a2 : Int} {r : Bool} (hF : F_gantrylaw09_MatrixDets K a0 a1 a2 = some r) : Ct Tryz.prog 6 [.vc (pS cI a0), .vc (pI .i64 a1), .vc (pI .i64 a2)] (.vc (pB r)) := by
  unfold F_gantrylaw09_MatrixDets at hF
  refine ctO_intro Tryz.func6 rfl (by kernel_rfl) Tryz.ntmps6 rfl (fun w0 M0 => ?_)
  refine r_seq (r_reg (r_op (t_mv (.inr rfl)) ⟨k_B _, trivial⟩ ?_))
  refine r_nil (r_next (r_seq (r_reg (r_mv ?_))))
  obtain ⟨v1, h2, hF⟩ := bnd hF
  refine r_op (t_call rfl (ct_gantrylaw09_sizes h2) rfl) ⟨rfl, trivial⟩ ?_
  refine r_mv ?_
  refine r_op (t_ext2a rfl) ⟨rfl, trivial⟩ ?_
  refine r_op (t_ext2b rfl) ⟨rfl, trivial⟩ ?_
  refine r_as ?_
  refine r_as ?_
  refine r_nil (r_next (r_seq (r_cutS (fun H E => ∃ (x4 : Int), F_gantrylaw09_MatrixDets_j5 K a0 a2 v1 x4 = some r ∧ H = [] ∧ E = [(0, .vc (pS cI a0)), (2, .vc (pI .i64 a2)), (7, .vc (pI .i64 v1.1)), (8, .vc (pI .i64 x4))]) ?_ (fun Jj5 => ?_))))
  · rintro _ _ ⟨x4, hF, rfl, rfl⟩
    unfold F_gantrylaw09_MatrixDets_j5 at hF
    refine r_seq (r_reg (r_mv ?_))
    refine r_mv ?_
    refine r_mv ?_
    obtain ⟨v6, h7, hF⟩ := bnd hF
    refine r_op (t_call rfl (ct_gantryref09_Matrix h7) rfl) ⟨rfl, k_I _ _, rfl, rfl, trivial⟩ ?_
    refine r_as ?_
    refine r_nil (r_next (r_seq (r_reg (r_mv ?_))))
    obtain ⟨v8, h9, hF⟩ := bnd hF
    refine r_op (t_call rfl (ct_matrix_Det h9) rfl) ⟨rfl, trivial⟩ ?_
    refine r_mv ?_
    refine r_op (t_ext2a rfl) ⟨rfl, trivial⟩ ?_
    refine r_op (t_ext2b rfl) ⟨rfl, trivial⟩ ?_
    refine r_alloc rfl tyZ35q (fun b10 => ?_)
    refine r_op0 (t_s 0 rfl rfl rfl tyA35.s) ⟨rfl, rfl, trivial⟩ ?_
    refine r_as ?_
    refine r_nil (r_next (r_seq (r_reg (r_mv ?_))))
    obtain ⟨v11, h12, hF⟩ := bnd hF
    refine r_op (t_call rfl (ct_matrix_Rank h12) rfl) ⟨rfl, trivial⟩ ?_
    refine r_mv ?_
    refine r_op (t_ext2a rfl) ⟨rfl, trivial⟩ ?_
    refine r_op (t_ext2b rfl) ⟨rfl, trivial⟩ ?_
    refine r_as ?_
    refine r_as ?_
    refine r_nil (r_next (r_seq (r_reg (r_mv ?_))))
    refine r_mv ?_
    obtain ⟨v13, h14, hF⟩ := bnd hF
    refine r_op (t_call rfl (ct_gantrylaw09_ragged h14) rfl) ⟨rfl, rfl, trivial⟩ ?_
    obtain ⟨v15, h16, hF⟩ := bnd hF
    refine r_op (t_call rfl (ct_matrix_Det h16) rfl) ⟨rfl, trivial⟩ ?_
    refine r_mv ?_
    refine r_op (t_ext2a rfl) ⟨rfl, trivial⟩ ?_
    refine r_op (t_ext2b rfl) ⟨rfl, trivial⟩ ?_
    refine r_alloc rfl tyZ35q (fun b17 => ?_)
    refine r_op0 (t_s 0 rfl rfl rfl tyA35.s) ⟨rfl, rfl, trivial⟩ ?_
    refine r_as ?_
    refine r_nil (r_next (r_seq (r_reg (r_mv ?_))))
    refine r_mv ?_
    obtain ⟨v18, h19, hF⟩ := bnd hF
    refine r_op (t_call rfl (ct_gantrylaw09_ragged h19) rfl) ⟨rfl, rfl, trivial⟩ ?_
    obtain ⟨v20, h21, hF⟩ := bnd hF
    refine r_op (t_call rfl (ct_matrix_Rank h21) rfl) ⟨rfl, trivial⟩ ?_
    refine r_mv ?_
    refine r_op (t_ext2a rfl) ⟨rfl, trivial⟩ ?_
    refine r_op (t_ext2b rfl) ⟨rfl, trivial⟩ ?_
    refine r_as ?_
    refine r_as ?_
    refine r_nil (r_next (r_seq (r_seq (r_reg (r_mv ?_)))))
    refine r_op (t_ne rfl) ⟨rfl, k_I _ _, trivial⟩ ?_
    refine r_mv ?_
    refine r_bool (fun h22 => ?_) (fun h22 => ?_)
    · have hF := cnd_t h22 hF
      refine r_opn ?_
      refine r_opn ?_
      refine r_opn ?_
      refine r_opn ?_
      refine r_op (t_pickT rfl) ⟨rfl, k_B _, trivial⟩ ?_
      refine r_mv ?_
      refine r_opn ?_
      refine r_opn ?_
      refine r_op (t_pickT rfl) ⟨rfl, k_B _, trivial⟩ ?_
      refine r_mv ?_
      refine r_opn ?_
      refine r_opn ?_
      refine r_op (t_pickT rfl) ⟨rfl, k_B _, trivial⟩ ?_
      refine r_nil (r_next (r_ifT rfl ?_))
      refine r_seq (r_reg (r_op (t_mv (.inr rfl)) ⟨k_B _, trivial⟩ ?_))
      refine r_nil (r_next (r_ret (r_toR ?_)))
      obtain rfl := sm1 hF
      exact r_done1 (.inl rfl) Tryz.results6 (.tmp rfl .nil) rfl rfl
    · have hF := cnd_f h22 hF
      refine r_opg (t_mv (.inl rfl)) ⟨rfl, trivial⟩ ?_
      refine r_opg (t_mv (.inl rfl)) ⟨rfl, trivial⟩ ?_
      obtain ⟨v23, h24, hF⟩ := bnd hF
      refine r_opg (t_call rfl (ct_gantryref09_Rank h24) rfl) ⟨rfl, trivial⟩ ?_
      refine r_opg (t_ne rfl) ⟨rfl, rfl, trivial⟩ ?_
      refine r_op (t_pickF rfl) ⟨rfl, rfl, trivial⟩ ?_
      refine r_mv ?_
      refine r_bool (fun h25 => ?_) (fun h25 => ?_)
      · have hF := cnd_t h25 hF
        refine r_opn ?_
        refine r_opn ?_
        refine r_op (t_pickT rfl) ⟨rfl, k_B _, trivial⟩ ?_
        refine r_mv ?_
        refine r_opn ?_
        refine r_opn ?_
        refine r_op (t_pickT rfl) ⟨rfl, k_B _, trivial⟩ ?_
        refine r_nil (r_next (r_ifT rfl ?_))
        refine r_seq (r_reg (r_op (t_mv (.inr rfl)) ⟨k_B _, trivial⟩ ?_))
        refine r_nil (r_next (r_ret (r_toR ?_)))
        obtain rfl := sm1 hF
        exact r_done1 (.inl rfl) Tryz.results6 (.tmp rfl .nil) rfl rfl
      · have hF := cnd_f h25 hF
        refine r_opg (t_mv (.inl rfl)) ⟨rfl, trivial⟩ ?_
        refine r_opg (t_ne rfl) ⟨rfl, k_I _ _, trivial⟩ ?_
        refine r_op (t_pickF rfl) ⟨rfl, rfl, trivial⟩ ?_
        refine r_mv ?_
        refine r_bool (fun h26 => ?_) (fun h26 => ?_)
        · have hF := cnd_t h26 hF
          refine r_opn ?_
          refine r_opn ?_
          refine r_op (t_pickT rfl) ⟨rfl, k_B _, trivial⟩ ?_
          refine r_nil (r_next (r_ifT rfl ?_))
          refine r_seq (r_reg (r_op (t_mv (.inr rfl)) ⟨k_B _, trivial⟩ ?_))
          refine r_nil (r_next (r_ret (r_toR ?_)))
          obtain rfl := sm1 hF
          exact r_done1 (.inl rfl) Tryz.results6 (.tmp rfl .nil) rfl rfl
        · have hF := cnd_f h26 hF
          refine r_opg (t_mv (.inl rfl)) ⟨rfl, trivial⟩ ?_
          refine r_opg (t_ne rfl) ⟨rfl, k_I _ _, trivial⟩ ?_
          refine r_op (t_pickF rfl) ⟨rfl, rfl, trivial⟩ ?_
          refine r_nil (r_next (r_if rfl (fun h27 => ?_) (fun h27 => ?_)))
          · have hF := cnd_t h27 hF
            refine r_seq (r_reg (r_op (t_mv (.inr rfl)) ⟨k_B _, trivial⟩ ?_))
            refine r_nil (r_next (r_ret (r_toR ?_)))
            obtain rfl := sm1 hF
            exact r_done1 (.inl rfl) Tryz.results6 (.tmp rfl .nil) rfl rfl
          · have hF := cnd_f h27 hF
            refine r_skip (r_next (r_seq (r_seq (r_reg (r_mv ?_)))))
            refine r_mv ?_
            refine r_op (t_ne rfl) ⟨rfl, rfl, trivial⟩ ?_
            refine r_nil (r_next (r_if rfl (fun h28 => ?_) (fun h28 => ?_)))
            · have hF := cnd_t h28 hF
              refine r_seq (r_reg (r_mv ?_))
              refine r_op (t_eq rfl) ⟨rfl, k_I _ _, trivial⟩ ?_
              refine r_mv ?_
              refine r_bool (fun h29 => ?_) (fun h29 => ?_)
              · have hF := cnd_t h29 hF
                obtain ⟨v30, h31, hF⟩ := bnd hF
                refine r_opg (t_call rfl (ct_gantrylaw09_lives h31) rfl) trivial ?_
                refine r_op (t_pickT rfl) ⟨rfl, rfl, trivial⟩ ?_
                refine r_as ?_
                refine r_nil (r_next (r_ret (r_toR ?_)))
                obtain rfl := sm1 hF
                exact r_done1 (.inl rfl) Tryz.results6 (.tmp rfl .nil) rfl rfl
              · have hF := cnd_f h29 hF
                refine r_opn ?_
                refine r_op (t_pickF rfl) ⟨rfl, k_B _, trivial⟩ ?_
                refine r_as ?_
                refine r_nil (r_next (r_ret (r_toR ?_)))
                obtain rfl := sm1 hF
                exact r_done1 (.inl rfl) Tryz.results6 (.tmp rfl .nil) rfl rfl
            · have hF := cnd_f h28 hF
              refine r_skip (r_next (r_seq ?_))
              rcases Bool.eq_false_or_eq_true (v8.2 == 0) with h34 | h34
              · have hF := cnd_t h34 hF
                obtain ⟨v35, h36, hF⟩ := bnd hF
                obtain ⟨v37, h38, hF⟩ := bnd hF
                rcases Bool.eq_false_or_eq_true v37 with h39 | h39
                · have hF := cnd_t h39 hF
                  obtain ⟨v40, h41, hF⟩ := bnd hF
                  refine r_draw [0, 1, 3, 7, 7, 23, 63, 127, 255, 511, 1023, 2047] 12 0 [.v (.vc (pI .i64 v8.2)), .v (.vc (pB (v8.2 == 0))), .v (.vc (pB true)), .v (.va (eQ v8.1)), .v (.vc (pS (cSl cQ) v6)), .v (.va (eQ v35)), .v (.vc (pB v37)), .v (.vc (pB v37)), .v (.vc (pB true)), .v (.vc (pB v40)), .v (.vc (pB v40)), .v (.vc (pB v40))] Tryz_mixed ⟨⟨rfl, .run (lo := 0) (n := 1) ⟨fun G32 A => t_mv (.inl rfl), trivial⟩ (fun G32 => ⟨rfl, trivial⟩)⟩, ⟨rfl, .run (lo := 0) (n := 1) ⟨fun G32 A => t_eq rfl, trivial⟩ (fun G32 => ⟨rfl, k_I _ _, trivial⟩)⟩, ⟨rfl, .run (lo := 0) (n := 1) ⟨fun G32 A => tr_bool (t_mv (.inl rfl)) h34, trivial⟩ (fun G32 => ⟨rfl, trivial⟩)⟩, ⟨rfl, .runG (lo := 0) (n := 1) ⟨fun G32 A => t_l 1 4 rfl rfl rfl rfl (.agg tyA35), trivial⟩ (fun G32 => ⟨rfl, trivial⟩)⟩, ⟨rfl, .runG (lo := 0) (n := 1) ⟨fun G32 A => t_mv (.inl rfl), trivial⟩ (fun G32 => ⟨rfl, trivial⟩)⟩, ⟨rfl, .runG (lo := 0) (n := 1) ⟨fun G32 A => t_call rfl (ct_gantryref09_Det h36) rfl, trivial⟩ (fun G32 => ⟨rfl, trivial⟩)⟩, ⟨rfl, .runG (lo := 0) (n := 1) ⟨fun G32 A => t_call rfl (qc_rat_Same h38) rfl, trivial⟩ (fun G32 => ⟨rfl, rfl, trivial⟩)⟩, ⟨rfl, .run (lo := 0) (n := 1) ⟨fun G32 A => t_pickT rfl, trivial⟩ (fun G32 => ⟨rfl, rfl, trivial⟩)⟩, ⟨rfl, .run (lo := 0) (n := 1) ⟨fun G32 A => tr_bool (t_mv (.inl rfl)) h39, trivial⟩ (fun G32 => ⟨rfl, trivial⟩)⟩, ⟨rfl, .runG (lo := 0) (n := 1) ⟨fun G32 A => t_call rfl (ct_gantrylaw09_lives h41) rfl, trivial⟩ (fun G32 => trivial)⟩, ⟨rfl, .run (lo := 0) (n := 1) ⟨fun G32 A => t_pickT rfl, trivial⟩ (fun G32 => ⟨rfl, rfl, trivial⟩)⟩, ⟨rfl, .run (lo := 0) (n := 1) ⟨fun G32 A => t_mv (.inr rfl), trivial⟩ (fun G32 => ⟨rfl, trivial⟩)⟩, trivial⟩ (fun bs33 G32 => ?_)
                  refine r_nil (r_next (r_ret (r_toR ?_)))
                  obtain rfl := sm1 hF
                  exact r_done1 (.inl rfl) Tryz.results6 (.tmp rfl .nil) rfl rfl
                · have hF := cnd_f h39 hF
                  refine r_draw [0, 1, 3, 7, 7, 23, 63, 127, 255, 511, 1023, 2047] 12 0 [.v (.vc (pI .i64 v8.2)), .v (.vc (pB (v8.2 == 0))), .v (.vc (pB true)), .v (.va (eQ v8.1)), .v (.vc (pS (cSl cQ) v6)), .v (.va (eQ v35)), .v (.vc (pB v37)), .v (.vc (pB v37)), .v (.vc (pB false)), .v .any, .v (.vc (pB false)), .v (.vc (pB false))] Tryz_mixed ⟨⟨rfl, .run (lo := 0) (n := 1) ⟨fun G32 A => t_mv (.inl rfl), trivial⟩ (fun G32 => ⟨rfl, trivial⟩)⟩, ⟨rfl, .run (lo := 0) (n := 1) ⟨fun G32 A => t_eq rfl, trivial⟩ (fun G32 => ⟨rfl, k_I _ _, trivial⟩)⟩, ⟨rfl, .run (lo := 0) (n := 1) ⟨fun G32 A => tr_bool (t_mv (.inl rfl)) h34, trivial⟩ (fun G32 => ⟨rfl, trivial⟩)⟩, ⟨rfl, .runG (lo := 0) (n := 1) ⟨fun G32 A => t_l 1 4 rfl rfl rfl rfl (.agg tyA35), trivial⟩ (fun G32 => ⟨rfl, trivial⟩)⟩, ⟨rfl, .runG (lo := 0) (n := 1) ⟨fun G32 A => t_mv (.inl rfl), trivial⟩ (fun G32 => ⟨rfl, trivial⟩)⟩, ⟨rfl, .runG (lo := 0) (n := 1) ⟨fun G32 A => t_call rfl (ct_gantryref09_Det h36) rfl, trivial⟩ (fun G32 => ⟨rfl, trivial⟩)⟩, ⟨rfl, .runG (lo := 0) (n := 1) ⟨fun G32 A => t_call rfl (qc_rat_Same h38) rfl, trivial⟩ (fun G32 => ⟨rfl, rfl, trivial⟩)⟩, ⟨rfl, .run (lo := 0) (n := 1) ⟨fun G32 A => t_pickT rfl, trivial⟩ (fun G32 => ⟨rfl, rfl, trivial⟩)⟩, ⟨rfl, .run (lo := 0) (n := 1) ⟨fun G32 A => tr_bool (t_mv (.inl rfl)) h39, trivial⟩ (fun G32 => ⟨rfl, trivial⟩)⟩, ⟨rfl, .skip⟩, ⟨rfl, .run (lo := 0) (n := 1) ⟨fun G32 A => t_pickF rfl, trivial⟩ (fun G32 => ⟨rfl, k_B _, trivial⟩)⟩, ⟨rfl, .run (lo := 0) (n := 1) ⟨fun G32 A => t_mv (.inr rfl), trivial⟩ (fun G32 => ⟨rfl, trivial⟩)⟩, trivial⟩ (fun bs33 G32 => ?_)
                  refine r_nil (r_next (r_ret (r_toR ?_)))
                  obtain rfl := sm1 hF
                  exact r_done1 (.inl rfl) Tryz.results6 (.tmp rfl .nil) rfl rfl
              · have hF := cnd_f h34 hF
                refine r_draw [0, 1, 3, 7, 7, 23, 63, 127, 255, 511, 1023, 2047] 12 0 [.v (.vc (pI .i64 v8.2)), .v (.vc (pB (v8.2 == 0))), .v (.vc (pB false)), .v .any, .v .any, .v .any, .v .any, .v (.vc (pB false)), .v (.vc (pB false)), .v .any, .v (.vc (pB false)), .v (.vc (pB false))] Tryz_mixed ⟨⟨rfl, .run (lo := 0) (n := 1) ⟨fun G32 A => t_mv (.inl rfl), trivial⟩ (fun G32 => ⟨rfl, trivial⟩)⟩, ⟨rfl, .run (lo := 0) (n := 1) ⟨fun G32 A => t_eq rfl, trivial⟩ (fun G32 => ⟨rfl, k_I _ _, trivial⟩)⟩, ⟨rfl, .run (lo := 0) (n := 1) ⟨fun G32 A => tr_bool (t_mv (.inl rfl)) h34, trivial⟩ (fun G32 => ⟨rfl, trivial⟩)⟩, ⟨rfl, .skip⟩, ⟨rfl, .skip⟩, ⟨rfl, .skip⟩, ⟨rfl, .skip⟩, ⟨rfl, .run (lo := 0) (n := 1) ⟨fun G32 A => t_pickF rfl, trivial⟩ (fun G32 => ⟨rfl, k_B _, trivial⟩)⟩, ⟨rfl, .run (lo := 0) (n := 1) ⟨fun G32 A => t_mv (.inl rfl), trivial⟩ (fun G32 => ⟨rfl, trivial⟩)⟩, ⟨rfl, .skip⟩, ⟨rfl, .run (lo := 0) (n := 1) ⟨fun G32 A => t_pickF rfl, trivial⟩ (fun G32 => ⟨rfl, k_B _, trivial⟩)⟩, ⟨rfl, .run (lo := 0) (n := 1) ⟨fun G32 A => t_mv (.inr rfl), trivial⟩ (fun G32 => ⟨rfl, trivial⟩)⟩, trivial⟩ (fun bs33 G32 => ?_)
                refine r_nil (r_next (r_ret (r_toR ?_)))
                obtain rfl := sm1 hF
                exact r_done1 (.inl rfl) Tryz.results6 (.tmp rfl .nil) rfl rfl
  · skip
    refine r_seq (r_reg (r_mv ?_))
    obtain ⟨v42, h43, hF⟩ := bnd hF
    refine r_op (t_rem rfl h43) ⟨rfl, k_I _ _, trivial⟩ ?_
    refine r_op (t_ne rfl) ⟨rfl, k_I _ _, trivial⟩ ?_
    refine r_mv ?_
    refine r_bool (fun h44 => ?_) (fun h44 => ?_)
    · have hF := cnd_t h44 hF
      refine r_opg (t_mv (.inl rfl)) ⟨rfl, trivial⟩ ?_
      refine r_opg (t_gt rfl) ⟨rfl, k_I _ _, trivial⟩ ?_
      refine r_op (t_pickT rfl) ⟨rfl, rfl, trivial⟩ ?_
      refine r_nil (r_next (r_if rfl (fun h45 => ?_) (fun h45 => ?_)))
      · have hF := cnd_t h45 hF
        refine r_reg (r_mv ?_)
        refine r_as ?_
        refine r_nil ?_
        exact r_backJ Jj5 ⟨v1.1, hF, rfl, rfl⟩ [] rfl ⟨rfl, rfl, rfl, rfl, trivial⟩
      · have hF := cnd_f h45 hF
        refine r_skip ?_
        exact r_backJ Jj5 ⟨v1.2, hF, rfl, rfl⟩ [] rfl ⟨rfl, rfl, rfl, rfl, trivial⟩
    · have hF := cnd_f h44 hF
      refine r_opn ?_
      refine r_opn ?_
      refine r_op (t_pickF rfl) ⟨rfl, k_B _, trivial⟩ ?_
      refine r_nil (r_next (r_ifF rfl ?_))
      refine r_skip ?_
      exact r_backJ Jj5 ⟨v1.2, hF, rfl, rfl⟩ [] rfl ⟨rfl, rfl, rfl, rfl, trivial⟩
end Go.Proofs.YtkjnngaceacmdaaGreat
