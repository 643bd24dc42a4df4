import Derived.Test.YtkjnngaceacmdaaGreatQ1
set_option linter.unusedVariables false
namespace Go.Proofs.YtkjnngaceacmdaaGreat
abbrev N_gantrylaw09_lives : Nat := 44
def F_gantrylaw09_lives (K : Nat) : Option Bool :=
  (F_gantrylaw09_whole K [1, 2, 3]).bind fun v1 => (F_gantrylaw09_whole K [2, 4, 7]).bind fun v3 => (F_gantrylaw09_whole K [2, 1]).bind fun v5 => (F_gantrylaw09_whole K [1, 2]).bind fun v7 => (F_matrix_Rank K [v1, v3]).bind fun v9 => (F_gantrylaw09_whole K [1, 3]).bind fun v11 => (F_matrix_Solve K [v1, v3] v11).bind fun v13 => (F_matrix_Kernel K [v1, v3]).bind fun v15 => (F_gantrylaw09_whole K [2, 4]).bind fun v17 => (F_gantrylaw09_whole K [1, 2]).bind fun v19 => (F_gantrylaw09_whole K [1, 1]).bind fun v21 => (F_matrix_Solve K [v17, v19] v21).bind fun v23 => (F_matrix_Det K [v5, v7]).bind fun v25 => (F_matrix_Inverse K [v5, v7]).bind fun v28 => bif (v9.2 != 0) then (some false) else (bif (v13.2 != 0) then (some false) else (bif (v15.2 != 0) then (some false) else (bif (v25.2 != 0) then (some false) else (bif (v28.2 != 0) then (some false) else (bif (v23.2 != 6) then (some false) else (bif ((v15.1.length : Int) != 1) then (some false) else ((qof (-1) 3).bind fun v37 => (qof 2 3).bind fun v40 => bif (v9.1 == 2) then ((F_gantrylaw09_whole K [(-2), 0, 1]).bind fun v46 => (F_gantryref09_SameRow K v13.1 v46).bind fun v48 => bif v48 then ((rdL v15.1 0).bind fun v51 => (F_gantrylaw09_whole K [(-2), 1, 0]).bind fun v53 => (F_gantryref09_SameRow K v51 v53).bind fun v55 => bif v55 then ((qof 3 1).bind fun v58 => (qsame v25.1 v58).bind fun v60 => bif v60 then ((F_gantryref09_Same K v28.1 [[v40, v37], [v37, v40]]).bind fun v63 => bif v63 then ((F_matrix_Positive K [v5, v7]).bind fun v66 => bif v66 then ((F_gantrylaw09_whole K [1, 2]).bind fun v69 => (F_gantrylaw09_whole K [2, 1]).bind fun v71 => (F_matrix_Positive K [v69, v71]).bind fun v73 => some (!v73)) else (some false)) else (some false)) else (some false)) else (some false)) else (some false)) else (some false))))))))
set_option maxRecDepth 100000 in
theorem ct_gantrylaw09_lives {K : Nat} {r : Bool} (hF : F_gantrylaw09_lives K = some r) : Ct Tryz.prog 44 [] (.vc (pB r)) := by
  unfold F_gantrylaw09_lives at hF
  refine ctO_intro Tryz.func44 rfl (by kernel_rfl) Tryz.ntmps44 rfl (fun w0 M0 => ?_)
  refine r_seq (r_reg (r_op (t_mv (.inr rfl)) ⟨k_B _, trivial⟩ ?_))
  refine r_nil (r_next (r_seq (r_reg (r_op (t_bs (C := cI) (xs := [.const (.int .i64 (1)), .const (.int .i64 (2)), .const (.int .i64 (3))]) (ps := [.vc (pI .i64 1), .vc (pI .i64 2), .vc (pI .i64 3)]) (zs := [1, 2, 3]) rfl tyS22 rfl ⟨⟨trivial, rfl⟩, ⟨trivial, rfl⟩, ⟨trivial, rfl⟩, trivial⟩ rfl) ⟨k_I _ _, k_I _ _, k_I _ _, trivial⟩ ?_))))
  obtain ⟨v1, h2, hF⟩ := bnd hF
  refine r_op (t_call rfl (ct_gantrylaw09_whole h2) rfl) ⟨rfl, trivial⟩ ?_
  refine r_op (t_bs (C := cI) (xs := [.const (.int .i64 (2)), .const (.int .i64 (4)), .const (.int .i64 (7))]) (ps := [.vc (pI .i64 2), .vc (pI .i64 4), .vc (pI .i64 7)]) (zs := [2, 4, 7]) rfl tyS22 rfl ⟨⟨trivial, rfl⟩, ⟨trivial, rfl⟩, ⟨trivial, rfl⟩, trivial⟩ rfl) ⟨k_I _ _, k_I _ _, k_I _ _, trivial⟩ ?_
  obtain ⟨v3, h4, hF⟩ := bnd hF
  refine r_op (t_call rfl (ct_gantrylaw09_whole h4) rfl) ⟨rfl, trivial⟩ ?_
  refine r_op (t_bs (C := (cSl cQ)) (xs := [.tmp 19, .tmp 21]) (ps := [.vc (pS cQ v1), .vc (pS cQ v3)]) (zs := [v1, v3]) rfl tyS47 rfl ⟨⟨trivial, rfl⟩, ⟨trivial, rfl⟩, trivial⟩ rfl) ⟨rfl, rfl, trivial⟩ ?_
  refine r_as ?_
  refine r_nil (r_next (r_seq (r_reg (r_op (t_bs (C := cI) (xs := [.const (.int .i64 (2)), .const (.int .i64 (1))]) (ps := [.vc (pI .i64 2), .vc (pI .i64 1)]) (zs := [2, 1]) rfl tyS22 rfl ⟨⟨trivial, rfl⟩, ⟨trivial, rfl⟩, trivial⟩ rfl) ⟨k_I _ _, k_I _ _, trivial⟩ ?_))))
  obtain ⟨v5, h6, hF⟩ := bnd hF
  refine r_op (t_call rfl (ct_gantrylaw09_whole h6) rfl) ⟨rfl, trivial⟩ ?_
  refine r_op (t_bs (C := cI) (xs := [.const (.int .i64 (1)), .const (.int .i64 (2))]) (ps := [.vc (pI .i64 1), .vc (pI .i64 2)]) (zs := [1, 2]) rfl tyS22 rfl ⟨⟨trivial, rfl⟩, ⟨trivial, rfl⟩, trivial⟩ rfl) ⟨k_I _ _, k_I _ _, trivial⟩ ?_
  obtain ⟨v7, h8, hF⟩ := bnd hF
  refine r_op (t_call rfl (ct_gantrylaw09_whole h8) rfl) ⟨rfl, trivial⟩ ?_
  refine r_op (t_bs (C := (cSl cQ)) (xs := [.tmp 24, .tmp 26]) (ps := [.vc (pS cQ v5), .vc (pS cQ v7)]) (zs := [v5, v7]) rfl tyS47 rfl ⟨⟨trivial, rfl⟩, ⟨trivial, rfl⟩, trivial⟩ rfl) ⟨rfl, rfl, trivial⟩ ?_
  refine r_as ?_
  refine r_nil (r_next (r_seq (r_reg (r_mv ?_))))
  obtain ⟨v9, h10, hF⟩ := bnd hF
  refine r_op (t_call rfl (ct_matrix_Rank h10) rfl) ⟨rfl, trivial⟩ ?_
  refine r_mv ?_
  refine r_op (t_ext2a rfl) ⟨rfl, trivial⟩ ?_
  refine r_op (t_ext2b rfl) ⟨rfl, trivial⟩ ?_
  refine r_as ?_
  refine r_as ?_
  refine r_nil (r_next (r_seq (r_reg (r_mv ?_))))
  refine r_op (t_bs (C := cI) (xs := [.const (.int .i64 (1)), .const (.int .i64 (3))]) (ps := [.vc (pI .i64 1), .vc (pI .i64 3)]) (zs := [1, 3]) rfl tyS22 rfl ⟨⟨trivial, rfl⟩, ⟨trivial, rfl⟩, trivial⟩ rfl) ⟨k_I _ _, k_I _ _, trivial⟩ ?_
  obtain ⟨v11, h12, hF⟩ := bnd hF
  refine r_op (t_call rfl (ct_gantrylaw09_whole h12) rfl) ⟨rfl, trivial⟩ ?_
  obtain ⟨v13, h14, hF⟩ := bnd hF
  refine r_op (t_call rfl (ct_matrix_Solve h14) rfl) ⟨rfl, rfl, trivial⟩ ?_
  refine r_mv ?_
  refine r_op (t_ext2a rfl) ⟨rfl, trivial⟩ ?_
  refine r_op (t_ext2b rfl) ⟨rfl, trivial⟩ ?_
  refine r_as ?_
  refine r_as ?_
  refine r_nil (r_next (r_seq (r_reg (r_mv ?_))))
  obtain ⟨v15, h16, hF⟩ := bnd hF
  refine r_op (t_call rfl (ct_matrix_Kernel h16) rfl) ⟨rfl, trivial⟩ ?_
  refine r_mv ?_
  refine r_op (t_ext2a rfl) ⟨rfl, trivial⟩ ?_
  refine r_op (t_ext2b rfl) ⟨rfl, trivial⟩ ?_
  refine r_as ?_
  refine r_as ?_
  refine r_nil (r_next (r_seq (r_reg (r_op (t_bs (C := cI) (xs := [.const (.int .i64 (2)), .const (.int .i64 (4))]) (ps := [.vc (pI .i64 2), .vc (pI .i64 4)]) (zs := [2, 4]) rfl tyS22 rfl ⟨⟨trivial, rfl⟩, ⟨trivial, rfl⟩, trivial⟩ rfl) ⟨k_I _ _, k_I _ _, trivial⟩ ?_))))
  obtain ⟨v17, h18, hF⟩ := bnd hF
  refine r_op (t_call rfl (ct_gantrylaw09_whole h18) rfl) ⟨rfl, trivial⟩ ?_
  refine r_op (t_bs (C := cI) (xs := [.const (.int .i64 (1)), .const (.int .i64 (2))]) (ps := [.vc (pI .i64 1), .vc (pI .i64 2)]) (zs := [1, 2]) rfl tyS22 rfl ⟨⟨trivial, rfl⟩, ⟨trivial, rfl⟩, trivial⟩ rfl) ⟨k_I _ _, k_I _ _, trivial⟩ ?_
  obtain ⟨v19, h20, hF⟩ := bnd hF
  refine r_op (t_call rfl (ct_gantrylaw09_whole h20) rfl) ⟨rfl, trivial⟩ ?_
  refine r_op (t_bs (C := (cSl cQ)) (xs := [.tmp 47, .tmp 49]) (ps := [.vc (pS cQ v17), .vc (pS cQ v19)]) (zs := [v17, v19]) rfl tyS47 rfl ⟨⟨trivial, rfl⟩, ⟨trivial, rfl⟩, trivial⟩ rfl) ⟨rfl, rfl, trivial⟩ ?_
  refine r_op (t_bs (C := cI) (xs := [.const (.int .i64 (1)), .const (.int .i64 (1))]) (ps := [.vc (pI .i64 1), .vc (pI .i64 1)]) (zs := [1, 1]) rfl tyS22 rfl ⟨⟨trivial, rfl⟩, ⟨trivial, rfl⟩, trivial⟩ rfl) ⟨k_I _ _, k_I _ _, trivial⟩ ?_
  obtain ⟨v21, h22, hF⟩ := bnd hF
  refine r_op (t_call rfl (ct_gantrylaw09_whole h22) rfl) ⟨rfl, trivial⟩ ?_
  obtain ⟨v23, h24, hF⟩ := bnd hF
  refine r_op (t_call rfl (ct_matrix_Solve h24) rfl) ⟨rfl, rfl, trivial⟩ ?_
  refine r_mv ?_
  refine r_op (t_ext2a rfl) ⟨rfl, trivial⟩ ?_
  refine r_op (t_ext2b rfl) ⟨rfl, trivial⟩ ?_
  refine r_as ?_
  refine r_as ?_
  refine r_nil (r_next (r_seq (r_reg (r_mv ?_))))
  obtain ⟨v25, h26, hF⟩ := bnd hF
  refine r_op (t_call rfl (ct_matrix_Det h26) rfl) ⟨rfl, trivial⟩ ?_
  refine r_mv ?_
  refine r_op (t_ext2a rfl) ⟨rfl, trivial⟩ ?_
  refine r_op (t_ext2b rfl) ⟨rfl, trivial⟩ ?_
  refine r_alloc rfl tyZ35q (fun b27 => ?_)
  refine r_op0 (t_s 0 rfl rfl rfl tyA35.s) ⟨rfl, rfl, trivial⟩ ?_
  refine r_as ?_
  refine r_nil (r_next (r_seq (r_reg (r_mv ?_))))
  obtain ⟨v28, h29, hF⟩ := bnd hF
  refine r_op (t_call rfl (ct_matrix_Inverse h29) rfl) ⟨rfl, trivial⟩ ?_
  refine r_mv ?_
  refine r_op (t_ext2a rfl) ⟨rfl, trivial⟩ ?_
  refine r_op (t_ext2b rfl) ⟨rfl, trivial⟩ ?_
  refine r_as ?_
  refine r_as ?_
  refine r_nil (r_next (r_seq (r_seq (r_reg (r_mv ?_)))))
  refine r_op (t_ne rfl) ⟨rfl, k_I _ _, trivial⟩ ?_
  refine r_mv ?_
  refine r_bool (fun h30 => ?_) (fun h30 => ?_)
  · have hF := cnd_t h30 hF
    refine r_opn ?_
    refine r_opn ?_
    refine r_op (t_pickT rfl) ⟨rfl, k_B _, trivial⟩ ?_
    refine r_mv ?_
    refine r_opn ?_
    refine r_opn ?_
    refine r_op (t_pickT rfl) ⟨rfl, k_B _, trivial⟩ ?_
    refine r_mv ?_
    refine r_opn ?_
    refine r_opn ?_
    refine r_op (t_pickT rfl) ⟨rfl, k_B _, trivial⟩ ?_
    refine r_mv ?_
    refine r_opn ?_
    refine r_opn ?_
    refine r_op (t_pickT rfl) ⟨rfl, k_B _, trivial⟩ ?_
    refine r_mv ?_
    refine r_opn ?_
    refine r_opn ?_
    refine r_op (t_pickT rfl) ⟨rfl, k_B _, trivial⟩ ?_
    refine r_mv ?_
    refine r_opn ?_
    refine r_opn ?_
    refine r_opn ?_
    refine r_op (t_pickT rfl) ⟨rfl, k_B _, trivial⟩ ?_
    refine r_nil (r_next (r_ifT rfl ?_))
    refine r_seq (r_reg (r_op (t_mv (.inr rfl)) ⟨k_B _, trivial⟩ ?_))
    refine r_nil (r_next (r_ret (r_toR ?_)))
    obtain rfl := sm1 hF
    exact r_done1 (.inl rfl) Tryz.results44 (.tmp rfl .nil) rfl rfl
  · have hF := cnd_f h30 hF
    refine r_opg (t_mv (.inl rfl)) ⟨rfl, trivial⟩ ?_
    refine r_opg (t_ne rfl) ⟨rfl, k_I _ _, trivial⟩ ?_
    refine r_op (t_pickF rfl) ⟨rfl, rfl, trivial⟩ ?_
    refine r_mv ?_
    refine r_bool (fun h31 => ?_) (fun h31 => ?_)
    · have hF := cnd_t h31 hF
      refine r_opn ?_
      refine r_opn ?_
      refine r_op (t_pickT rfl) ⟨rfl, k_B _, trivial⟩ ?_
      refine r_mv ?_
      refine r_opn ?_
      refine r_opn ?_
      refine r_op (t_pickT rfl) ⟨rfl, k_B _, trivial⟩ ?_
      refine r_mv ?_
      refine r_opn ?_
      refine r_opn ?_
      refine r_op (t_pickT rfl) ⟨rfl, k_B _, trivial⟩ ?_
      refine r_mv ?_
      refine r_opn ?_
      refine r_opn ?_
      refine r_op (t_pickT rfl) ⟨rfl, k_B _, trivial⟩ ?_
      refine r_mv ?_
      refine r_opn ?_
      refine r_opn ?_
      refine r_opn ?_
      refine r_op (t_pickT rfl) ⟨rfl, k_B _, trivial⟩ ?_
      refine r_nil (r_next (r_ifT rfl ?_))
      refine r_seq (r_reg (r_op (t_mv (.inr rfl)) ⟨k_B _, trivial⟩ ?_))
      refine r_nil (r_next (r_ret (r_toR ?_)))
      obtain rfl := sm1 hF
      exact r_done1 (.inl rfl) Tryz.results44 (.tmp rfl .nil) rfl rfl
    · have hF := cnd_f h31 hF
      refine r_opg (t_mv (.inl rfl)) ⟨rfl, trivial⟩ ?_
      refine r_opg (t_ne rfl) ⟨rfl, k_I _ _, trivial⟩ ?_
      refine r_op (t_pickF rfl) ⟨rfl, rfl, trivial⟩ ?_
      refine r_mv ?_
      refine r_bool (fun h32 => ?_) (fun h32 => ?_)
      · have hF := cnd_t h32 hF
        refine r_opn ?_
        refine r_opn ?_
        refine r_op (t_pickT rfl) ⟨rfl, k_B _, trivial⟩ ?_
        refine r_mv ?_
        refine r_opn ?_
        refine r_opn ?_
        refine r_op (t_pickT rfl) ⟨rfl, k_B _, trivial⟩ ?_
        refine r_mv ?_
        refine r_opn ?_
        refine r_opn ?_
        refine r_op (t_pickT rfl) ⟨rfl, k_B _, trivial⟩ ?_
        refine r_mv ?_
        refine r_opn ?_
        refine r_opn ?_
        refine r_opn ?_
        refine r_op (t_pickT rfl) ⟨rfl, k_B _, trivial⟩ ?_
        refine r_nil (r_next (r_ifT rfl ?_))
        refine r_seq (r_reg (r_op (t_mv (.inr rfl)) ⟨k_B _, trivial⟩ ?_))
        refine r_nil (r_next (r_ret (r_toR ?_)))
        obtain rfl := sm1 hF
        exact r_done1 (.inl rfl) Tryz.results44 (.tmp rfl .nil) rfl rfl
      · have hF := cnd_f h32 hF
        refine r_opg (t_mv (.inl rfl)) ⟨rfl, trivial⟩ ?_
        refine r_opg (t_ne rfl) ⟨rfl, k_I _ _, trivial⟩ ?_
        refine r_op (t_pickF rfl) ⟨rfl, rfl, trivial⟩ ?_
        refine r_mv ?_
        refine r_bool (fun h33 => ?_) (fun h33 => ?_)
        · have hF := cnd_t h33 hF
          refine r_opn ?_
          refine r_opn ?_
          refine r_op (t_pickT rfl) ⟨rfl, k_B _, trivial⟩ ?_
          refine r_mv ?_
          refine r_opn ?_
          refine r_opn ?_
          refine r_op (t_pickT rfl) ⟨rfl, k_B _, trivial⟩ ?_
          refine r_mv ?_
          refine r_opn ?_
          refine r_opn ?_
          refine r_opn ?_
          refine r_op (t_pickT rfl) ⟨rfl, k_B _, trivial⟩ ?_
          refine r_nil (r_next (r_ifT rfl ?_))
          refine r_seq (r_reg (r_op (t_mv (.inr rfl)) ⟨k_B _, trivial⟩ ?_))
          refine r_nil (r_next (r_ret (r_toR ?_)))
          obtain rfl := sm1 hF
          exact r_done1 (.inl rfl) Tryz.results44 (.tmp rfl .nil) rfl rfl
        · have hF := cnd_f h33 hF
          refine r_opg (t_mv (.inl rfl)) ⟨rfl, trivial⟩ ?_
          refine r_opg (t_ne rfl) ⟨rfl, k_I _ _, trivial⟩ ?_
          refine r_op (t_pickF rfl) ⟨rfl, rfl, trivial⟩ ?_
          refine r_mv ?_
          refine r_bool (fun h34 => ?_) (fun h34 => ?_)
          · have hF := cnd_t h34 hF
            refine r_opn ?_
            refine r_opn ?_
            refine r_op (t_pickT rfl) ⟨rfl, k_B _, trivial⟩ ?_
            refine r_mv ?_
            refine r_opn ?_
            refine r_opn ?_
            refine r_opn ?_
            refine r_op (t_pickT rfl) ⟨rfl, k_B _, trivial⟩ ?_
            refine r_nil (r_next (r_ifT rfl ?_))
            refine r_seq (r_reg (r_op (t_mv (.inr rfl)) ⟨k_B _, trivial⟩ ?_))
            refine r_nil (r_next (r_ret (r_toR ?_)))
            obtain rfl := sm1 hF
            exact r_done1 (.inl rfl) Tryz.results44 (.tmp rfl .nil) rfl rfl
          · have hF := cnd_f h34 hF
            refine r_opg (t_mv (.inl rfl)) ⟨rfl, trivial⟩ ?_
            refine r_opg (t_ne rfl) ⟨rfl, k_I _ _, trivial⟩ ?_
            refine r_op (t_pickF rfl) ⟨rfl, rfl, trivial⟩ ?_
            refine r_mv ?_
            refine r_bool (fun h35 => ?_) (fun h35 => ?_)
            · have hF := cnd_t h35 hF
              refine r_opn ?_
              refine r_opn ?_
              refine r_opn ?_
              refine r_op (t_pickT rfl) ⟨rfl, k_B _, trivial⟩ ?_
              refine r_nil (r_next (r_ifT rfl ?_))
              refine r_seq (r_reg (r_op (t_mv (.inr rfl)) ⟨k_B _, trivial⟩ ?_))
              refine r_nil (r_next (r_ret (r_toR ?_)))
              obtain rfl := sm1 hF
              exact r_done1 (.inl rfl) Tryz.results44 (.tmp rfl .nil) rfl rfl
            · have hF := cnd_f h35 hF
              refine r_opg (t_mv (.inl rfl)) ⟨rfl, trivial⟩ ?_
              refine r_opg (t_ln rfl tyS47) ⟨rfl, trivial⟩ ?_
              refine r_opg (t_ne rfl) ⟨rfl, k_I _ _, trivial⟩ ?_
              refine r_op (t_pickF rfl) ⟨rfl, rfl, trivial⟩ ?_
              refine r_nil (r_next (r_if rfl (fun h36 => ?_) (fun h36 => ?_)))
              · have hF := cnd_t h36 hF
                refine r_seq (r_reg (r_op (t_mv (.inr rfl)) ⟨k_B _, trivial⟩ ?_))
                refine r_nil (r_next (r_ret (r_toR ?_)))
                obtain rfl := sm1 hF
                exact r_done1 (.inl rfl) Tryz.results44 (.tmp rfl .nil) rfl rfl
              · have hF := cnd_f h36 hF
                refine r_skip (r_next (r_seq (r_reg ?_)))
                obtain ⟨v37, h38, hF⟩ := bnd hF
                refine r_op (t_call rfl (qc_gantryref05_Of h38) rfl) ⟨k_I _ _, k_I _ _, trivial⟩ ?_
                refine r_alloc rfl tyZ35q (fun b39 => ?_)
                refine r_op0 (t_s 0 rfl rfl rfl tyA35.s) ⟨rfl, rfl, trivial⟩ ?_
                refine r_nil (r_next (r_seq (r_reg ?_)))
                obtain ⟨v40, h41, hF⟩ := bnd hF
                refine r_op (t_call rfl (qc_gantryref05_Of h41) rfl) ⟨k_I _ _, k_I _ _, trivial⟩ ?_
                refine r_alloc rfl tyZ35q (fun b42 => ?_)
                refine r_op0 (t_s 0 rfl rfl rfl tyA35.s) ⟨rfl, rfl, trivial⟩ ?_
                refine r_nil (r_next (r_seq ?_))
                rcases Bool.eq_false_or_eq_true (v9.1 == 2) with h45 | h45
                · have hF := cnd_t h45 hF
                  obtain ⟨v46, h47, hF⟩ := bnd hF
                  obtain ⟨v48, h49, hF⟩ := bnd hF
                  rcases Bool.eq_false_or_eq_true v48 with h50 | h50
                  · have hF := cnd_t h50 hF
                    obtain ⟨v51, h52, hF⟩ := bnd hF
                    obtain ⟨v53, h54, hF⟩ := bnd hF
                    obtain ⟨v55, h56, hF⟩ := bnd hF
                    rcases Bool.eq_false_or_eq_true v55 with h57 | h57
                    · have hF := cnd_t h57 hF
                      obtain ⟨v58, h59, hF⟩ := bnd hF
                      obtain ⟨v60, h61, hF⟩ := bnd hF
                      refine r_draw [0, 1, 3, 7, 7, 23, 63, 127, 255, 511, 1023, 2047, 511, 4607, 16383, 32767, 65535, 131071, 131071, 524287, 1048575, 2097151] 22 0 [.v (.vc (pI .i64 v9.1)), .v (.vc (pB (v9.1 == 2))), .v (.vc (pB true)), .v (.vc (pS cQ v13.1)), .v (.vc (pS cI [(-2), 0, 1])), .v (.vc (pS cQ v46)), .v (.vc (pB v48)), .v (.vc (pB v48)), .v (.vc (pB true)), .v (.vc (pS (cSl cQ) v15.1)), .v (.vc (pM ((cSl cQ).e v51))), .v (.vc (pS cQ v51)), .v (.vc (pS cI [(-2), 1, 0])), .v (.vc (pS cQ v53)), .v (.vc (pB v55)), .v (.vc (pB v55)), .v (.vc (pB true)), .v (.va (eQ v25.1)), .v (.va (eQ v58)), .v (.vc (pB v60)), .v (.vc (pB v60)), .v (.vc (pB v60))] Tryz_mixed ⟨⟨rfl, .run (lo := 0) (n := 1) ⟨fun G43 A => t_mv (.inl rfl), trivial⟩ (fun G43 => ⟨rfl, trivial⟩)⟩, ⟨rfl, .run (lo := 0) (n := 1) ⟨fun G43 A => t_eq rfl, trivial⟩ (fun G43 => ⟨rfl, k_I _ _, trivial⟩)⟩, ⟨rfl, .run (lo := 0) (n := 1) ⟨fun G43 A => tr_bool (t_mv (.inl rfl)) h45, trivial⟩ (fun G43 => ⟨rfl, trivial⟩)⟩, ⟨rfl, .runG (lo := 0) (n := 1) ⟨fun G43 A => t_mv (.inl rfl), trivial⟩ (fun G43 => ⟨rfl, trivial⟩)⟩, ⟨rfl, .runG (lo := 0) (n := 1) ⟨fun G43 A => t_bs (C := cI) (xs := [.const (.int .i64 (-2)), .const (.int .i64 (0)), .const (.int .i64 (1))]) (ps := [.vc (pI .i64 (-2)), .vc (pI .i64 0), .vc (pI .i64 1)]) (zs := [(-2), 0, 1]) rfl tyS22 rfl ⟨⟨trivial, rfl⟩, ⟨trivial, rfl⟩, ⟨trivial, rfl⟩, trivial⟩ rfl, trivial⟩ (fun G43 => ⟨k_I _ _, k_I _ _, k_I _ _, trivial⟩)⟩, ⟨rfl, .runG (lo := 0) (n := 1) ⟨fun G43 A => t_call rfl (ct_gantrylaw09_whole h47) rfl, trivial⟩ (fun G43 => ⟨rfl, trivial⟩)⟩, ⟨rfl, .runG (lo := 0) (n := 1) ⟨fun G43 A => t_call rfl (ct_gantryref09_SameRow h49) rfl, trivial⟩ (fun G43 => ⟨rfl, rfl, trivial⟩)⟩, ⟨rfl, .run (lo := 0) (n := 1) ⟨fun G43 A => t_pickT rfl, trivial⟩ (fun G43 => ⟨rfl, rfl, trivial⟩)⟩, ⟨rfl, .run (lo := 0) (n := 1) ⟨fun G43 A => tr_bool (t_mv (.inl rfl)) h50, trivial⟩ (fun G43 => ⟨rfl, trivial⟩)⟩, ⟨rfl, .runG (lo := 0) (n := 1) ⟨fun G43 A => t_mv (.inl rfl), trivial⟩ (fun G43 => ⟨rfl, trivial⟩)⟩, ⟨rfl, .runG (lo := 0) (n := 1) ⟨fun G43 A => t_ix rfl tyS47 h52, trivial⟩ (fun G43 => ⟨rfl, k_I _ _, trivial⟩)⟩, ⟨rfl, .runG (lo := 0) (n := 1) ⟨fun G43 A => t_lM 1 rfl rfl (.one tyO24), trivial⟩ (fun G43 => ⟨rfl, trivial⟩)⟩, ⟨rfl, .runG (lo := 0) (n := 1) ⟨fun G43 A => t_bs (C := cI) (xs := [.const (.int .i64 (-2)), .const (.int .i64 (1)), .const (.int .i64 (0))]) (ps := [.vc (pI .i64 (-2)), .vc (pI .i64 1), .vc (pI .i64 0)]) (zs := [(-2), 1, 0]) rfl tyS22 rfl ⟨⟨trivial, rfl⟩, ⟨trivial, rfl⟩, ⟨trivial, rfl⟩, trivial⟩ rfl, trivial⟩ (fun G43 => ⟨k_I _ _, k_I _ _, k_I _ _, trivial⟩)⟩, ⟨rfl, .runG (lo := 0) (n := 1) ⟨fun G43 A => t_call rfl (ct_gantrylaw09_whole h54) rfl, trivial⟩ (fun G43 => ⟨rfl, trivial⟩)⟩, ⟨rfl, .runG (lo := 0) (n := 1) ⟨fun G43 A => t_call rfl (ct_gantryref09_SameRow h56) rfl, trivial⟩ (fun G43 => ⟨rfl, rfl, trivial⟩)⟩, ⟨rfl, .run (lo := 0) (n := 1) ⟨fun G43 A => t_pickT rfl, trivial⟩ (fun G43 => ⟨rfl, rfl, trivial⟩)⟩, ⟨rfl, .run (lo := 0) (n := 1) ⟨fun G43 A => tr_bool (t_mv (.inl rfl)) h57, trivial⟩ (fun G43 => ⟨rfl, trivial⟩)⟩, ⟨rfl, .runG (lo := 0) (n := 1) ⟨fun G43 A => t_l 2 4 rfl rfl rfl rfl (.agg tyA35), trivial⟩ (fun G43 => ⟨rfl, trivial⟩)⟩, ⟨rfl, .runG (lo := 0) (n := 1) ⟨fun G43 A => t_call rfl (qc_gantryref05_Of h59) rfl, trivial⟩ (fun G43 => ⟨k_I _ _, k_I _ _, trivial⟩)⟩, ⟨rfl, .runG (lo := 0) (n := 1) ⟨fun G43 A => t_call rfl (qc_rat_Same h61) rfl, trivial⟩ (fun G43 => ⟨rfl, rfl, trivial⟩)⟩, ⟨rfl, .run (lo := 0) (n := 1) ⟨fun G43 A => t_pickT rfl, trivial⟩ (fun G43 => ⟨rfl, rfl, trivial⟩)⟩, ⟨rfl, .run (lo := 0) (n := 1) ⟨fun G43 A => t_mv (.inr rfl), trivial⟩ (fun G43 => ⟨rfl, trivial⟩)⟩, trivial⟩ (fun bs44 G43 => ?_)
                      refine r_nil (r_next (r_seq (r_reg (r_mv ?_))))
                      refine r_mv ?_
                      refine r_bool (fun h62 => ?_) (fun h62 => ?_)
                      · have hF := cnd_t h62 hF
                        refine r_opg (t_mv (.inl rfl)) ⟨rfl, trivial⟩ ?_
                        refine r_opg (t_l 0 4 rfl rfl rfl rfl (.agg tyA35)) ⟨rfl, trivial⟩ ?_
                        refine r_opg (t_l 1 4 rfl rfl rfl rfl (.agg tyA35)) ⟨rfl, trivial⟩ ?_
                        refine r_opg (t_bs (C := cQ) (xs := [.tmp 119, .tmp 120]) (ps := [.va (eQ v40), .va (eQ v37)]) (zs := [v40, v37]) rfl tyS24 rfl ⟨⟨trivial, rfl⟩, ⟨trivial, rfl⟩, trivial⟩ rfl) ⟨rfl, rfl, trivial⟩ ?_
                        refine r_opg (t_l 1 4 rfl rfl rfl rfl (.agg tyA35)) ⟨rfl, trivial⟩ ?_
                        refine r_opg (t_l 0 4 rfl rfl rfl rfl (.agg tyA35)) ⟨rfl, trivial⟩ ?_
                        refine r_opg (t_bs (C := cQ) (xs := [.tmp 122, .tmp 123]) (ps := [.va (eQ v37), .va (eQ v40)]) (zs := [v37, v40]) rfl tyS24 rfl ⟨⟨trivial, rfl⟩, ⟨trivial, rfl⟩, trivial⟩ rfl) ⟨rfl, rfl, trivial⟩ ?_
                        refine r_opg (t_bs (C := (cSl cQ)) (xs := [.tmp 121, .tmp 124]) (ps := [.vc (pS cQ [v40, v37]), .vc (pS cQ [v37, v40])]) (zs := [[v40, v37], [v37, v40]]) rfl tyS47 rfl ⟨⟨trivial, rfl⟩, ⟨trivial, rfl⟩, trivial⟩ rfl) ⟨rfl, rfl, trivial⟩ ?_
                        obtain ⟨v63, h64, hF⟩ := bnd hF
                        refine r_opg (t_call rfl (ct_gantryref09_Same h64) rfl) ⟨rfl, rfl, trivial⟩ ?_
                        refine r_op (t_pickT rfl) ⟨rfl, rfl, trivial⟩ ?_
                        refine r_mv ?_
                        refine r_bool (fun h65 => ?_) (fun h65 => ?_)
                        · have hF := cnd_t h65 hF
                          refine r_opg (t_mv (.inl rfl)) ⟨rfl, trivial⟩ ?_
                          obtain ⟨v66, h67, hF⟩ := bnd hF
                          refine r_opg (t_call rfl (ct_matrix_Positive h67) rfl) ⟨rfl, trivial⟩ ?_
                          refine r_op (t_pickT rfl) ⟨rfl, rfl, trivial⟩ ?_
                          refine r_mv ?_
                          refine r_bool (fun h68 => ?_) (fun h68 => ?_)
                          · have hF := cnd_t h68 hF
                            refine r_opg (t_bs (C := cI) (xs := [.const (.int .i64 (1)), .const (.int .i64 (2))]) (ps := [.vc (pI .i64 1), .vc (pI .i64 2)]) (zs := [1, 2]) rfl tyS22 rfl ⟨⟨trivial, rfl⟩, ⟨trivial, rfl⟩, trivial⟩ rfl) ⟨k_I _ _, k_I _ _, trivial⟩ ?_
                            obtain ⟨v69, h70, hF⟩ := bnd hF
                            refine r_opg (t_call rfl (ct_gantrylaw09_whole h70) rfl) ⟨rfl, trivial⟩ ?_
                            refine r_opg (t_bs (C := cI) (xs := [.const (.int .i64 (2)), .const (.int .i64 (1))]) (ps := [.vc (pI .i64 2), .vc (pI .i64 1)]) (zs := [2, 1]) rfl tyS22 rfl ⟨⟨trivial, rfl⟩, ⟨trivial, rfl⟩, trivial⟩ rfl) ⟨k_I _ _, k_I _ _, trivial⟩ ?_
                            obtain ⟨v71, h72, hF⟩ := bnd hF
                            refine r_opg (t_call rfl (ct_gantrylaw09_whole h72) rfl) ⟨rfl, trivial⟩ ?_
                            refine r_opg (t_bs (C := (cSl cQ)) (xs := [.tmp 134, .tmp 136]) (ps := [.vc (pS cQ v69), .vc (pS cQ v71)]) (zs := [v69, v71]) rfl tyS47 rfl ⟨⟨trivial, rfl⟩, ⟨trivial, rfl⟩, trivial⟩ rfl) ⟨rfl, rfl, trivial⟩ ?_
                            obtain ⟨v73, h74, hF⟩ := bnd hF
                            refine r_opg (t_call rfl (ct_matrix_Positive h74) rfl) ⟨rfl, trivial⟩ ?_
                            refine r_opg (t_not rfl) ⟨rfl, trivial⟩ ?_
                            refine r_op (t_pickT rfl) ⟨rfl, rfl, trivial⟩ ?_
                            refine r_as ?_
                            refine r_nil (r_next (r_ret (r_toR ?_)))
                            obtain rfl := sm1 hF
                            exact r_done1 (.inl rfl) Tryz.results44 (.tmp rfl .nil) rfl rfl
                          · have hF := cnd_f h68 hF
                            refine r_opn ?_
                            refine r_opn ?_
                            refine r_opn ?_
                            refine r_opn ?_
                            refine r_opn ?_
                            refine r_opn ?_
                            refine r_opn ?_
                            refine r_op (t_pickF rfl) ⟨rfl, k_B _, trivial⟩ ?_
                            refine r_as ?_
                            refine r_nil (r_next (r_ret (r_toR ?_)))
                            obtain rfl := sm1 hF
                            exact r_done1 (.inl rfl) Tryz.results44 (.tmp rfl .nil) rfl rfl
                        · have hF := cnd_f h65 hF
                          refine r_opn ?_
                          refine r_opn ?_
                          refine r_op (t_pickF rfl) ⟨rfl, k_B _, trivial⟩ ?_
                          refine r_mv ?_
                          refine r_opn ?_
                          refine r_opn ?_
                          refine r_opn ?_
                          refine r_opn ?_
                          refine r_opn ?_
                          refine r_opn ?_
                          refine r_opn ?_
                          refine r_op (t_pickF rfl) ⟨rfl, k_B _, trivial⟩ ?_
                          refine r_as ?_
                          refine r_nil (r_next (r_ret (r_toR ?_)))
                          obtain rfl := sm1 hF
                          exact r_done1 (.inl rfl) Tryz.results44 (.tmp rfl .nil) rfl rfl
                      · have hF := cnd_f h62 hF
                        refine r_opn ?_
                        refine r_opn ?_
                        refine r_opn ?_
                        refine r_opn ?_
                        refine r_opn ?_
                        refine r_opn ?_
                        refine r_opn ?_
                        refine r_opn ?_
                        refine r_opn ?_
                        refine r_op (t_pickF rfl) ⟨rfl, k_B _, trivial⟩ ?_
                        refine r_mv ?_
                        refine r_opn ?_
                        refine r_opn ?_
                        refine r_op (t_pickF rfl) ⟨rfl, k_B _, trivial⟩ ?_
                        refine r_mv ?_
                        refine r_opn ?_
                        refine r_opn ?_
                        refine r_opn ?_
                        refine r_opn ?_
                        refine r_opn ?_
                        refine r_opn ?_
                        refine r_opn ?_
                        refine r_op (t_pickF rfl) ⟨rfl, k_B _, trivial⟩ ?_
                        refine r_as ?_
                        refine r_nil (r_next (r_ret (r_toR ?_)))
                        obtain rfl := sm1 hF
                        exact r_done1 (.inl rfl) Tryz.results44 (.tmp rfl .nil) rfl rfl
                    · have hF := cnd_f h57 hF
                      refine r_draw [0, 1, 3, 7, 7, 23, 63, 127, 255, 511, 1023, 2047, 511, 4607, 16383, 32767, 65535, 131071, 131071, 524287, 1048575, 2097151] 22 0 [.v (.vc (pI .i64 v9.1)), .v (.vc (pB (v9.1 == 2))), .v (.vc (pB true)), .v (.vc (pS cQ v13.1)), .v (.vc (pS cI [(-2), 0, 1])), .v (.vc (pS cQ v46)), .v (.vc (pB v48)), .v (.vc (pB v48)), .v (.vc (pB true)), .v (.vc (pS (cSl cQ) v15.1)), .v (.vc (pM ((cSl cQ).e v51))), .v (.vc (pS cQ v51)), .v (.vc (pS cI [(-2), 1, 0])), .v (.vc (pS cQ v53)), .v (.vc (pB v55)), .v (.vc (pB v55)), .v (.vc (pB false)), .v .any, .v .any, .v .any, .v (.vc (pB false)), .v (.vc (pB false))] Tryz_mixed ⟨⟨rfl, .run (lo := 0) (n := 1) ⟨fun G43 A => t_mv (.inl rfl), trivial⟩ (fun G43 => ⟨rfl, trivial⟩)⟩, ⟨rfl, .run (lo := 0) (n := 1) ⟨fun G43 A => t_eq rfl, trivial⟩ (fun G43 => ⟨rfl, k_I _ _, trivial⟩)⟩, ⟨rfl, .run (lo := 0) (n := 1) ⟨fun G43 A => tr_bool (t_mv (.inl rfl)) h45, trivial⟩ (fun G43 => ⟨rfl, trivial⟩)⟩, ⟨rfl, .runG (lo := 0) (n := 1) ⟨fun G43 A => t_mv (.inl rfl), trivial⟩ (fun G43 => ⟨rfl, trivial⟩)⟩, ⟨rfl, .runG (lo := 0) (n := 1) ⟨fun G43 A => t_bs (C := cI) (xs := [.const (.int .i64 (-2)), .const (.int .i64 (0)), .const (.int .i64 (1))]) (ps := [.vc (pI .i64 (-2)), .vc (pI .i64 0), .vc (pI .i64 1)]) (zs := [(-2), 0, 1]) rfl tyS22 rfl ⟨⟨trivial, rfl⟩, ⟨trivial, rfl⟩, ⟨trivial, rfl⟩, trivial⟩ rfl, trivial⟩ (fun G43 => ⟨k_I _ _, k_I _ _, k_I _ _, trivial⟩)⟩, ⟨rfl, .runG (lo := 0) (n := 1) ⟨fun G43 A => t_call rfl (ct_gantrylaw09_whole h47) rfl, trivial⟩ (fun G43 => ⟨rfl, trivial⟩)⟩, ⟨rfl, .runG (lo := 0) (n := 1) ⟨fun G43 A => t_call rfl (ct_gantryref09_SameRow h49) rfl, trivial⟩ (fun G43 => ⟨rfl, rfl, trivial⟩)⟩, ⟨rfl, .run (lo := 0) (n := 1) ⟨fun G43 A => t_pickT rfl, trivial⟩ (fun G43 => ⟨rfl, rfl, trivial⟩)⟩, ⟨rfl, .run (lo := 0) (n := 1) ⟨fun G43 A => tr_bool (t_mv (.inl rfl)) h50, trivial⟩ (fun G43 => ⟨rfl, trivial⟩)⟩, ⟨rfl, .runG (lo := 0) (n := 1) ⟨fun G43 A => t_mv (.inl rfl), trivial⟩ (fun G43 => ⟨rfl, trivial⟩)⟩, ⟨rfl, .runG (lo := 0) (n := 1) ⟨fun G43 A => t_ix rfl tyS47 h52, trivial⟩ (fun G43 => ⟨rfl, k_I _ _, trivial⟩)⟩, ⟨rfl, .runG (lo := 0) (n := 1) ⟨fun G43 A => t_lM 1 rfl rfl (.one tyO24), trivial⟩ (fun G43 => ⟨rfl, trivial⟩)⟩, ⟨rfl, .runG (lo := 0) (n := 1) ⟨fun G43 A => t_bs (C := cI) (xs := [.const (.int .i64 (-2)), .const (.int .i64 (1)), .const (.int .i64 (0))]) (ps := [.vc (pI .i64 (-2)), .vc (pI .i64 1), .vc (pI .i64 0)]) (zs := [(-2), 1, 0]) rfl tyS22 rfl ⟨⟨trivial, rfl⟩, ⟨trivial, rfl⟩, ⟨trivial, rfl⟩, trivial⟩ rfl, trivial⟩ (fun G43 => ⟨k_I _ _, k_I _ _, k_I _ _, trivial⟩)⟩, ⟨rfl, .runG (lo := 0) (n := 1) ⟨fun G43 A => t_call rfl (ct_gantrylaw09_whole h54) rfl, trivial⟩ (fun G43 => ⟨rfl, trivial⟩)⟩, ⟨rfl, .runG (lo := 0) (n := 1) ⟨fun G43 A => t_call rfl (ct_gantryref09_SameRow h56) rfl, trivial⟩ (fun G43 => ⟨rfl, rfl, trivial⟩)⟩, ⟨rfl, .run (lo := 0) (n := 1) ⟨fun G43 A => t_pickT rfl, trivial⟩ (fun G43 => ⟨rfl, rfl, trivial⟩)⟩, ⟨rfl, .run (lo := 0) (n := 1) ⟨fun G43 A => tr_bool (t_mv (.inl rfl)) h57, trivial⟩ (fun G43 => ⟨rfl, trivial⟩)⟩, ⟨rfl, .skip⟩, ⟨rfl, .skip⟩, ⟨rfl, .skip⟩, ⟨rfl, .run (lo := 0) (n := 1) ⟨fun G43 A => t_pickF rfl, trivial⟩ (fun G43 => ⟨rfl, k_B _, trivial⟩)⟩, ⟨rfl, .run (lo := 0) (n := 1) ⟨fun G43 A => t_mv (.inr rfl), trivial⟩ (fun G43 => ⟨rfl, trivial⟩)⟩, trivial⟩ (fun bs44 G43 => ?_)
                      refine r_nil (r_next (r_seq (r_reg (r_mv ?_))))
                      refine r_mv ?_
                      refine r_opn ?_
                      refine r_opn ?_
                      refine r_opn ?_
                      refine r_opn ?_
                      refine r_opn ?_
                      refine r_opn ?_
                      refine r_opn ?_
                      refine r_opn ?_
                      refine r_opn ?_
                      refine r_op (t_pickF rfl) ⟨rfl, k_B _, trivial⟩ ?_
                      refine r_mv ?_
                      refine r_opn ?_
                      refine r_opn ?_
                      refine r_op (t_pickF rfl) ⟨rfl, k_B _, trivial⟩ ?_
                      refine r_mv ?_
                      refine r_opn ?_
                      refine r_opn ?_
                      refine r_opn ?_
                      refine r_opn ?_
                      refine r_opn ?_
                      refine r_opn ?_
                      refine r_opn ?_
                      refine r_op (t_pickF rfl) ⟨rfl, k_B _, trivial⟩ ?_
                      refine r_as ?_
                      refine r_nil (r_next (r_ret (r_toR ?_)))
                      obtain rfl := sm1 hF
                      exact r_done1 (.inl rfl) Tryz.results44 (.tmp rfl .nil) rfl rfl
                  · have hF := cnd_f h50 hF
                    refine r_draw [0, 1, 3, 7, 7, 23, 63, 127, 255, 511, 1023, 2047, 511, 4607, 16383, 32767, 65535, 131071, 131071, 524287, 1048575, 2097151] 22 0 [.v (.vc (pI .i64 v9.1)), .v (.vc (pB (v9.1 == 2))), .v (.vc (pB true)), .v (.vc (pS cQ v13.1)), .v (.vc (pS cI [(-2), 0, 1])), .v (.vc (pS cQ v46)), .v (.vc (pB v48)), .v (.vc (pB v48)), .v (.vc (pB false)), .v .any, .v .any, .v .any, .v .any, .v .any, .v .any, .v (.vc (pB false)), .v (.vc (pB false)), .v .any, .v .any, .v .any, .v (.vc (pB false)), .v (.vc (pB false))] Tryz_mixed ⟨⟨rfl, .run (lo := 0) (n := 1) ⟨fun G43 A => t_mv (.inl rfl), trivial⟩ (fun G43 => ⟨rfl, trivial⟩)⟩, ⟨rfl, .run (lo := 0) (n := 1) ⟨fun G43 A => t_eq rfl, trivial⟩ (fun G43 => ⟨rfl, k_I _ _, trivial⟩)⟩, ⟨rfl, .run (lo := 0) (n := 1) ⟨fun G43 A => tr_bool (t_mv (.inl rfl)) h45, trivial⟩ (fun G43 => ⟨rfl, trivial⟩)⟩, ⟨rfl, .runG (lo := 0) (n := 1) ⟨fun G43 A => t_mv (.inl rfl), trivial⟩ (fun G43 => ⟨rfl, trivial⟩)⟩, ⟨rfl, .runG (lo := 0) (n := 1) ⟨fun G43 A => t_bs (C := cI) (xs := [.const (.int .i64 (-2)), .const (.int .i64 (0)), .const (.int .i64 (1))]) (ps := [.vc (pI .i64 (-2)), .vc (pI .i64 0), .vc (pI .i64 1)]) (zs := [(-2), 0, 1]) rfl tyS22 rfl ⟨⟨trivial, rfl⟩, ⟨trivial, rfl⟩, ⟨trivial, rfl⟩, trivial⟩ rfl, trivial⟩ (fun G43 => ⟨k_I _ _, k_I _ _, k_I _ _, trivial⟩)⟩, ⟨rfl, .runG (lo := 0) (n := 1) ⟨fun G43 A => t_call rfl (ct_gantrylaw09_whole h47) rfl, trivial⟩ (fun G43 => ⟨rfl, trivial⟩)⟩, ⟨rfl, .runG (lo := 0) (n := 1) ⟨fun G43 A => t_call rfl (ct_gantryref09_SameRow h49) rfl, trivial⟩ (fun G43 => ⟨rfl, rfl, trivial⟩)⟩, ⟨rfl, .run (lo := 0) (n := 1) ⟨fun G43 A => t_pickT rfl, trivial⟩ (fun G43 => ⟨rfl, rfl, trivial⟩)⟩, ⟨rfl, .run (lo := 0) (n := 1) ⟨fun G43 A => tr_bool (t_mv (.inl rfl)) h50, trivial⟩ (fun G43 => ⟨rfl, trivial⟩)⟩, ⟨rfl, .skip⟩, ⟨rfl, .skip⟩, ⟨rfl, .skip⟩, ⟨rfl, .skip⟩, ⟨rfl, .skip⟩, ⟨rfl, .skip⟩, ⟨rfl, .run (lo := 0) (n := 1) ⟨fun G43 A => t_pickF rfl, trivial⟩ (fun G43 => ⟨rfl, k_B _, trivial⟩)⟩, ⟨rfl, .run (lo := 0) (n := 1) ⟨fun G43 A => t_mv (.inl rfl), trivial⟩ (fun G43 => ⟨rfl, trivial⟩)⟩, ⟨rfl, .skip⟩, ⟨rfl, .skip⟩, ⟨rfl, .skip⟩, ⟨rfl, .run (lo := 0) (n := 1) ⟨fun G43 A => t_pickF rfl, trivial⟩ (fun G43 => ⟨rfl, k_B _, trivial⟩)⟩, ⟨rfl, .run (lo := 0) (n := 1) ⟨fun G43 A => t_mv (.inr rfl), trivial⟩ (fun G43 => ⟨rfl, trivial⟩)⟩, trivial⟩ (fun bs44 G43 => ?_)
                    refine r_nil (r_next (r_seq (r_reg (r_mv ?_))))
                    refine r_mv ?_
                    refine r_opn ?_
                    refine r_opn ?_
                    refine r_opn ?_
                    refine r_opn ?_
                    refine r_opn ?_
                    refine r_opn ?_
                    refine r_opn ?_
                    refine r_opn ?_
                    refine r_opn ?_
                    refine r_op (t_pickF rfl) ⟨rfl, k_B _, trivial⟩ ?_
                    refine r_mv ?_
                    refine r_opn ?_
                    refine r_opn ?_
                    refine r_op (t_pickF rfl) ⟨rfl, k_B _, trivial⟩ ?_
                    refine r_mv ?_
                    refine r_opn ?_
                    refine r_opn ?_
                    refine r_opn ?_
                    refine r_opn ?_
                    refine r_opn ?_
                    refine r_opn ?_
                    refine r_opn ?_
                    refine r_op (t_pickF rfl) ⟨rfl, k_B _, trivial⟩ ?_
                    refine r_as ?_
                    refine r_nil (r_next (r_ret (r_toR ?_)))
                    obtain rfl := sm1 hF
                    exact r_done1 (.inl rfl) Tryz.results44 (.tmp rfl .nil) rfl rfl
                · have hF := cnd_f h45 hF
                  refine r_draw [0, 1, 3, 7, 7, 23, 63, 127, 255, 511, 1023, 2047, 511, 4607, 16383, 32767, 65535, 131071, 131071, 524287, 1048575, 2097151] 22 0 [.v (.vc (pI .i64 v9.1)), .v (.vc (pB (v9.1 == 2))), .v (.vc (pB false)), .v .any, .v .any, .v .any, .v .any, .v (.vc (pB false)), .v (.vc (pB false)), .v .any, .v .any, .v .any, .v .any, .v .any, .v .any, .v (.vc (pB false)), .v (.vc (pB false)), .v .any, .v .any, .v .any, .v (.vc (pB false)), .v (.vc (pB false))] Tryz_mixed ⟨⟨rfl, .run (lo := 0) (n := 1) ⟨fun G43 A => t_mv (.inl rfl), trivial⟩ (fun G43 => ⟨rfl, trivial⟩)⟩, ⟨rfl, .run (lo := 0) (n := 1) ⟨fun G43 A => t_eq rfl, trivial⟩ (fun G43 => ⟨rfl, k_I _ _, trivial⟩)⟩, ⟨rfl, .run (lo := 0) (n := 1) ⟨fun G43 A => tr_bool (t_mv (.inl rfl)) h45, trivial⟩ (fun G43 => ⟨rfl, trivial⟩)⟩, ⟨rfl, .skip⟩, ⟨rfl, .skip⟩, ⟨rfl, .skip⟩, ⟨rfl, .skip⟩, ⟨rfl, .run (lo := 0) (n := 1) ⟨fun G43 A => t_pickF rfl, trivial⟩ (fun G43 => ⟨rfl, k_B _, trivial⟩)⟩, ⟨rfl, .run (lo := 0) (n := 1) ⟨fun G43 A => t_mv (.inl rfl), trivial⟩ (fun G43 => ⟨rfl, trivial⟩)⟩, ⟨rfl, .skip⟩, ⟨rfl, .skip⟩, ⟨rfl, .skip⟩, ⟨rfl, .skip⟩, ⟨rfl, .skip⟩, ⟨rfl, .skip⟩, ⟨rfl, .run (lo := 0) (n := 1) ⟨fun G43 A => t_pickF rfl, trivial⟩ (fun G43 => ⟨rfl, k_B _, trivial⟩)⟩, ⟨rfl, .run (lo := 0) (n := 1) ⟨fun G43 A => t_mv (.inl rfl), trivial⟩ (fun G43 => ⟨rfl, trivial⟩)⟩, ⟨rfl, .skip⟩, ⟨rfl, .skip⟩, ⟨rfl, .skip⟩, ⟨rfl, .run (lo := 0) (n := 1) ⟨fun G43 A => t_pickF rfl, trivial⟩ (fun G43 => ⟨rfl, k_B _, trivial⟩)⟩, ⟨rfl, .run (lo := 0) (n := 1) ⟨fun G43 A => t_mv (.inr rfl), trivial⟩ (fun G43 => ⟨rfl, trivial⟩)⟩, trivial⟩ (fun bs44 G43 => ?_)
                  refine r_nil (r_next (r_seq (r_reg (r_mv ?_))))
                  refine r_mv ?_
                  refine r_opn ?_
                  refine r_opn ?_
                  refine r_opn ?_
                  refine r_opn ?_
                  refine r_opn ?_
                  refine r_opn ?_
                  refine r_opn ?_
                  refine r_opn ?_
                  refine r_opn ?_
                  refine r_op (t_pickF rfl) ⟨rfl, k_B _, trivial⟩ ?_
                  refine r_mv ?_
                  refine r_opn ?_
                  refine r_opn ?_
                  refine r_op (t_pickF rfl) ⟨rfl, k_B _, trivial⟩ ?_
                  refine r_mv ?_
                  refine r_opn ?_
                  refine r_opn ?_
                  refine r_opn ?_
                  refine r_opn ?_
                  refine r_opn ?_
                  refine r_opn ?_
                  refine r_opn ?_
                  refine r_op (t_pickF rfl) ⟨rfl, k_B _, trivial⟩ ?_
                  refine r_as ?_
                  refine r_nil (r_next (r_ret (r_toR ?_)))
                  obtain rfl := sm1 hF
                  exact r_done1 (.inl rfl) Tryz.results44 (.tmp rfl .nil) rfl rfl

abbrev N_gantryref05_Dot : Nat := 107
def F_gantryref05_Dot_j9 (K : Nat) (x7 : Rat) : Option Rat :=
  some x7
def F_gantryref05_Dot_l8 (K : Nat) (a0 : List Rat) (a1 : List Rat) : Nat → Rat → Int → Option Rat
  | 0, _, _ => none
  | k + 1, x5, x6 => bif (decide (x6 < (a0.length : Int))) then (bif (decide (x6 < (a1.length : Int))) then ((rdL a0 x6).bind fun v14 => (rdL a1 x6).bind fun v16 => (qmul v14 v16).bind fun v18 => (qadd x5 v18).bind fun v20 => (chk (x6 + 1)).bind fun v22 => F_gantryref05_Dot_l8 K a0 a1 k v20 v22) else (some x5)) else (some x5)
def F_gantryref05_Dot (K : Nat) (a0 : List Rat) (a1 : List Rat) : Option Rat :=
  (F_gantryref05_Dot_l8 K a0 a1 K 0 0).bind fun x7 => F_gantryref05_Dot_j9 K x7
set_option maxRecDepth 100000 in
theorem ct_gantryref05_Dot {K : Nat} {a0 : List Rat} {a1 : List Rat} {r : Rat} (hF : F_gantryref05_Dot K a0 a1 = some r) : Ct Tryz.prog 107 [.vc (pS cQ a0), .vc (pS cQ a1)] (.va (eQ r)) := by
  unfold F_gantryref05_Dot at hF
  refine ctO_intro Tryz.func107 rfl (by kernel_rfl) Tryz.ntmps107 rfl (fun w0 M0 => ?_)
  refine r_seq (r_reg (r_alloc rfl tyZ35q (fun b1 => ?_)))
  refine r_nil (r_next (r_seq (r_reg (r_alloc rfl tyZ35q (fun b2 => ?_)))))
  refine r_nil (r_next (r_seq (r_seq (r_reg (r_op (t_mv (.inr rfl)) ⟨k_I _ _, trivial⟩ ?_)))))
  refine r_nil (r_next (r_blk (r_cutN (fun H E => ∃ (x7 : Rat), F_gantryref05_Dot_j9 K x7 = some r ∧ H = [⟨some b2, 1, 35, 4, 1, (eQ x7)⟩, ⟨some b1, 1, 35, 4, 1, (eQ 0)⟩] ∧ E = [(4, .vc (pP (some b1) 0)), (5, .vc (pP (some b2) 0))]) ?_ (fun Jj9 => ?_))))
  · rintro _ _ ⟨x7, hF, rfl, rfl⟩
    unfold F_gantryref05_Dot_j9 at hF
    refine r_next (r_seq (r_reg (r_op (t_l 0 4 rfl rfl rfl rfl (.agg tyA35)) ⟨rfl, trivial⟩ ?_)))
    refine r_op0 (t_s 1 rfl rfl rfl tyA35.s) ⟨rfl, rfl, trivial⟩ ?_
    refine r_nil (r_next (r_ret (r_toR ?_)))
    obtain rfl := sm1 hF
    exact r_done1 (.inl rfl) Tryz.results107 (rv_cell 1 4 rfl rfl rfl rfl (.agg tyA35) .nil) rfl rfl
  · skip
    obtain ⟨x7', hL, hRl8⟩ := bnd hF
    refine r_lp (fun k a w => ∃ (x5 : Rat), ∃ (x6 : Int), F_gantryref05_Dot_l8 K a0 a1 k x5 x6 = some x7' ∧ hs _ [⟨some b2, 1, 35, 4, 1, (eQ x5)⟩, ⟨some b1, 1, 35, 4, 1, (eQ 0)⟩] [(0, .vc (pS cQ a0)), (1, .vc (pS cQ a1)), (4, .vc (pP (some b1) 0)), (5, .vc (pP (some b2) 0)), (6, .vc (pI .i64 x6))] a w) K (fun a w ⟨_, _, hF, _⟩ => by cases hF) (fun k a w ⟨x5, x6, hF, hh⟩ => r_at ?_ hh) (fun a w hh => ⟨0, 0, hL, hs_back [0, 1] rfl (by decide) (by exact ⟨rfl, rfl, rfl, rfl, rfl, trivial⟩) hh⟩)
    rw [F_gantryref05_Dot_l8.eq_2] at hF
    refine r_seq (r_seq (r_reg (r_mv ?_)))
    refine r_mv ?_
    refine r_op (t_ln rfl tyS24) ⟨rfl, trivial⟩ ?_
    refine r_op (t_lt rfl) ⟨rfl, rfl, trivial⟩ ?_
    refine r_mv ?_
    refine r_bool (fun h10 => ?_) (fun h10 => ?_)
    · have hF := cnd_t h10 hF
      refine r_opg (t_mv (.inl rfl)) ⟨rfl, trivial⟩ ?_
      refine r_opg (t_mv (.inl rfl)) ⟨rfl, trivial⟩ ?_
      refine r_opg (t_ln rfl tyS24) ⟨rfl, trivial⟩ ?_
      refine r_opg (t_lt rfl) ⟨rfl, rfl, trivial⟩ ?_
      refine r_op (t_pickT rfl) ⟨rfl, rfl, trivial⟩ ?_
      refine r_nil (r_next (r_if rfl (fun h11 => ?_) (fun h11 => ?_)))
      · have hF := cnd_t h11 hF
        refine r_skip (r_next (r_seq (r_blk ?_)))
        obtain ⟨v14, h15, hF⟩ := bnd hF
        obtain ⟨v16, h17, hF⟩ := bnd hF
        obtain ⟨v18, h19, hF⟩ := bnd hF
        obtain ⟨v20, h21, hF⟩ := bnd hF
        refine r_draw [0, 0, 0, 6, 14, 0, 0, 96, 224, 510, 1023, 2047] 11 1 [.v (.va (eQ x5)), .v (.vc (pS cQ a0)), .v (.vc (pI .i64 x6)), .v (.vc (pM (cQ.e v14))), .v (.va (eQ v14)), .v (.vc (pS cQ a1)), .v (.vc (pI .i64 x6)), .v (.vc (pM (cQ.e v16))), .v (.va (eQ v16)), .v (.va (eQ v18)), .v (.va (eQ v20))] Tryz_mixed ⟨⟨rfl, .run (lo := 0) (n := 1) ⟨fun G12 A => t_l 0 4 rfl rfl rfl rfl (.agg tyA35), trivial⟩ (fun G12 => ⟨rfl, trivial⟩)⟩, ⟨rfl, .run (lo := 0) (n := 1) ⟨fun G12 A => t_mv (.inl rfl), trivial⟩ (fun G12 => ⟨rfl, trivial⟩)⟩, ⟨rfl, .run (lo := 0) (n := 1) ⟨fun G12 A => t_mv (.inl rfl), trivial⟩ (fun G12 => ⟨rfl, trivial⟩)⟩, ⟨rfl, .run (lo := 0) (n := 1) ⟨fun G12 A => t_ix rfl tyS24 h15, trivial⟩ (fun G12 => ⟨rfl, rfl, trivial⟩)⟩, ⟨rfl, .run (lo := 0) (n := 1) ⟨fun G12 A => t_lM 4 rfl rfl (.agg tyA35), trivial⟩ (fun G12 => ⟨rfl, trivial⟩)⟩, ⟨rfl, .run (lo := 0) (n := 1) ⟨fun G12 A => t_mv (.inl rfl), trivial⟩ (fun G12 => ⟨rfl, trivial⟩)⟩, ⟨rfl, .run (lo := 0) (n := 1) ⟨fun G12 A => t_mv (.inl rfl), trivial⟩ (fun G12 => ⟨rfl, trivial⟩)⟩, ⟨rfl, .run (lo := 0) (n := 1) ⟨fun G12 A => t_ix rfl tyS24 h17, trivial⟩ (fun G12 => ⟨rfl, rfl, trivial⟩)⟩, ⟨rfl, .run (lo := 0) (n := 1) ⟨fun G12 A => t_lM 4 rfl rfl (.agg tyA35), trivial⟩ (fun G12 => ⟨rfl, trivial⟩)⟩, ⟨rfl, .run (lo := 0) (n := 1) ⟨fun G12 A => t_call rfl (qc_gantryref05_Mul h19) rfl, trivial⟩ (fun G12 => ⟨rfl, rfl, trivial⟩)⟩, ⟨rfl, .run (lo := 0) (n := 1) ⟨fun G12 A => t_call rfl (qc_gantryref05_Add h21) rfl, trivial⟩ (fun G12 => ⟨rfl, rfl, trivial⟩)⟩, trivial⟩ (fun bs13 G12 => ?_)
        refine r_op0 (t_s 0 rfl rfl rfl tyA35.s) ⟨rfl, rfl, trivial⟩ ?_
        refine r_nil (r_blkN (r_next (r_reg (r_mv ?_))))
        obtain ⟨v22, h23, hF⟩ := bnd hF
        refine r_op (t_add rfl h23) ⟨rfl, k_I _ _, trivial⟩ ?_
        refine r_as ?_
        refine r_nil ?_
        exact r_round (fun a w hh => ⟨v20, v22, hF, hs_back [0, 1] rfl (by decide) (by exact ⟨rfl, rfl, rfl, rfl, rfl, trivial⟩) hh⟩)
      · have hF := cnd_f h11 hF
        refine r_brk ?_
        obtain rfl := sm1 hF
        exact r_backJ Jj9 ⟨x5, hRl8, rfl, rfl⟩ [0, 1] rfl ⟨rfl, rfl, trivial⟩
    · have hF := cnd_f h10 hF
      refine r_opn ?_
      refine r_opn ?_
      refine r_opn ?_
      refine r_opn ?_
      refine r_op (t_pickF rfl) ⟨rfl, k_B _, trivial⟩ ?_
      refine r_nil (r_next (r_ifF rfl ?_))
      refine r_brk ?_
      obtain rfl := sm1 hF
      exact r_backJ Jj9 ⟨x5, hRl8, rfl, rfl⟩ [0, 1] rfl ⟨rfl, rfl, trivial⟩

abbrev N_gantryref09_Apply : Nat := 47
def F_gantryref09_Apply_j24 (K : Nat) (x17 : List Rat) : Option (List Rat) :=
  some x17
def F_gantryref09_Apply_l23 (K : Nat) (a0 : List (List Rat)) (a1 : List Rat) : Nat → (List Rat) → Int → Option (List Rat)
  | 0, _, _ => none
  | k + 1, x10, x16 => bif (decide (x16 < (a0.length : Int))) then ((rdL a0 x16).bind fun v26 => (F_gantryref05_Dot K v26 a1).bind fun v28 => (apL x10 [v28]).bind fun x30 => (chk (x16 + 1)).bind fun v37 => F_gantryref09_Apply_l23 K a0 a1 k x30 v37) else (some x10)
def F_gantryref09_Apply (K : Nat) (a0 : List (List Rat)) (a1 : List Rat) : Option (List Rat) :=
  (F_gantryref09_Apply_l23 K a0 a1 K ([] : List Rat) 0).bind fun x17 => F_gantryref09_Apply_j24 K x17
set_option maxRecDepth 100000 in
theorem ct_gantryref09_Apply {K : Nat} {a0 : List (List Rat)} {a1 : List Rat} {r : List Rat} (hF : F_gantryref09_Apply K a0 a1 = some r) : Ct Tryz.prog 47 [.vc (pS (cSl cQ) a0), .vc (pS cQ a1)] (.vc (pS cQ r)) := by
  unfold F_gantryref09_Apply at hF
  refine ctO_intro Tryz.func47 rfl (by kernel_rfl) Tryz.ntmps47 rfl (fun w0 M0 => ?_)
  refine r_seq (r_reg (r_op (t_mv (.inr rfl)) ⟨k_nil cQ, trivial⟩ ?_))
  refine r_nil (r_next (r_seq (r_reg (r_nilO cQ 35 rfl ?_))))
  refine r_nil (r_next (r_seq (r_seq (r_reg (r_op (t_mv (.inr rfl)) ⟨k_I _ _, trivial⟩ ?_)))))
  refine r_nil (r_next (r_blk (r_cutN (fun H E => ∃ (x17 : List Rat), ∃ (b18 : Option Nat), ∃ (c19 : Nat), ∃ (n20 : Nat), F_gantryref09_Apply_j24 K x17 = some r ∧ x17.length = n20 ∧ H = [hO cQ b18 c19 35 n20 x17] ∧ E = [(5, .vc (pO b18 n20 c19))]) ?_ (fun Jj24 => ?_))))
  · rintro _ _ ⟨x17, b18, c19, n20, hF, q21, rfl, rfl⟩
    unfold F_gantryref09_Apply_j24 at hF
    refine r_next (r_seq (r_reg (r_mv ?_)))
    refine r_as ?_
    refine r_nil (r_next (r_ret (r_toR (r_fzX 0 [4, 5, 22] rfl q21 ⟨rfl, rfl, rfl, trivial⟩ rfl ?_))))
    obtain rfl := sm1 hF
    exact r_done1 (.inl rfl) Tryz.results47 (.tmp rfl .nil) rfl rfl
  · skip
    obtain ⟨x17', hL, hRl23⟩ := bnd hF
    refine r_lp (fun k a w => ∃ (x10 : List Rat), ∃ (x16 : Int), ∃ (b11 : Option Nat), ∃ (c12 : Nat), ∃ (n13 : Nat), F_gantryref09_Apply_l23 K a0 a1 k x10 x16 = some x17' ∧ x10.length = n13 ∧ hs _ [hO cQ b11 c12 35 n13 x10] [(0, .vc (pS (cSl cQ) a0)), (1, .vc (pS cQ a1)), (5, .vc (pO b11 n13 c12)), (6, .vc (pI .i64 x16))] a w) K (fun a w ⟨_, _, _, _, _, hF, _, _⟩ => by cases hF) (fun k a w ⟨x10, x16, b11, c12, n13, hF, q14, hh⟩ => r_at ?_ hh) (fun a w hh => ⟨([] : List Rat), 0, none, 0, 0, hL, rfl, hs_back [0] rfl (by decide) (by exact ⟨rfl, rfl, rfl, rfl, trivial⟩) hh⟩)
    rw [F_gantryref09_Apply_l23.eq_2] at hF
    refine r_seq (r_seq (r_reg (r_mv ?_)))
    refine r_mv ?_
    refine r_op (t_ln rfl tyS47) ⟨rfl, trivial⟩ ?_
    refine r_op (t_lt rfl) ⟨rfl, rfl, trivial⟩ ?_
    refine r_nil (r_next (r_if rfl (fun h25 => ?_) (fun h25 => ?_)))
    · have hF := cnd_t h25 hF
      refine r_skip (r_next (r_seq (r_blk (r_reg (r_mv ?_)))))
      refine r_mv ?_
      refine r_mv ?_
      obtain ⟨v26, h27, hF⟩ := bnd hF
      refine r_op (t_ix rfl tyS47 h27) ⟨rfl, rfl, trivial⟩ ?_
      refine r_op (t_lM 1 rfl rfl (.one tyO24)) ⟨rfl, trivial⟩ ?_
      refine r_mv ?_
      obtain ⟨v28, h29, hF⟩ := bnd hF
      refine r_op (t_call rfl (ct_gantryref05_Dot h29) rfl) ⟨rfl, rfl, trivial⟩ ?_
      refine r_op (t_bs (C := cQ) (xs := [.tmp 19]) (ps := [.va (eQ v28)]) (zs := [v28]) rfl tyS24 rfl ⟨⟨trivial, rfl⟩, trivial⟩ rfl) ⟨rfl, trivial⟩ ?_
      obtain ⟨x30, h31, hF⟩ := bnd hF
      refine r_app 0 rfl tyS24 rfl rfl q14 rfl rfl h31 (fun b32 c33 H34 e35 => ?_)
      cases e35
      refine r_as ?_
      refine r_nil (r_blkN (r_next (r_reg (r_mv ?_))))
      obtain ⟨v37, h38, hF⟩ := bnd hF
      refine r_op (t_add rfl h38) ⟨rfl, k_I _ _, trivial⟩ ?_
      refine r_as ?_
      refine r_nil ?_
      exact r_round (fun a w hh => ⟨x30, v37, b32, c33, (n13 + [v28].length), hF, (apL_len h31 q14), hs_back [0] rfl (by decide) (by exact ⟨rfl, rfl, rfl, rfl, trivial⟩) hh⟩)
    · have hF := cnd_f h25 hF
      refine r_brk ?_
      obtain rfl := sm1 hF
      exact r_backJ Jj24 ⟨x10, b11, c12, n13, hRl23, q14, rfl, rfl⟩ [0] rfl ⟨rfl, trivial⟩

abbrev N_gantryref09_over : Nat := 149
def F_gantryref09_over_j25 (K : Nat) (x18 : List Rat) : Option (List Rat) :=
  some x18
def F_gantryref09_over_l24 (K : Nat) (a0 : List Rat) (a1 : Rat) : Nat → (List Rat) → Int → Option (List Rat)
  | 0, _, _ => none
  | k + 1, x11, x17 => bif (decide (x17 < (a0.length : Int))) then ((rdL a0 x17).bind fun v29 => (qdiv v29 a1).bind fun v31 => (apL x11 [v31]).bind fun x33 => (chk (x17 + 1)).bind fun v40 => F_gantryref09_over_l24 K a0 a1 k x33 v40) else (some x11)
def F_gantryref09_over (K : Nat) (a0 : List Rat) (a1 : Rat) : Option (List Rat) :=
  (F_gantryref09_over_l24 K a0 a1 K ([] : List Rat) 0).bind fun x18 => F_gantryref09_over_j25 K x18
set_option maxRecDepth 100000 in
theorem ct_gantryref09_over {K : Nat} {a0 : List Rat} {a1 : Rat} {r : List Rat} (hF : F_gantryref09_over K a0 a1 = some r) : Ct Tryz.prog 149 [.vc (pS cQ a0), .va (eQ a1)] (.vc (pS cQ r)) := by
  unfold F_gantryref09_over at hF
  refine ctO_intro Tryz.func149 rfl (by kernel_rfl) Tryz.ntmps149 rfl (fun w0 M0 => ?_)
  refine r_seq (r_reg (r_box rfl rfl trivial (fun b1 => ?_)))
  refine r_op (t_mv (.inr rfl)) ⟨k_nil cQ, trivial⟩ ?_
  refine r_nil (r_next (r_seq (r_reg (r_nilO cQ 35 rfl ?_))))
  refine r_nil (r_next (r_seq (r_seq (r_reg (r_op (t_mv (.inr rfl)) ⟨k_I _ _, trivial⟩ ?_)))))
  refine r_nil (r_next (r_blk (r_cutN (fun H E => ∃ (x18 : List Rat), ∃ (b19 : Option Nat), ∃ (c20 : Nat), ∃ (n21 : Nat), F_gantryref09_over_j25 K x18 = some r ∧ x18.length = n21 ∧ H = [hO cQ b19 c20 35 n21 x18] ∧ E = [(5, .vc (pO b19 n21 c20))]) ?_ (fun Jj25 => ?_))))
  · rintro _ _ ⟨x18, b19, c20, n21, hF, q22, rfl, rfl⟩
    unfold F_gantryref09_over_j25 at hF
    refine r_next (r_seq (r_reg (r_mv ?_)))
    refine r_as ?_
    refine r_nil (r_next (r_ret (r_toR (r_fzX 0 [4, 5, 22] rfl q22 ⟨rfl, rfl, rfl, trivial⟩ rfl ?_))))
    obtain rfl := sm1 hF
    exact r_done1 (.inl rfl) Tryz.results149 (.tmp rfl .nil) rfl rfl
  · skip
    obtain ⟨x18', hL, hRl24⟩ := bnd hF
    refine r_lp (fun k a w => ∃ (x11 : List Rat), ∃ (x17 : Int), ∃ (b12 : Option Nat), ∃ (c13 : Nat), ∃ (n14 : Nat), F_gantryref09_over_l24 K a0 a1 k x11 x17 = some x18' ∧ x11.length = n14 ∧ hs _ [hO cQ b12 c13 35 n14 x11, ⟨some b1, 1, 35, 4, 1, (eQ a1)⟩] [(0, .vc (pS cQ a0)), (3, .vc (pP (some b1) 0)), (5, .vc (pO b12 n14 c13)), (6, .vc (pI .i64 x17))] a w) K (fun a w ⟨_, _, _, _, _, hF, _, _⟩ => by cases hF) (fun k a w ⟨x11, x17, b12, c13, n14, hF, q15, hh⟩ => r_at ?_ hh) (fun a w hh => ⟨([] : List Rat), 0, none, 0, 0, hL, rfl, hs_back [0, 1] rfl (by decide) (by exact ⟨rfl, rfl, rfl, rfl, trivial⟩) hh⟩)
    rw [F_gantryref09_over_l24.eq_2] at hF
    refine r_seq (r_seq (r_reg (r_mv ?_)))
    refine r_mv ?_
    refine r_op (t_ln rfl tyS24) ⟨rfl, trivial⟩ ?_
    refine r_op (t_lt rfl) ⟨rfl, rfl, trivial⟩ ?_
    refine r_nil (r_next (r_if rfl (fun h26 => ?_) (fun h26 => ?_)))
    · have hF := cnd_t h26 hF
      refine r_skip (r_next (r_seq (r_blk ?_)))
      obtain ⟨v29, h30, hF⟩ := bnd hF
      obtain ⟨v31, h32, hF⟩ := bnd hF
      refine r_draw [0, 0, 0, 6, 14, 0, 62, 126, 255, 511] 8 2 [.v (.vc (pO b12 n14 c13)), .v (.vc (pS cQ a0)), .v (.vc (pI .i64 x17)), .v (.vc (pM (cQ.e v29))), .v (.va (eQ v29)), .v (.va (eQ a1)), .v (.va (eQ v31)), .v (.vc (pS cQ [v31]))] Tryz_mixed ⟨⟨rfl, .run (lo := 0) (n := 1) ⟨fun G27 A => t_mv (.inl rfl), trivial⟩ (fun G27 => ⟨rfl, trivial⟩)⟩, ⟨rfl, .run (lo := 0) (n := 1) ⟨fun G27 A => t_mv (.inl rfl), trivial⟩ (fun G27 => ⟨rfl, trivial⟩)⟩, ⟨rfl, .run (lo := 0) (n := 1) ⟨fun G27 A => t_mv (.inl rfl), trivial⟩ (fun G27 => ⟨rfl, trivial⟩)⟩, ⟨rfl, .run (lo := 0) (n := 1) ⟨fun G27 A => t_ix rfl tyS24 h30, trivial⟩ (fun G27 => ⟨rfl, rfl, trivial⟩)⟩, ⟨rfl, .run (lo := 0) (n := 1) ⟨fun G27 A => t_lM 4 rfl rfl (.agg tyA35), trivial⟩ (fun G27 => ⟨rfl, trivial⟩)⟩, ⟨rfl, .run (lo := 0) (n := 1) ⟨fun G27 A => t_l 1 4 rfl rfl rfl rfl (.agg tyA35), trivial⟩ (fun G27 => ⟨rfl, trivial⟩)⟩, ⟨rfl, .run (lo := 0) (n := 1) ⟨fun G27 A => t_call rfl (qc_gantryref05_Div h32) rfl, trivial⟩ (fun G27 => ⟨rfl, rfl, trivial⟩)⟩, ⟨rfl, .run (lo := 0) (n := 1) ⟨fun G27 A => t_bs (C := cQ) (xs := [.tmp 19]) (ps := [.va (eQ v31)]) (zs := [v31]) rfl tyS24 rfl ⟨⟨trivial, rfl⟩, trivial⟩ rfl, trivial⟩ (fun G27 => ⟨rfl, trivial⟩)⟩, trivial⟩ (fun bs28 G27 => ?_)
      obtain ⟨x33, h34, hF⟩ := bnd hF
      refine r_app 0 rfl tyS24 rfl rfl q15 rfl rfl h34 (fun b35 c36 H37 e38 => ?_)
      cases e38
      refine r_as ?_
      refine r_nil (r_blkN (r_next (r_reg (r_mv ?_))))
      obtain ⟨v40, h41, hF⟩ := bnd hF
      refine r_op (t_add rfl h41) ⟨rfl, k_I _ _, trivial⟩ ?_
      refine r_as ?_
      refine r_nil ?_
      exact r_round (fun a w hh => ⟨x33, v40, b35, c36, (n14 + [v31].length), hF, (apL_len h34 q15), hs_back [0, 1] rfl (by decide) (by exact ⟨rfl, rfl, rfl, rfl, trivial⟩) hh⟩)
    · have hF := cnd_f h26 hF
      refine r_brk ?_
      obtain rfl := sm1 hF
      exact r_backJ Jj25 ⟨x11, b12, c13, n14, hRl24, q15, rfl, rfl⟩ [0] rfl ⟨rfl, trivial⟩

abbrev N_gantryref09_Reduced : Nat := 103
def F_gantryref09_Reduced_j51 (K : Nat) (x38 : List Int) (x44 : List (List Rat)) : Option ((List (List Rat)) × (List Int)) :=
  some (x44, x38)
def F_gantryref09_Reduced_j99 (K : Nat) (x25 : List Int) (x37 : Int) (v69 : List Rat) (recl50 : (List Int) → (List (List Rat)) → Int → Option ((List Int) × (List (List Rat)))) (x92 : List (List Rat)) : Option ((List Int) × (List (List Rat))) :=
  (rdL x92 (x25.length : Int)).bind fun v100 => (stL x92 (x25.length : Int) v69).bind fun x102 => (apL x25 [x37]).bind fun x105 => (chk (x37 + 1)).bind fun v112 => recl50 x105 x102 v112
def F_gantryref09_Reduced_l98 (K : Nat) (x37 : Int) (v69 : List Rat) : Nat → (List (List Rat)) → Int → Option (List (List Rat))
  | 0, _, _ => none
  | k + 1, x85, x91 => bif (decide (x91 < (x85.length : Int))) then ((rdL x85 x91).bind fun v117 => (rdL x85 x91).bind fun v119 => (rdL v119 x37).bind fun v121 => (F_gantryref09_less K v117 v69 v121).bind fun v123 => (rdL x85 x91).bind fun v125 => (stL x85 x91 v123).bind fun x127 => (chk (x91 + 1)).bind fun v130 => F_gantryref09_Reduced_l98 K x37 v69 k x127 v130) else (some x85)
def F_gantryref09_Reduced_j57 (K : Nat) (x25 : List Int) (x31 : List (List Rat)) (x37 : Int) (recl50 : (List Int) → (List (List Rat)) → Int → Option ((List Int) × (List (List Rat)))) (x55 : Int) : Option ((List Int) × (List (List Rat))) :=
  bif (x55 == (x31.length : Int)) then ((chk (x37 + 1)).bind fun v59 => recl50 x25 x31 v59) else ((rdL x31 x55).bind fun v63 => (rdL x31 x55).bind fun v65 => (rdL v65 x37).bind fun v67 => (F_gantryref09_over K v63 v67).bind fun v69 => (rdL x31 (x25.length : Int)).bind fun v71 => (rdL x31 x55).bind fun v73 => (stL x31 x55 v71).bind fun x75 => (F_gantryref09_Reduced_l98 K x37 v69 K x75 0).bind fun x92 => F_gantryref09_Reduced_j99 K x25 x37 v69 recl50 x92)
def F_gantryref09_Reduced_l56 (K : Nat) (x31 : List (List Rat)) (x37 : Int) : Nat → Int → Option Int
  | 0, _ => none
  | k + 1, x54 => bif (decide (x54 < (x31.length : Int))) then ((chk ((x31.length : Int) - 1)).bind fun v133 => (rdL x31 (min x54 v133)).bind fun v135 => (rdL v135 x37).bind fun v137 => (qsgn v137).bind fun v139 => bif (v139 == 0) then ((chk (x54 + 1)).bind fun v142 => F_gantryref09_Reduced_l56 K x31 x37 k v142) else (some x54)) else (some x54)
def F_gantryref09_Reduced_l50 (K : Nat) (a1 : Int) : Nat → (List Int) → (List (List Rat)) → Int → Option ((List Int) × (List (List Rat)))
  | 0, _, _, _ => none
  | k + 1, x25, x31, x37 => bif (decide (x37 < a1)) then ((F_gantryref09_Reduced_l56 K x31 x37 K (x25.length : Int)).bind fun x55 => F_gantryref09_Reduced_j57 K x25 x31 x37 (F_gantryref09_Reduced_l50 K a1 k) x55) else (some (x25, x31))
def F_gantryref09_Reduced (K : Nat) (a0 : List (List Rat)) (a1 : Int) : Option ((List (List Rat)) × (List Int)) :=
  (apL ([] : List (List Rat)) a0).bind fun x3 => (F_gantryref09_Reduced_l50 K a1 K ([] : List Int) x3 0).bind fun (x38, x44) => F_gantryref09_Reduced_j51 K x38 x44
set_option maxRecDepth 100000 in
theorem ct_gantryref09_Reduced {K : Nat} {a0 : List (List Rat)} {a1 : Int} {r : (List (List Rat)) × (List Int)} (hF : F_gantryref09_Reduced K a0 a1 = some r) : Ct Tryz.prog 103 [.vc (pS (cSl cQ) a0), .vc (pI .i64 a1)] (.t2 (.vc (pS (cSl cQ) r.1)) (.vc (pS cI r.2))) := by
  unfold F_gantryref09_Reduced at hF
  refine ctO_intro Tryz.func103 rfl (by kernel_rfl) Tryz.ntmps103 rfl (fun w0 M0 => ?_)
  refine r_seq (r_reg (r_op (t_mv (.inr rfl)) ⟨k_nil (cSl cQ), trivial⟩ ?_))
  refine r_op (t_mv (.inr rfl)) ⟨k_nil cI, trivial⟩ ?_
  refine r_nil (r_next (r_seq (r_reg (r_nilO (cSl cQ) 24 rfl ?_))))
  refine r_nil (r_next (r_seq (r_reg (r_mv ?_))))
  refine r_mv ?_
  obtain ⟨x3, h4, hF⟩ := bnd hF
  refine r_app 0 rfl tyS47 rfl rfl rfl rfl rfl h4 (fun b5 c6 H7 e8 => ?_)
  cases e8
  refine r_as ?_
  refine r_nil (r_next (r_seq (r_reg (r_nilO cI 3 rfl ?_))))
  refine r_nil (r_next (r_seq (r_seq (r_reg (r_op (t_mv (.inr rfl)) ⟨k_I _ _, trivial⟩ ?_)))))
  refine r_nil (r_next (r_blk (r_cutN (fun H E => ∃ (x38 : List Int), ∃ (x44 : List (List Rat)), ∃ (b39 : Option Nat), ∃ (c40 : Nat), ∃ (n41 : Nat), ∃ (b45 : Option Nat), ∃ (c46 : Nat), ∃ (n47 : Nat), F_gantryref09_Reduced_j51 K x38 x44 = some r ∧ x38.length = n41 ∧ x44.length = n47 ∧ H = [hO cI b39 c40 3 n41 x38, hO (cSl cQ) b45 c46 24 n47 x44] ∧ E = [(6, .vc (pO b45 n47 c46)), (7, .vc (pO b39 n41 c40))]) ?_ (fun Jj51 => ?_))))
  · rintro _ _ ⟨x38, x44, b39, c40, n41, b45, c46, n47, hF, q42, q48, rfl, rfl⟩
    unfold F_gantryref09_Reduced_j51 at hF
    refine r_next (r_seq (r_reg (r_mv ?_)))
    refine r_mv ?_
    refine r_as ?_
    refine r_as ?_
    refine r_nil (r_next (r_ret (r_toR (r_fzX 1 [4, 6, 98] rfl q48 ⟨rfl, rfl, rfl, trivial⟩ rfl ?_))))
    refine r_fzX 0 [5, 7, 99] rfl q42 ⟨rfl, rfl, rfl, trivial⟩ rfl ?_
    obtain rfl := sm1 hF
    exact r_done1 (.inl rfl) Tryz.results103 (.tmp rfl (.tmp rfl .nil)) rfl rfl
  · skip
    obtain ⟨⟨x38', x44'⟩, hL, hRl50⟩ := bnd hF
    refine r_lp (fun k a w => ∃ (x25 : List Int), ∃ (x31 : List (List Rat)), ∃ (x37 : Int), ∃ (b26 : Option Nat), ∃ (c27 : Nat), ∃ (n28 : Nat), ∃ (b32 : Option Nat), ∃ (c33 : Nat), ∃ (n34 : Nat), F_gantryref09_Reduced_l50 K a1 k x25 x31 x37 = some (x38', x44') ∧ x25.length = n28 ∧ x31.length = n34 ∧ hs _ [hO cI b26 c27 3 n28 x25, hO (cSl cQ) b32 c33 24 n34 x31] [(1, .vc (pI .i64 a1)), (6, .vc (pO b32 n34 c33)), (7, .vc (pO b26 n28 c27)), (8, .vc (pI .i64 x37))] a w) K (fun a w ⟨_, _, _, _, _, _, _, _, _, hF, _, _, _⟩ => by cases hF) (fun k a w ⟨x25, x31, x37, b26, c27, n28, b32, c33, n34, hF, q29, q35, hh⟩ => r_at ?_ hh) (fun a w hh => ⟨([] : List Int), x3, 0, none, 0, 0, b5, c6, (0 + a0.length), hL, rfl, (apL_len h4 rfl), hs_back [0, 1] rfl (by decide) (by exact ⟨rfl, rfl, rfl, rfl, trivial⟩) hh⟩)
    rw [F_gantryref09_Reduced_l50.eq_2] at hF
    refine r_seq (r_seq (r_reg (r_mv ?_)))
    refine r_mv ?_
    refine r_op (t_lt rfl) ⟨rfl, rfl, trivial⟩ ?_
    refine r_nil (r_next (r_if rfl (fun h52 => ?_) (fun h52 => ?_)))
    · have hF := cnd_t h52 hF
      refine r_skip (r_next (r_seq (r_blk (r_seq (r_reg (r_mv ?_))))))
      refine r_op (t_lnE (C := cI) (xs := x25) (T := 3) rfl tyS22 q29) ⟨rfl, trivial⟩ ?_
      refine r_as ?_
      refine r_nil (r_next (r_seq (r_reg (r_mv ?_))))
      refine r_as ?_
      refine r_nil (r_next (r_seq (r_blk (r_cutN (fun H E => ∃ (x55 : Int), F_gantryref09_Reduced_j57 K x25 x31 x37 (F_gantryref09_Reduced_l50 K a1 k) x55 = some (x38', x44') ∧ H = [hO cI b26 c27 3 n28 x25, hO (cSl cQ) b32 c33 24 n34 x31] ∧ E = [(1, .vc (pI .i64 a1)), (6, .vc (pO b32 n34 c33)), (7, .vc (pO b26 n28 c27)), (8, .vc (pI .i64 x37)), (9, .vc (pI .i64 (x25.length : Int))), (10, .vc (pI .i64 x55))]) ?_ (fun Jj57 => ?_)))))
      · rintro _ _ ⟨x55, hF, rfl, rfl⟩
        unfold F_gantryref09_Reduced_j57 at hF
        refine r_next (r_seq (r_seq (r_reg (r_mv ?_))))
        refine r_mv ?_
        refine r_op (t_lnE (C := (cSl cQ)) (xs := x31) (T := 24) rfl tyS47 q35) ⟨rfl, trivial⟩ ?_
        refine r_op (t_eq rfl) ⟨rfl, rfl, trivial⟩ ?_
        refine r_nil (r_next (r_if rfl (fun h58 => ?_) (fun h58 => ?_)))
        · have hF := cnd_t h58 hF
          refine r_brk (r_next (r_reg (r_mv ?_)))
          obtain ⟨v59, h60, hF⟩ := bnd hF
          refine r_op (t_add rfl h60) ⟨rfl, k_I _ _, trivial⟩ ?_
          refine r_as ?_
          refine r_nil ?_
          exact r_round (fun a w hh => ⟨x25, x31, v59, b26, c27, n28, b32, c33, n34, hF, q29, q35, hs_back [0, 1] rfl (by decide) (by exact ⟨rfl, rfl, rfl, rfl, trivial⟩) hh⟩)
        · have hF := cnd_f h58 hF
          refine r_skip (r_next (r_seq ?_))
          obtain ⟨v63, h64, hF⟩ := bnd hF
          obtain ⟨v65, h66, hF⟩ := bnd hF
          obtain ⟨v67, h68, hF⟩ := bnd hF
          obtain ⟨v69, h70, hF⟩ := bnd hF
          refine r_draw [0, 0, 3, 7, 0, 0, 48, 112, 0, 496, 1008, 2047, 4095] 13 0 [.v (.vc (pO b32 n34 c33)), .v (.vc (pI .i64 x55)), .v (.vc (pE b32 x55 (cSl cQ).n 0)), .v (.vc (pS cQ v63)), .v (.vc (pO b32 n34 c33)), .v (.vc (pI .i64 x55)), .v (.vc (pE b32 x55 (cSl cQ).n 0)), .v (.vc (pS cQ v65)), .v (.vc (pI .i64 x37)), .v (.vc (pM (cQ.e v67))), .v (.va (eQ v67)), .v (.vc (pS cQ v69)), .v (.vc (pS cQ v69))] Tryz_mixed ⟨⟨rfl, .run (lo := 0) (n := 1) ⟨fun G61 A => t_mv (.inl rfl), trivial⟩ (fun G61 => ⟨rfl, trivial⟩)⟩, ⟨rfl, .run (lo := 0) (n := 1) ⟨fun G61 A => t_mv (.inl rfl), trivial⟩ (fun G61 => ⟨rfl, trivial⟩)⟩, ⟨rfl, .run (lo := 0) (n := 1) ⟨fun G61 A => t_ixE (C := (cSl cQ)) 1 rfl tyS47 rfl q35 (rdL_some h64).1 (rdL_some h64).2.1, trivial⟩ (fun G61 => ⟨rfl, rfl, trivial⟩)⟩, ⟨rfl, .run (lo := 0) (n := 1) ⟨fun G61 A => t_ldE (k := 1) 1 rfl rfl h64 rfl (.one tyO24) rfl, trivial⟩ (fun G61 => ⟨rfl, trivial⟩)⟩, ⟨rfl, .run (lo := 0) (n := 1) ⟨fun G61 A => t_mv (.inl rfl), trivial⟩ (fun G61 => ⟨rfl, trivial⟩)⟩, ⟨rfl, .run (lo := 0) (n := 1) ⟨fun G61 A => t_mv (.inl rfl), trivial⟩ (fun G61 => ⟨rfl, trivial⟩)⟩, ⟨rfl, .run (lo := 0) (n := 1) ⟨fun G61 A => t_ixE (C := (cSl cQ)) 1 rfl tyS47 rfl q35 (rdL_some h66).1 (rdL_some h66).2.1, trivial⟩ (fun G61 => ⟨rfl, rfl, trivial⟩)⟩, ⟨rfl, .run (lo := 0) (n := 1) ⟨fun G61 A => t_ldE (k := 1) 1 rfl rfl h66 rfl (.one tyO24) rfl, trivial⟩ (fun G61 => ⟨rfl, trivial⟩)⟩, ⟨rfl, .run (lo := 0) (n := 1) ⟨fun G61 A => t_mv (.inl rfl), trivial⟩ (fun G61 => ⟨rfl, trivial⟩)⟩, ⟨rfl, .run (lo := 0) (n := 1) ⟨fun G61 A => t_ix rfl tyS24 h68, trivial⟩ (fun G61 => ⟨rfl, rfl, trivial⟩)⟩, ⟨rfl, .run (lo := 0) (n := 1) ⟨fun G61 A => t_lM 4 rfl rfl (.agg tyA35), trivial⟩ (fun G61 => ⟨rfl, trivial⟩)⟩, ⟨rfl, .run (lo := 0) (n := 1) ⟨fun G61 A => t_call rfl (ct_gantryref09_over h70) rfl, trivial⟩ (fun G61 => ⟨rfl, rfl, trivial⟩)⟩, ⟨rfl, .run (lo := 0) (n := 1) ⟨fun G61 A => t_mv (.inr rfl), trivial⟩ (fun G61 => ⟨rfl, trivial⟩)⟩, trivial⟩ (fun bs62 G61 => ?_)
          refine r_nil (r_next (r_seq (r_reg (r_mv ?_))))
          refine r_mv ?_
          refine r_mv ?_
          refine r_mv ?_
          obtain ⟨v71, h72, hF⟩ := bnd hF
          refine r_op (t_ixE (C := (cSl cQ)) 1 rfl tyS47 rfl q35 (rdL_some h72).1 (rdL_some h72).2.1) ⟨rfl, rfl, trivial⟩ ?_
          refine r_op (t_ldE (k := 1) 1 rfl rfl h72 rfl (.one tyO24) rfl) ⟨rfl, trivial⟩ ?_
          obtain ⟨v73, h74, hF⟩ := bnd hF
          refine r_op (t_ixE (C := (cSl cQ)) 1 rfl tyS47 rfl q35 (rdL_some h74).1 (rdL_some h74).2.1) ⟨rfl, rfl, trivial⟩ ?_
          obtain ⟨x75, h76, hF⟩ := bnd hF
          refine r_op0 (t_stE 1 rfl rfl h74 h76 tyO24.s) ⟨rfl, rfl, trivial⟩ ?_
          refine r_nil (r_next (r_seq (r_seq (r_reg (r_op (t_mv (.inr rfl)) ⟨k_I _ _, trivial⟩ ?_)))))
          refine r_nil (r_next (r_blk (r_cutN (fun H E => ∃ (x92 : List (List Rat)), ∃ (b93 : Option Nat), ∃ (c94 : Nat), ∃ (n95 : Nat), F_gantryref09_Reduced_j99 K x25 x37 v69 (F_gantryref09_Reduced_l50 K a1 k) x92 = some (x38', x44') ∧ x92.length = n95 ∧ H = [hO cI b26 c27 3 n28 x25, hO (cSl cQ) b93 c94 24 n95 x92] ∧ E = [(1, .vc (pI .i64 a1)), (6, .vc (pO b93 n95 c94)), (7, .vc (pO b26 n28 c27)), (8, .vc (pI .i64 x37)), (9, .vc (pI .i64 (x25.length : Int))), (11, .vc (pS cQ v69))]) ?_ (fun Jj99 => ?_))))
          · rintro _ _ ⟨x92, b93, c94, n95, hF, q96, rfl, rfl⟩
            unfold F_gantryref09_Reduced_j99 at hF
            refine r_next (r_seq (r_reg (r_mv ?_)))
            refine r_mv ?_
            refine r_mv ?_
            obtain ⟨v100, h101, hF⟩ := bnd hF
            refine r_op (t_ixE (C := (cSl cQ)) 1 rfl tyS47 rfl q96 (rdL_some h101).1 (rdL_some h101).2.1) ⟨rfl, rfl, trivial⟩ ?_
            obtain ⟨x102, h103, hF⟩ := bnd hF
            refine r_op0 (t_stE 1 rfl rfl h101 h103 tyO24.s) ⟨rfl, rfl, trivial⟩ ?_
            refine r_nil (r_next (r_reg (r_mv ?_)))
            refine r_mv ?_
            refine r_op (t_bs (C := cI) (xs := [.tmp 95]) (ps := [.vc (pI .i64 x37)]) (zs := [x37]) rfl tyS22 rfl ⟨⟨trivial, rfl⟩, trivial⟩ rfl) ⟨rfl, trivial⟩ ?_
            obtain ⟨x105, h106, hF⟩ := bnd hF
            refine r_app 0 rfl tyS22 rfl rfl q29 rfl rfl h106 (fun b107 c108 H109 e110 => ?_)
            cases e110
            refine r_as ?_
            refine r_nil (r_blkN (r_next (r_reg (r_mv ?_))))
            obtain ⟨v112, h113, hF⟩ := bnd hF
            refine r_op (t_add rfl h113) ⟨rfl, k_I _ _, trivial⟩ ?_
            refine r_as ?_
            refine r_nil ?_
            exact r_round (fun a w hh => ⟨x105, x102, v112, b107, c108, (n28 + [x37].length), b93, c94, n95, hF, (apL_len h106 q29), (stL_len h103 q96), hs_back [0, 1] rfl (by decide) (by exact ⟨rfl, rfl, rfl, rfl, trivial⟩) hh⟩)
          · skip
            obtain ⟨x92', hL, hRl98⟩ := bnd hF
            refine r_lp (fun k a w => ∃ (x85 : List (List Rat)), ∃ (x91 : Int), ∃ (b86 : Option Nat), ∃ (c87 : Nat), ∃ (n88 : Nat), F_gantryref09_Reduced_l98 K x37 v69 k x85 x91 = some x92' ∧ x85.length = n88 ∧ hs _ [hO cI b26 c27 3 n28 x25, hO (cSl cQ) b86 c87 24 n88 x85] [(1, .vc (pI .i64 a1)), (6, .vc (pO b86 n88 c87)), (7, .vc (pO b26 n28 c27)), (8, .vc (pI .i64 x37)), (9, .vc (pI .i64 (x25.length : Int))), (11, .vc (pS cQ v69)), (12, .vc (pI .i64 x91))] a w) K (fun a w ⟨_, _, _, _, _, hF, _, _⟩ => by cases hF) (fun k a w ⟨x85, x91, b86, c87, n88, hF, q89, hh⟩ => r_at ?_ hh) (fun a w hh => ⟨x75, 0, b32, c33, n34, hL, (stL_len h76 q35), hs_back [0, 1] rfl (by decide) (by exact ⟨rfl, rfl, rfl, rfl, rfl, rfl, rfl, trivial⟩) hh⟩)
            rw [F_gantryref09_Reduced_l98.eq_2] at hF
            refine r_seq (r_seq (r_reg (r_mv ?_)))
            refine r_mv ?_
            refine r_op (t_lnE (C := (cSl cQ)) (xs := x85) (T := 24) rfl tyS47 q89) ⟨rfl, trivial⟩ ?_
            refine r_op (t_lt rfl) ⟨rfl, rfl, trivial⟩ ?_
            refine r_nil (r_next (r_if rfl (fun h114 => ?_) (fun h114 => ?_)))
            · have hF := cnd_t h114 hF
              refine r_skip (r_next (r_seq (r_blk ?_)))
              obtain ⟨v117, h118, hF⟩ := bnd hF
              obtain ⟨v119, h120, hF⟩ := bnd hF
              obtain ⟨v121, h122, hF⟩ := bnd hF
              obtain ⟨v123, h124, hF⟩ := bnd hF
              obtain ⟨v125, h126, hF⟩ := bnd hF
              refine r_draw [0, 0, 0, 0, 12, 28, 0, 0, 0, 384, 896, 0, 3968, 8064, 16380, 32767, 65535] 16 1 [.v (.vc (pO b86 n88 c87)), .v (.vc (pI .i64 x91)), .v (.vc (pO b86 n88 c87)), .v (.vc (pI .i64 x91)), .v (.vc (pE b86 x91 (cSl cQ).n 0)), .v (.vc (pS cQ v117)), .v (.vc (pS cQ v69)), .v (.vc (pO b86 n88 c87)), .v (.vc (pI .i64 x91)), .v (.vc (pE b86 x91 (cSl cQ).n 0)), .v (.vc (pS cQ v119)), .v (.vc (pI .i64 x37)), .v (.vc (pM (cQ.e v121))), .v (.va (eQ v121)), .v (.vc (pS cQ v123)), .v (.vc (pE b86 x91 (cSl cQ).n 0))] Tryz_mixed ⟨⟨rfl, .run (lo := 0) (n := 1) ⟨fun G115 A => t_mv (.inl rfl), trivial⟩ (fun G115 => ⟨rfl, trivial⟩)⟩, ⟨rfl, .run (lo := 0) (n := 1) ⟨fun G115 A => t_mv (.inl rfl), trivial⟩ (fun G115 => ⟨rfl, trivial⟩)⟩, ⟨rfl, .run (lo := 0) (n := 1) ⟨fun G115 A => t_mv (.inl rfl), trivial⟩ (fun G115 => ⟨rfl, trivial⟩)⟩, ⟨rfl, .run (lo := 0) (n := 1) ⟨fun G115 A => t_mv (.inl rfl), trivial⟩ (fun G115 => ⟨rfl, trivial⟩)⟩, ⟨rfl, .run (lo := 0) (n := 1) ⟨fun G115 A => t_ixE (C := (cSl cQ)) 1 rfl tyS47 rfl q89 (rdL_some h118).1 (rdL_some h118).2.1, trivial⟩ (fun G115 => ⟨rfl, rfl, trivial⟩)⟩, ⟨rfl, .run (lo := 0) (n := 1) ⟨fun G115 A => t_ldE (k := 1) 1 rfl rfl h118 rfl (.one tyO24) rfl, trivial⟩ (fun G115 => ⟨rfl, trivial⟩)⟩, ⟨rfl, .run (lo := 0) (n := 1) ⟨fun G115 A => t_mv (.inl rfl), trivial⟩ (fun G115 => ⟨rfl, trivial⟩)⟩, ⟨rfl, .run (lo := 0) (n := 1) ⟨fun G115 A => t_mv (.inl rfl), trivial⟩ (fun G115 => ⟨rfl, trivial⟩)⟩, ⟨rfl, .run (lo := 0) (n := 1) ⟨fun G115 A => t_mv (.inl rfl), trivial⟩ (fun G115 => ⟨rfl, trivial⟩)⟩, ⟨rfl, .run (lo := 0) (n := 1) ⟨fun G115 A => t_ixE (C := (cSl cQ)) 1 rfl tyS47 rfl q89 (rdL_some h120).1 (rdL_some h120).2.1, trivial⟩ (fun G115 => ⟨rfl, rfl, trivial⟩)⟩, ⟨rfl, .run (lo := 0) (n := 1) ⟨fun G115 A => t_ldE (k := 1) 1 rfl rfl h120 rfl (.one tyO24) rfl, trivial⟩ (fun G115 => ⟨rfl, trivial⟩)⟩, ⟨rfl, .run (lo := 0) (n := 1) ⟨fun G115 A => t_mv (.inl rfl), trivial⟩ (fun G115 => ⟨rfl, trivial⟩)⟩, ⟨rfl, .run (lo := 0) (n := 1) ⟨fun G115 A => t_ix rfl tyS24 h122, trivial⟩ (fun G115 => ⟨rfl, rfl, trivial⟩)⟩, ⟨rfl, .run (lo := 0) (n := 1) ⟨fun G115 A => t_lM 4 rfl rfl (.agg tyA35), trivial⟩ (fun G115 => ⟨rfl, trivial⟩)⟩, ⟨rfl, .run (lo := 0) (n := 1) ⟨fun G115 A => t_call rfl (ct_gantryref09_less h124) rfl, trivial⟩ (fun G115 => ⟨rfl, rfl, rfl, trivial⟩)⟩, ⟨rfl, .run (lo := 0) (n := 1) ⟨fun G115 A => t_ixE (C := (cSl cQ)) 1 rfl tyS47 rfl q89 (rdL_some h126).1 (rdL_some h126).2.1, trivial⟩ (fun G115 => ⟨rfl, rfl, trivial⟩)⟩, trivial⟩ (fun bs116 G115 => ?_)
              obtain ⟨x127, h128, hF⟩ := bnd hF
              refine r_op0 (t_stE 1 rfl rfl h126 h128 tyO24.s) ⟨rfl, rfl, trivial⟩ ?_
              refine r_nil (r_blkN (r_next (r_reg (r_mv ?_))))
              obtain ⟨v130, h131, hF⟩ := bnd hF
              refine r_op (t_add rfl h131) ⟨rfl, k_I _ _, trivial⟩ ?_
              refine r_as ?_
              refine r_nil ?_
              exact r_round (fun a w hh => ⟨x127, v130, b86, c87, n88, hF, (stL_len h128 q89), hs_back [0, 1] rfl (by decide) (by exact ⟨rfl, rfl, rfl, rfl, rfl, rfl, rfl, trivial⟩) hh⟩)
            · have hF := cnd_f h114 hF
              refine r_brk ?_
              obtain rfl := sm1 hF
              exact r_backJ Jj99 ⟨x85, b86, c87, n88, hRl98, q89, rfl, rfl⟩ [0, 1] rfl ⟨rfl, rfl, rfl, rfl, rfl, rfl, trivial⟩
      · skip
        obtain ⟨x55', hL, hRl56⟩ := bnd hF
        refine r_lp (fun k a w => ∃ (x54 : Int), F_gantryref09_Reduced_l56 K x31 x37 k x54 = some x55' ∧ hs _ [hO cI b26 c27 3 n28 x25, hO (cSl cQ) b32 c33 24 n34 x31] [(1, .vc (pI .i64 a1)), (6, .vc (pO b32 n34 c33)), (7, .vc (pO b26 n28 c27)), (8, .vc (pI .i64 x37)), (9, .vc (pI .i64 (x25.length : Int))), (10, .vc (pI .i64 x54))] a w) K (fun a w ⟨_, hF, _⟩ => by cases hF) (fun k a w ⟨x54, hF, hh⟩ => r_at ?_ hh) (fun a w hh => ⟨(x25.length : Int), hL, hs_back [0, 1] rfl (by decide) (by exact ⟨rfl, rfl, rfl, rfl, rfl, rfl, trivial⟩) hh⟩)
        rw [F_gantryref09_Reduced_l56.eq_2] at hF
        refine r_seq (r_seq (r_reg (r_mv ?_)))
        refine r_mv ?_
        refine r_op (t_lnE (C := (cSl cQ)) (xs := x31) (T := 24) rfl tyS47 q35) ⟨rfl, trivial⟩ ?_
        refine r_op (t_lt rfl) ⟨rfl, rfl, trivial⟩ ?_
        refine r_mv ?_
        refine r_bool (fun h132 => ?_) (fun h132 => ?_)
        · have hF := cnd_t h132 hF
          refine r_opg (t_mv (.inl rfl)) ⟨rfl, trivial⟩ ?_
          refine r_opg (t_mv (.inl rfl)) ⟨rfl, trivial⟩ ?_
          refine r_opg (t_mv (.inl rfl)) ⟨rfl, trivial⟩ ?_
          refine r_opg (t_lnE (C := (cSl cQ)) (xs := x31) (T := 24) rfl tyS47 q35) ⟨rfl, trivial⟩ ?_
          obtain ⟨v133, h134, hF⟩ := bnd hF
          refine r_opg (t_sub rfl h134) ⟨rfl, k_I _ _, trivial⟩ ?_
          refine r_opg (t_min rfl) ⟨rfl, rfl, trivial⟩ ?_
          obtain ⟨v135, h136, hF⟩ := bnd hF
          refine r_opg (t_ixE (C := (cSl cQ)) 1 rfl tyS47 rfl q35 (rdL_some h136).1 (rdL_some h136).2.1) ⟨rfl, rfl, trivial⟩ ?_
          refine r_opg (t_ldE (k := 1) 1 rfl rfl h136 rfl (.one tyO24) rfl) ⟨rfl, trivial⟩ ?_
          refine r_opg (t_mv (.inl rfl)) ⟨rfl, trivial⟩ ?_
          obtain ⟨v137, h138, hF⟩ := bnd hF
          refine r_opg (t_ix rfl tyS24 h138) ⟨rfl, rfl, trivial⟩ ?_
          refine r_opg (t_lM 4 rfl rfl (.agg tyA35)) ⟨rfl, trivial⟩ ?_
          obtain ⟨v139, h140, hF⟩ := bnd hF
          refine r_opg (t_call rfl (qc_gantryref05_Sign h140) rfl) ⟨rfl, trivial⟩ ?_
          refine r_opg (t_eq rfl) ⟨rfl, k_I _ _, trivial⟩ ?_
          refine r_op (t_pickT rfl) ⟨rfl, rfl, trivial⟩ ?_
          refine r_nil (r_next (r_if rfl (fun h141 => ?_) (fun h141 => ?_)))
          · have hF := cnd_t h141 hF
            refine r_skip (r_next (r_blk (r_reg (r_mv ?_))))
            obtain ⟨v142, h143, hF⟩ := bnd hF
            refine r_op (t_add rfl h143) ⟨rfl, k_I _ _, trivial⟩ ?_
            refine r_as ?_
            refine r_nil (r_blkN ?_)
            exact r_round (fun a w hh => ⟨v142, hF, hs_back [0, 1] rfl (by decide) (by exact ⟨rfl, rfl, rfl, rfl, rfl, rfl, trivial⟩) hh⟩)
          · have hF := cnd_f h141 hF
            refine r_brk ?_
            obtain rfl := sm1 hF
            exact r_backJ Jj57 ⟨x54, hRl56, rfl, rfl⟩ [0, 1] rfl ⟨rfl, rfl, rfl, rfl, rfl, rfl, trivial⟩
        · have hF := cnd_f h132 hF
          refine r_opn ?_
          refine r_opn ?_
          refine r_opn ?_
          refine r_opn ?_
          refine r_opn ?_
          refine r_opn ?_
          refine r_opn ?_
          refine r_opn ?_
          refine r_opn ?_
          refine r_opn ?_
          refine r_opn ?_
          refine r_opn ?_
          refine r_opn ?_
          refine r_op (t_pickF rfl) ⟨rfl, k_B _, trivial⟩ ?_
          refine r_nil (r_next (r_ifF rfl ?_))
          refine r_brk ?_
          obtain rfl := sm1 hF
          exact r_backJ Jj57 ⟨x54, hRl56, rfl, rfl⟩ [0, 1] rfl ⟨rfl, rfl, rfl, rfl, rfl, rfl, trivial⟩
    · have hF := cnd_f h52 hF
      refine r_brk ?_
      obtain ⟨rfl, rfl⟩ := sm2 hF
      exact r_backJ Jj51 ⟨x25, x31, b26, c27, n28, b32, c33, n34, hRl50, q29, q35, rfl, rfl⟩ [0, 1] rfl ⟨rfl, rfl, trivial⟩

abbrev N_gantryref09_joined : Nat := 109
def F_gantryref09_joined_j24 (K : Nat) (x17 : List (List Rat)) : Option (List (List Rat)) :=
  some x17
def F_gantryref09_joined_l23 (K : Nat) (a0 : List (List Rat)) (a1 : List (List Rat)) : Nat → (List (List Rat)) → Int → Option (List (List Rat))
  | 0, _, _ => none
  | k + 1, x10, x16 => bif (decide (x16 < (a0.length : Int))) then ((rdL a0 x16).bind fun v30 => (apL ([] : List Rat) v30).bind fun x32 => (rdL a1 x16).bind fun v35 => (apL x32 v35).bind fun x37 => (apL x10 [x37]).bind fun x39 => (chk (x16 + 1)).bind fun v46 => F_gantryref09_joined_l23 K a0 a1 k x39 v46) else (some x10)
def F_gantryref09_joined (K : Nat) (a0 : List (List Rat)) (a1 : List (List Rat)) : Option (List (List Rat)) :=
  (F_gantryref09_joined_l23 K a0 a1 K ([] : List (List Rat)) 0).bind fun x17 => F_gantryref09_joined_j24 K x17
set_option maxRecDepth 100000 in
theorem ct_gantryref09_joined {K : Nat} {a0 : List (List Rat)} {a1 : List (List Rat)} {r : List (List Rat)} (hF : F_gantryref09_joined K a0 a1 = some r) : Ct Tryz.prog 109 [.vc (pS (cSl cQ) a0), .vc (pS (cSl cQ) a1)] (.vc (pS (cSl cQ) r)) := by
  unfold F_gantryref09_joined at hF
  refine ctO_intro Tryz.func109 rfl (by kernel_rfl) Tryz.ntmps109 rfl (fun w0 M0 => ?_)
  refine r_seq (r_reg (r_op (t_mv (.inr rfl)) ⟨k_nil (cSl cQ), trivial⟩ ?_))
  refine r_nil (r_next (r_seq (r_reg (r_nilO (cSl cQ) 24 rfl ?_))))
  refine r_nil (r_next (r_seq (r_seq (r_reg (r_op (t_mv (.inr rfl)) ⟨k_I _ _, trivial⟩ ?_)))))
  refine r_nil (r_next (r_blk (r_cutN (fun H E => ∃ (x17 : List (List Rat)), ∃ (b18 : Option Nat), ∃ (c19 : Nat), ∃ (n20 : Nat), F_gantryref09_joined_j24 K x17 = some r ∧ x17.length = n20 ∧ H = [hO (cSl cQ) b18 c19 24 n20 x17] ∧ E = [(5, .vc (pO b18 n20 c19))]) ?_ (fun Jj24 => ?_))))
  · rintro _ _ ⟨x17, b18, c19, n20, hF, q21, rfl, rfl⟩
    unfold F_gantryref09_joined_j24 at hF
    refine r_next (r_seq (r_reg (r_mv ?_)))
    refine r_as ?_
    refine r_nil (r_next (r_ret (r_toR (r_fzX 0 [4, 5, 28] rfl q21 ⟨rfl, rfl, rfl, trivial⟩ rfl ?_))))
    obtain rfl := sm1 hF
    exact r_done1 (.inl rfl) Tryz.results109 (.tmp rfl .nil) rfl rfl
  · skip
    obtain ⟨x17', hL, hRl23⟩ := bnd hF
    refine r_lp (fun k a w => ∃ (x10 : List (List Rat)), ∃ (x16 : Int), ∃ (b11 : Option Nat), ∃ (c12 : Nat), ∃ (n13 : Nat), F_gantryref09_joined_l23 K a0 a1 k x10 x16 = some x17' ∧ x10.length = n13 ∧ hs _ [hO (cSl cQ) b11 c12 24 n13 x10] [(0, .vc (pS (cSl cQ) a0)), (1, .vc (pS (cSl cQ) a1)), (5, .vc (pO b11 n13 c12)), (6, .vc (pI .i64 x16))] a w) K (fun a w ⟨_, _, _, _, _, hF, _, _⟩ => by cases hF) (fun k a w ⟨x10, x16, b11, c12, n13, hF, q14, hh⟩ => r_at ?_ hh) (fun a w hh => ⟨([] : List (List Rat)), 0, none, 0, 0, hL, rfl, hs_back [0] rfl (by decide) (by exact ⟨rfl, rfl, rfl, rfl, trivial⟩) hh⟩)
    rw [F_gantryref09_joined_l23.eq_2] at hF
    refine r_seq (r_seq (r_reg (r_mv ?_)))
    refine r_mv ?_
    refine r_op (t_ln rfl tyS47) ⟨rfl, trivial⟩ ?_
    refine r_op (t_lt rfl) ⟨rfl, rfl, trivial⟩ ?_
    refine r_nil (r_next (r_if rfl (fun h25 => ?_) (fun h25 => ?_)))
    · have hF := cnd_t h25 hF
      refine r_skip (r_next (r_seq (r_blk (r_seq (r_reg (r_nilO cQ 35 rfl ?_))))))
      refine r_nil (r_next ?_)
      obtain ⟨v30, h31, hF⟩ := bnd hF
      obtain ⟨x32, h33, hF⟩ := bnd hF
      obtain ⟨v35, h36, hF⟩ := bnd hF
      obtain ⟨x37, h38, hF⟩ := bnd hF
      refine r_drawH (HsL [fun G28 => [hO cQ none 0 35 0 ([] : List Rat), hO (cSl cQ) b11 c12 24 n13 x10], fun G28 => [hO cQ ((G28 6).1) ((G28 6).2) 35 (0 + v30.length) x32, hO (cSl cQ) b11 c12 24 n13 x10], fun G28 => [hO (cSl cQ) b11 c12 24 n13 x10]]) [6, 11] [0, 0, 0, 0, 12, 28, 62, 0, 0, 384, 896, 2046, 4094, 8191, 16383] 13 2 [.v (.vc (pO b11 n13 c12)), .v (.vc (pO none 0 0)), .v (.vc (pS (cSl cQ) a0)), .v (.vc (pI .i64 x16)), .v (.vc (pM ((cSl cQ).e v30))), .v (.vc (pS cQ v30)), .g (fun b c => .vc (pO b (0 + v30.length) c)), .v (.vc (pS (cSl cQ) a1)), .v (.vc (pI .i64 x16)), .v (.vc (pM ((cSl cQ).e v35))), .v (.vc (pS cQ v35)), .g (fun _ _ => .vc (pS cQ x37)), .v (.vc (pS (cSl cQ) [x37]))] Tryz_mixed ⟨⟨rfl, .run (lo := 0) (n := 3) ⟨fun G28 A => t_mv (.inl rfl), fun G28 A => t_mv (.inl rfl), fun G28 A => t_mv (.inl rfl), trivial⟩ (fun G28 => ⟨rfl, trivial⟩)⟩, ⟨rfl, .run (lo := 0) (n := 1) ⟨fun G28 A => t_mv (.inl rfl), trivial⟩ (fun G28 => ⟨rfl, trivial⟩)⟩, ⟨rfl, .run (lo := 0) (n := 1) ⟨fun G28 A => t_mv (.inl rfl), trivial⟩ (fun G28 => ⟨rfl, trivial⟩)⟩, ⟨rfl, .run (lo := 0) (n := 1) ⟨fun G28 A => t_mv (.inl rfl), trivial⟩ (fun G28 => ⟨rfl, trivial⟩)⟩, ⟨rfl, .run (lo := 0) (n := 1) ⟨fun G28 A => t_ix rfl tyS47 h31, trivial⟩ (fun G28 => ⟨rfl, rfl, trivial⟩)⟩, ⟨rfl, .run (lo := 0) (n := 1) ⟨fun G28 A => t_lM 1 rfl rfl (.one tyO24), trivial⟩ (fun G28 => ⟨rfl, trivial⟩)⟩, ⟨rfl, .hvy 0 (fun G28 A => hv_app 0 rfl tyS24 rfl rfl rfl h33) (fun G28 => ⟨rfl, rfl, trivial⟩)⟩, ⟨rfl, .run (lo := 0) (n := 2) ⟨fun G28 A => t_mv (.inl rfl), fun G28 A => t_mv (.inl rfl), trivial⟩ (fun G28 => ⟨rfl, trivial⟩)⟩, ⟨rfl, .run (lo := 0) (n := 2) ⟨fun G28 A => t_mv (.inl rfl), fun G28 A => t_mv (.inl rfl), trivial⟩ (fun G28 => ⟨rfl, trivial⟩)⟩, ⟨rfl, .run (lo := 0) (n := 2) ⟨fun G28 A => t_ix rfl tyS47 h36, fun G28 A => t_ix rfl tyS47 h36, trivial⟩ (fun G28 => ⟨rfl, rfl, trivial⟩)⟩, ⟨rfl, .run (lo := 0) (n := 2) ⟨fun G28 A => t_lM 1 rfl rfl (.one tyO24), fun G28 A => t_lM 1 rfl rfl (.one tyO24), trivial⟩ (fun G28 => ⟨rfl, trivial⟩)⟩, ⟨rfl, .hvy 1 (fun G28 A => hv_tr (tr_frz 0 (hv_app 0 rfl tyS24 rfl rfl (apL_len h33 rfl) h38) (fun _ _ => rfl) (apL_len h38 (apL_len h33 rfl)) (fun _ _ => rfl))) (fun G28 => ⟨rfl, rfl, trivial⟩)⟩, ⟨rfl, .run (lo := 2) (n := 1) ⟨fun G28 A => t_bs (C := (cSl cQ)) (xs := [.tmp 25]) (ps := [.vc (pS cQ x37)]) (zs := [x37]) rfl tyS47 rfl ⟨⟨trivial, rfl⟩, trivial⟩ rfl, trivial⟩ (fun G28 => ⟨rfl, trivial⟩)⟩, trivial⟩ (fun bs29 G28 => ?_)
      obtain ⟨x39, h40, hF⟩ := bnd hF
      refine r_app 0 rfl tyS47 rfl rfl q14 rfl rfl h40 (fun b41 c42 H43 e44 => ?_)
      cases e44
      refine r_as ?_
      refine r_nil (r_blkN (r_next (r_reg (r_mv ?_))))
      obtain ⟨v46, h47, hF⟩ := bnd hF
      refine r_op (t_add rfl h47) ⟨rfl, k_I _ _, trivial⟩ ?_
      refine r_as ?_
      refine r_nil ?_
      exact r_round (fun a w hh => ⟨x39, v46, b41, c42, (n13 + [x37].length), hF, (apL_len h40 q14), hs_back [0] rfl (by decide) (by exact ⟨rfl, rfl, rfl, rfl, trivial⟩) hh⟩)
    · have hF := cnd_f h25 hF
      refine r_brk ?_
      obtain rfl := sm1 hF
      exact r_backJ Jj24 ⟨x10, b11, c12, n13, hRl23, q14, rfl, rfl⟩ [0] rfl ⟨rfl, trivial⟩

abbrev N_gantryref09_Solve : Nat := 49
def F_gantryref09_Solve_j61 (K : Nat) (x54 : List Rat) : Option ((List Rat) × Bool) :=
  some (x54, true)
def F_gantryref09_Solve_l60 (K : Nat) (v1 : Int) (v29 : (List (List Rat)) × (List Int)) : Nat → (List Rat) → Int → Option (List Rat)
  | 0, _, _ => none
  | k + 1, x47, x53 => bif (decide (x53 < (v29.2.length : Int))) then ((rdL v29.2 x53).bind fun v65 => (rdL v29.1 x53).bind fun v67 => (rdL v67 v1).bind fun v69 => (rdL x47 v65).bind fun v71 => (stL x47 v65 v69).bind fun x73 => (chk (x53 + 1)).bind fun v76 => F_gantryref09_Solve_l60 K v1 v29 k x73 v76) else (some x47)
def F_gantryref09_Solve_j34 (K : Nat) (v1 : Int) (v29 : (List (List Rat)) × (List Int)) : Option ((List Rat) × Bool) :=
  (mkL v1 0).bind fun x35 => (F_gantryref09_Solve_l60 K v1 v29 K x35 0).bind fun x54 => F_gantryref09_Solve_j61 K x54
def F_gantryref09_Solve_l33 (K : Nat) (v1 : Int) (v29 : (List (List Rat)) × (List Int)) : Nat → Int → Option (LR ((List Rat) × Bool) Unit)
  | 0, _ => none
  | k + 1, x32 => bif (decide (x32 < (v29.1.length : Int))) then ((rdL v29.1 x32).bind fun v79 => (rdL v79 v1).bind fun v81 => (qsgn v81).bind fun v83 => bif (v83 != 0) then (some (.ret ([], false))) else ((chk (x32 + 1)).bind fun v86 => F_gantryref09_Solve_l33 K v1 v29 k v86)) else (some (.go ()))
def F_gantryref09_Solve_j26 (K : Nat) (a0 : List (List Rat)) (v1 : Int) (x19 : List (List Rat)) : Option ((List Rat) × Bool) :=
  (F_gantryref09_joined K a0 x19).bind fun v27 => (F_gantryref09_Reduced K v27 v1).bind fun v29 => (F_gantryref09_Solve_l33 K v1 v29 K (v29.2.length : Int)).bind fun o => match o with | .ret r => some r | .go _ => F_gantryref09_Solve_j34 K v1 v29 
def F_gantryref09_Solve_l25 (K : Nat) (a1 : List Rat) : Nat → (List (List Rat)) → Int → Option (List (List Rat))
  | 0, _, _ => none
  | k + 1, x12, x18 => bif (decide (x18 < (a1.length : Int))) then ((rdL a1 x18).bind fun v89 => (apL x12 [[v89]]).bind fun x91 => (chk (x18 + 1)).bind fun v98 => F_gantryref09_Solve_l25 K a1 k x91 v98) else (some x12)
def F_gantryref09_Solve (K : Nat) (a0 : List (List Rat)) (a1 : List Rat) : Option ((List Rat) × Bool) :=
  (F_gantryref09_Cols a0).bind fun v1 => (F_gantryref09_Solve_l25 K a1 K ([] : List (List Rat)) 0).bind fun x19 => F_gantryref09_Solve_j26 K a0 v1 x19
set_option maxRecDepth 100000 in
theorem ct_gantryref09_Solve {K : Nat} {a0 : List (List Rat)} {a1 : List Rat} {r : (List Rat) × Bool} (hF : F_gantryref09_Solve K a0 a1 = some r) : Ct Tryz.prog 49 [.vc (pS (cSl cQ) a0), .vc (pS cQ a1)] (.t2 (.vc (pS cQ r.1)) (.vc (pB r.2))) := by
  unfold F_gantryref09_Solve at hF
  refine ctO_intro Tryz.func49 rfl (by kernel_rfl) Tryz.ntmps49 rfl (fun w0 M0 => ?_)
  refine r_seq (r_reg (r_op (t_mv (.inr rfl)) ⟨k_nil cQ, trivial⟩ ?_))
  refine r_op (t_mv (.inr rfl)) ⟨k_B _, trivial⟩ ?_
  refine r_nil (r_next (r_seq (r_reg (r_mv ?_))))
  obtain ⟨v1, h2, hF⟩ := bnd hF
  refine r_op (t_call rfl (ct_gantryref09_Cols h2) rfl) ⟨rfl, trivial⟩ ?_
  refine r_as ?_
  refine r_nil (r_next (r_seq (r_reg (r_nilO (cSl cQ) 24 rfl ?_))))
  refine r_nil (r_next (r_seq (r_seq (r_reg (r_op (t_mv (.inr rfl)) ⟨k_I _ _, trivial⟩ ?_)))))
  refine r_nil (r_next (r_blk (r_cutN (fun H E => ∃ (x19 : List (List Rat)), ∃ (b20 : Option Nat), ∃ (c21 : Nat), ∃ (n22 : Nat), F_gantryref09_Solve_j26 K a0 v1 x19 = some r ∧ x19.length = n22 ∧ H = [hO (cSl cQ) b20 c21 24 n22 x19] ∧ E = [(0, .vc (pS (cSl cQ) a0)), (6, .vc (pI .i64 v1)), (7, .vc (pO b20 n22 c21))]) ?_ (fun Jj26 => ?_))))
  · rintro _ _ ⟨x19, b20, c21, n22, hF, q23, rfl, rfl⟩
    unfold F_gantryref09_Solve_j26 at hF
    refine r_next (r_seq (r_reg (r_mv ?_)))
    refine r_mv ?_
    refine r_fzL 0 [7, 32] rfl q23 ⟨rfl, rfl, trivial⟩ rfl ?_
    obtain ⟨v27, h28, hF⟩ := bnd hF
    refine r_op (t_call rfl (ct_gantryref09_joined h28) rfl) ⟨rfl, rfl, trivial⟩ ?_
    refine r_mv ?_
    obtain ⟨v29, h30, hF⟩ := bnd hF
    refine r_op (t_call rfl (ct_gantryref09_Reduced h30) rfl) ⟨rfl, rfl, trivial⟩ ?_
    refine r_mv ?_
    refine r_op (t_ext2a rfl) ⟨rfl, trivial⟩ ?_
    refine r_op (t_ext2b rfl) ⟨rfl, trivial⟩ ?_
    refine r_as ?_
    refine r_as ?_
    refine r_nil (r_next (r_seq (r_seq (r_reg (r_mv ?_)))))
    refine r_op (t_ln rfl tyS22) ⟨rfl, trivial⟩ ?_
    refine r_as ?_
    refine r_nil (r_next (r_blk (r_cutN (fun H E => F_gantryref09_Solve_j34 K v1 v29 = some r ∧ H = [] ∧ E = [(6, .vc (pI .i64 v1)), (9, .vc (pS (cSl cQ) v29.1)), (10, .vc (pS cI v29.2))]) ?_ (fun Jj34 => ?_))))
    · rintro _ _ ⟨hF, rfl, rfl⟩
      unfold F_gantryref09_Solve_j34 at hF
      refine r_next (r_seq (r_reg (r_mv ?_)))
      obtain ⟨x35, h36, hF⟩ := bnd hF
      refine r_make (C := cQ) rfl tyS24 rfl tyZ35q rfl h36 (fun b37 => ?_)
      refine r_as ?_
      refine r_nil (r_next (r_seq (r_seq (r_reg (r_op (t_mv (.inr rfl)) ⟨k_I _ _, trivial⟩ ?_)))))
      refine r_nil (r_next (r_blk (r_cutN (fun H E => ∃ (x54 : List Rat), ∃ (b55 : Option Nat), ∃ (c56 : Nat), ∃ (n57 : Nat), F_gantryref09_Solve_j61 K x54 = some r ∧ x54.length = n57 ∧ H = [hO cQ b55 c56 35 n57 x54] ∧ E = [(12, .vc (pO b55 n57 c56))]) ?_ (fun Jj61 => ?_))))
      · rintro _ _ ⟨x54, b55, c56, n57, hF, q58, rfl, rfl⟩
        unfold F_gantryref09_Solve_j61 at hF
        refine r_next (r_seq (r_reg (r_mv ?_)))
        refine r_as ?_
        refine r_op (t_mv (.inr rfl)) ⟨k_B _, trivial⟩ ?_
        refine r_nil (r_next (r_ret (r_toR (r_fzX 0 [4, 12, 76] rfl q58 ⟨rfl, rfl, rfl, trivial⟩ rfl ?_))))
        obtain rfl := sm1 hF
        exact r_done1 (.inl rfl) Tryz.results49 (.tmp rfl (.tmp rfl .nil)) rfl rfl
      · skip
        obtain ⟨x54', hL, hRl60⟩ := bnd hF
        refine r_lp (fun k a w => ∃ (x47 : List Rat), ∃ (x53 : Int), ∃ (b48 : Option Nat), ∃ (c49 : Nat), ∃ (n50 : Nat), F_gantryref09_Solve_l60 K v1 v29 k x47 x53 = some x54' ∧ x47.length = n50 ∧ hs _ [hO cQ b48 c49 35 n50 x47] [(6, .vc (pI .i64 v1)), (9, .vc (pS (cSl cQ) v29.1)), (10, .vc (pS cI v29.2)), (12, .vc (pO b48 n50 c49)), (13, .vc (pI .i64 x53))] a w) K (fun a w ⟨_, _, _, _, _, hF, _, _⟩ => by cases hF) (fun k a w ⟨x47, x53, b48, c49, n50, hF, q51, hh⟩ => r_at ?_ hh) (fun a w hh => ⟨x35, 0, b37, x35.length, x35.length, hL, rfl, hs_back [0] rfl (by decide) (by exact ⟨rfl, rfl, rfl, rfl, rfl, trivial⟩) hh⟩)
        rw [F_gantryref09_Solve_l60.eq_2] at hF
        refine r_seq (r_seq (r_reg (r_mv ?_)))
        refine r_mv ?_
        refine r_op (t_ln rfl tyS22) ⟨rfl, trivial⟩ ?_
        refine r_op (t_lt rfl) ⟨rfl, rfl, trivial⟩ ?_
        refine r_nil (r_next (r_if rfl (fun h62 => ?_) (fun h62 => ?_)))
        · have hF := cnd_t h62 hF
          refine r_skip (r_next (r_seq (r_blk ?_)))
          obtain ⟨v65, h66, hF⟩ := bnd hF
          obtain ⟨v67, h68, hF⟩ := bnd hF
          obtain ⟨v69, h70, hF⟩ := bnd hF
          obtain ⟨v71, h72, hF⟩ := bnd hF
          refine r_draw [0, 0, 0, 6, 14, 0, 0, 96, 224, 0, 992, 2016, 4095, 8191] 13 1 [.v (.vc (pO b48 n50 c49)), .v (.vc (pS cI v29.2)), .v (.vc (pI .i64 x53)), .v (.vc (pM (cI.e v65))), .v (.vc (pI .i64 v65)), .v (.vc (pS (cSl cQ) v29.1)), .v (.vc (pI .i64 x53)), .v (.vc (pM ((cSl cQ).e v67))), .v (.vc (pS cQ v67)), .v (.vc (pI .i64 v1)), .v (.vc (pM (cQ.e v69))), .v (.va (eQ v69)), .v (.vc (pE b48 v65 cQ.n 0))] Tryz_mixed ⟨⟨rfl, .run (lo := 0) (n := 1) ⟨fun G63 A => t_mv (.inl rfl), trivial⟩ (fun G63 => ⟨rfl, trivial⟩)⟩, ⟨rfl, .run (lo := 0) (n := 1) ⟨fun G63 A => t_mv (.inl rfl), trivial⟩ (fun G63 => ⟨rfl, trivial⟩)⟩, ⟨rfl, .run (lo := 0) (n := 1) ⟨fun G63 A => t_mv (.inl rfl), trivial⟩ (fun G63 => ⟨rfl, trivial⟩)⟩, ⟨rfl, .run (lo := 0) (n := 1) ⟨fun G63 A => t_ix rfl tyS22 h66, trivial⟩ (fun G63 => ⟨rfl, rfl, trivial⟩)⟩, ⟨rfl, .run (lo := 0) (n := 1) ⟨fun G63 A => t_lM 1 rfl rfl (.one tyO3), trivial⟩ (fun G63 => ⟨rfl, trivial⟩)⟩, ⟨rfl, .run (lo := 0) (n := 1) ⟨fun G63 A => t_mv (.inl rfl), trivial⟩ (fun G63 => ⟨rfl, trivial⟩)⟩, ⟨rfl, .run (lo := 0) (n := 1) ⟨fun G63 A => t_mv (.inl rfl), trivial⟩ (fun G63 => ⟨rfl, trivial⟩)⟩, ⟨rfl, .run (lo := 0) (n := 1) ⟨fun G63 A => t_ix rfl tyS47 h68, trivial⟩ (fun G63 => ⟨rfl, rfl, trivial⟩)⟩, ⟨rfl, .run (lo := 0) (n := 1) ⟨fun G63 A => t_lM 1 rfl rfl (.one tyO24), trivial⟩ (fun G63 => ⟨rfl, trivial⟩)⟩, ⟨rfl, .run (lo := 0) (n := 1) ⟨fun G63 A => t_mv (.inl rfl), trivial⟩ (fun G63 => ⟨rfl, trivial⟩)⟩, ⟨rfl, .run (lo := 0) (n := 1) ⟨fun G63 A => t_ix rfl tyS24 h70, trivial⟩ (fun G63 => ⟨rfl, rfl, trivial⟩)⟩, ⟨rfl, .run (lo := 0) (n := 1) ⟨fun G63 A => t_lM 4 rfl rfl (.agg tyA35), trivial⟩ (fun G63 => ⟨rfl, trivial⟩)⟩, ⟨rfl, .run (lo := 0) (n := 1) ⟨fun G63 A => t_ixE (C := cQ) 0 rfl tyS24 rfl q51 (rdL_some h72).1 (rdL_some h72).2.1, trivial⟩ (fun G63 => ⟨rfl, rfl, trivial⟩)⟩, trivial⟩ (fun bs64 G63 => ?_)
          obtain ⟨x73, h74, hF⟩ := bnd hF
          refine r_op0 (t_stE 0 rfl rfl h72 h74 tyA35.s) ⟨rfl, rfl, trivial⟩ ?_
          refine r_nil (r_blkN (r_next (r_reg (r_mv ?_))))
          obtain ⟨v76, h77, hF⟩ := bnd hF
          refine r_op (t_add rfl h77) ⟨rfl, k_I _ _, trivial⟩ ?_
          refine r_as ?_
          refine r_nil ?_
          exact r_round (fun a w hh => ⟨x73, v76, b48, c49, n50, hF, (stL_len h74 q51), hs_back [0] rfl (by decide) (by exact ⟨rfl, rfl, rfl, rfl, rfl, trivial⟩) hh⟩)
        · have hF := cnd_f h62 hF
          refine r_brk ?_
          obtain rfl := sm1 hF
          exact r_backJ Jj61 ⟨x47, b48, c49, n50, hRl60, q51, rfl, rfl⟩ [0] rfl ⟨rfl, trivial⟩
    · skip
      obtain ⟨ol33, hL, hRl33⟩ := bnd hF
      refine r_lp (fun k a w => ∃ (x32 : Int), F_gantryref09_Solve_l33 K v1 v29 k x32 = some ol33 ∧ hs _ [] [(6, .vc (pI .i64 v1)), (9, .vc (pS (cSl cQ) v29.1)), (10, .vc (pS cI v29.2)), (11, .vc (pI .i64 x32))] a w) K (fun a w ⟨_, hF, _⟩ => by cases hF) (fun k a w ⟨x32, hF, hh⟩ => r_at ?_ hh) (fun a w hh => ⟨(v29.2.length : Int), hL, hs_back [] rfl (by decide) (by exact ⟨rfl, rfl, rfl, rfl, trivial⟩) hh⟩)
      rw [F_gantryref09_Solve_l33.eq_2] at hF
      refine r_seq (r_seq (r_reg (r_mv ?_)))
      refine r_mv ?_
      refine r_op (t_ln rfl tyS47) ⟨rfl, trivial⟩ ?_
      refine r_op (t_lt rfl) ⟨rfl, rfl, trivial⟩ ?_
      refine r_nil (r_next (r_if rfl (fun h78 => ?_) (fun h78 => ?_)))
      · have hF := cnd_t h78 hF
        refine r_skip (r_next (r_seq (r_blk (r_seq (r_reg (r_mv ?_))))))
        refine r_mv ?_
        obtain ⟨v79, h80, hF⟩ := bnd hF
        refine r_op (t_ix rfl tyS47 h80) ⟨rfl, rfl, trivial⟩ ?_
        refine r_op (t_lM 1 rfl rfl (.one tyO24)) ⟨rfl, trivial⟩ ?_
        refine r_mv ?_
        obtain ⟨v81, h82, hF⟩ := bnd hF
        refine r_op (t_ix rfl tyS24 h82) ⟨rfl, rfl, trivial⟩ ?_
        refine r_op (t_lM 4 rfl rfl (.agg tyA35)) ⟨rfl, trivial⟩ ?_
        obtain ⟨v83, h84, hF⟩ := bnd hF
        refine r_op (t_call rfl (qc_gantryref05_Sign h84) rfl) ⟨rfl, trivial⟩ ?_
        refine r_op (t_ne rfl) ⟨rfl, k_I _ _, trivial⟩ ?_
        refine r_nil (r_next (r_if rfl (fun h85 => ?_) (fun h85 => ?_)))
        · have hF := cnd_t h85 hF
          refine r_seq (r_reg (r_op (t_mv (.inr rfl)) ⟨k_nil cQ, trivial⟩ ?_))
          refine r_op (t_mv (.inr rfl)) ⟨k_B _, trivial⟩ ?_
          refine r_nil (r_next (r_ret (r_toR ?_)))
          obtain rfl := sm1 hF
          obtain rfl := sm1 hRl33
          exact r_done1 (.inl rfl) Tryz.results49 (.tmp rfl (.tmp rfl .nil)) rfl rfl
        · have hF := cnd_f h85 hF
          refine r_skip (r_blkN (r_next (r_reg (r_mv ?_))))
          obtain ⟨v86, h87, hF⟩ := bnd hF
          refine r_op (t_add rfl h87) ⟨rfl, k_I _ _, trivial⟩ ?_
          refine r_as ?_
          refine r_nil ?_
          exact r_round (fun a w hh => ⟨v86, hF, hs_back [] rfl (by decide) (by exact ⟨rfl, rfl, rfl, rfl, trivial⟩) hh⟩)
      · have hF := cnd_f h78 hF
        refine r_brk ?_
        obtain rfl := sm1 hF
        exact r_backJ Jj34 ⟨hRl33, rfl, rfl⟩ [] rfl ⟨rfl, rfl, rfl, trivial⟩
  · skip
    obtain ⟨x19', hL, hRl25⟩ := bnd hF
    refine r_lp (fun k a w => ∃ (x12 : List (List Rat)), ∃ (x18 : Int), ∃ (b13 : Option Nat), ∃ (c14 : Nat), ∃ (n15 : Nat), F_gantryref09_Solve_l25 K a1 k x12 x18 = some x19' ∧ x12.length = n15 ∧ hs _ [hO (cSl cQ) b13 c14 24 n15 x12] [(0, .vc (pS (cSl cQ) a0)), (1, .vc (pS cQ a1)), (6, .vc (pI .i64 v1)), (7, .vc (pO b13 n15 c14)), (8, .vc (pI .i64 x18))] a w) K (fun a w ⟨_, _, _, _, _, hF, _, _⟩ => by cases hF) (fun k a w ⟨x12, x18, b13, c14, n15, hF, q16, hh⟩ => r_at ?_ hh) (fun a w hh => ⟨([] : List (List Rat)), 0, none, 0, 0, hL, rfl, hs_back [0] rfl (by decide) (by exact ⟨rfl, rfl, rfl, rfl, rfl, trivial⟩) hh⟩)
    rw [F_gantryref09_Solve_l25.eq_2] at hF
    refine r_seq (r_seq (r_reg (r_mv ?_)))
    refine r_mv ?_
    refine r_op (t_ln rfl tyS24) ⟨rfl, trivial⟩ ?_
    refine r_op (t_lt rfl) ⟨rfl, rfl, trivial⟩ ?_
    refine r_nil (r_next (r_if rfl (fun h88 => ?_) (fun h88 => ?_)))
    · have hF := cnd_t h88 hF
      refine r_skip (r_next (r_seq (r_blk (r_reg (r_mv ?_)))))
      refine r_mv ?_
      refine r_mv ?_
      obtain ⟨v89, h90, hF⟩ := bnd hF
      refine r_op (t_ix rfl tyS24 h90) ⟨rfl, rfl, trivial⟩ ?_
      refine r_op (t_lM 4 rfl rfl (.agg tyA35)) ⟨rfl, trivial⟩ ?_
      refine r_op (t_bs (C := cQ) (xs := [.tmp 26]) (ps := [.va (eQ v89)]) (zs := [v89]) rfl tyS24 rfl ⟨⟨trivial, rfl⟩, trivial⟩ rfl) ⟨rfl, trivial⟩ ?_
      refine r_op (t_bs (C := (cSl cQ)) (xs := [.tmp 27]) (ps := [.vc (pS cQ [v89])]) (zs := [[v89]]) rfl tyS47 rfl ⟨⟨trivial, rfl⟩, trivial⟩ rfl) ⟨rfl, trivial⟩ ?_
      obtain ⟨x91, h92, hF⟩ := bnd hF
      refine r_app 0 rfl tyS47 rfl rfl q16 rfl rfl h92 (fun b93 c94 H95 e96 => ?_)
      cases e96
      refine r_as ?_
      refine r_nil (r_blkN (r_next (r_reg (r_mv ?_))))
      obtain ⟨v98, h99, hF⟩ := bnd hF
      refine r_op (t_add rfl h99) ⟨rfl, k_I _ _, trivial⟩ ?_
      refine r_as ?_
      refine r_nil ?_
      exact r_round (fun a w hh => ⟨x91, v98, b93, c94, (n15 + [[v89]].length), hF, (apL_len h92 q16), hs_back [0] rfl (by decide) (by exact ⟨rfl, rfl, rfl, rfl, rfl, trivial⟩) hh⟩)
    · have hF := cnd_f h88 hF
      refine r_brk ?_
      obtain rfl := sm1 hF
      exact r_backJ Jj26 ⟨x12, b13, c14, n15, hRl25, q16, rfl, rfl⟩ [0] rfl ⟨rfl, rfl, rfl, trivial⟩

abbrev N_gantryref09_has : Nat := 113
def F_gantryref09_has_j4 (K : Nat) : Option Bool :=
  some false
def F_gantryref09_has_l3 (K : Nat) (a0 : List Int) (a1 : Int) : Nat → Int → Option (LR Bool Unit)
  | 0, _ => none
  | k + 1, x2 => bif (decide (x2 < (a0.length : Int))) then ((rdL a0 x2).bind fun v6 => bif (v6 == a1) then (some (.ret true)) else ((chk (x2 + 1)).bind fun v9 => F_gantryref09_has_l3 K a0 a1 k v9)) else (some (.go ()))
def F_gantryref09_has (K : Nat) (a0 : List Int) (a1 : Int) : Option Bool :=
  (F_gantryref09_has_l3 K a0 a1 K 0).bind fun o => match o with | .ret r => some r | .go _ => F_gantryref09_has_j4 K 
set_option maxRecDepth 100000 in
theorem ct_gantryref09_has {K : Nat} {a0 : List Int} {a1 : Int} {r : Bool} (hF : F_gantryref09_has K a0 a1 = some r) : Ct Tryz.prog 113 [.vc (pS cI a0), .vc (pI .i64 a1)] (.vc (pB r)) := by
  unfold F_gantryref09_has at hF
  refine ctO_intro Tryz.func113 rfl (by kernel_rfl) Tryz.ntmps113 rfl (fun w0 M0 => ?_)
  refine r_seq (r_reg (r_op (t_mv (.inr rfl)) ⟨k_B _, trivial⟩ ?_))
  refine r_nil (r_next (r_seq (r_seq (r_reg (r_op (t_mv (.inr rfl)) ⟨k_I _ _, trivial⟩ ?_)))))
  refine r_nil (r_next (r_blk (r_cutN (fun H E => F_gantryref09_has_j4 K = some r ∧ H = [] ∧ E = []) ?_ (fun Jj4 => ?_))))
  · rintro _ _ ⟨hF, rfl, rfl⟩
    unfold F_gantryref09_has_j4 at hF
    refine r_next (r_seq (r_reg (r_op (t_mv (.inr rfl)) ⟨k_B _, trivial⟩ ?_)))
    refine r_nil (r_next (r_ret (r_toR ?_)))
    obtain rfl := sm1 hF
    exact r_done1 (.inl rfl) Tryz.results113 (.tmp rfl .nil) rfl rfl
  · skip
    obtain ⟨ol3, hL, hRl3⟩ := bnd hF
    refine r_lp (fun k a w => ∃ (x2 : Int), F_gantryref09_has_l3 K a0 a1 k x2 = some ol3 ∧ hs _ [] [(0, .vc (pS cI a0)), (1, .vc (pI .i64 a1)), (5, .vc (pI .i64 x2))] a w) K (fun a w ⟨_, hF, _⟩ => by cases hF) (fun k a w ⟨x2, hF, hh⟩ => r_at ?_ hh) (fun a w hh => ⟨0, hL, hs_back [] rfl (by decide) (by exact ⟨rfl, rfl, rfl, trivial⟩) hh⟩)
    rw [F_gantryref09_has_l3.eq_2] at hF
    refine r_seq (r_seq (r_reg (r_mv ?_)))
    refine r_mv ?_
    refine r_op (t_ln rfl tyS22) ⟨rfl, trivial⟩ ?_
    refine r_op (t_lt rfl) ⟨rfl, rfl, trivial⟩ ?_
    refine r_nil (r_next (r_if rfl (fun h5 => ?_) (fun h5 => ?_)))
    · have hF := cnd_t h5 hF
      refine r_skip (r_next (r_seq (r_blk (r_seq (r_reg (r_mv ?_))))))
      refine r_mv ?_
      obtain ⟨v6, h7, hF⟩ := bnd hF
      refine r_op (t_ix rfl tyS22 h7) ⟨rfl, rfl, trivial⟩ ?_
      refine r_op (t_lM 1 rfl rfl (.one tyO3)) ⟨rfl, trivial⟩ ?_
      refine r_mv ?_
      refine r_op (t_eq rfl) ⟨rfl, rfl, trivial⟩ ?_
      refine r_nil (r_next (r_if rfl (fun h8 => ?_) (fun h8 => ?_)))
      · have hF := cnd_t h8 hF
        refine r_seq (r_reg (r_op (t_mv (.inr rfl)) ⟨k_B _, trivial⟩ ?_))
        refine r_nil (r_next (r_ret (r_toR ?_)))
        obtain rfl := sm1 hF
        obtain rfl := sm1 hRl3
        exact r_done1 (.inl rfl) Tryz.results113 (.tmp rfl .nil) rfl rfl
      · have hF := cnd_f h8 hF
        refine r_skip (r_blkN (r_next (r_reg (r_mv ?_))))
        obtain ⟨v9, h10, hF⟩ := bnd hF
        refine r_op (t_add rfl h10) ⟨rfl, k_I _ _, trivial⟩ ?_
        refine r_as ?_
        refine r_nil ?_
        exact r_round (fun a w hh => ⟨v9, hF, hs_back [] rfl (by decide) (by exact ⟨rfl, rfl, rfl, trivial⟩) hh⟩)
    · have hF := cnd_f h5 hF
      refine r_brk ?_
      obtain rfl := sm1 hF
      exact r_backJ Jj4 ⟨hRl3, rfl, rfl⟩ [] rfl trivial

abbrev N_gantryref09_Kernel : Nat := 51
def F_gantryref09_Kernel_j28 (K : Nat) (x21 : List (List Rat)) : Option (List (List Rat)) :=
  some x21
def F_gantryref09_Kernel_j68 (K : Nat) (x14 : List (List Rat)) (x20 : Int) (recl27 : (List (List Rat)) → Int → Option (List (List Rat))) (x61 : List Rat) : Option (List (List Rat)) :=
  (apL x14 [x61]).bind fun x69 => (chk (x20 + 1)).bind fun v76 => recl27 x69 v76
def F_gantryref09_Kernel_l67 (K : Nat) (v3 : (List (List Rat)) × (List Int)) (x20 : Int) : Nat → (List Rat) → Int → Option (List Rat)
  | 0, _, _ => none
  | k + 1, x54, x60 => bif (decide (x60 < (v3.2.length : Int))) then ((rdL v3.2 x60).bind fun v81 => (rdL v3.1 x60).bind fun v83 => (rdL v83 x20).bind fun v85 => (qneg v85).bind fun v87 => (rdL x54 v81).bind fun v89 => (stL x54 v81 v87).bind fun x91 => (chk (x60 + 1)).bind fun v94 => F_gantryref09_Kernel_l67 K v3 x20 k x91 v94) else (some x54)
def F_gantryref09_Kernel_l27 (K : Nat) (v1 : Int) (v3 : (List (List Rat)) × (List Int)) : Nat → (List (List Rat)) → Int → Option (List (List Rat))
  | 0, _, _ => none
  | k + 1, x14, x20 => bif (decide (x20 < v1)) then ((F_gantryref09_has K v3.2 x20).bind fun v30 => bif v30 then ((chk (x20 + 1)).bind fun v33 => F_gantryref09_Kernel_l27 K v1 v3 k x14 v33) else ((mkL v1 0).bind fun x35 => (qof 1 1).bind fun v40 => (rdL x35 x20).bind fun v42 => (stL x35 x20 v40).bind fun x44 => (F_gantryref09_Kernel_l67 K v3 x20 K x44 0).bind fun x61 => F_gantryref09_Kernel_j68 K x14 x20 (F_gantryref09_Kernel_l27 K v1 v3 k) x61)) else (some x14)
def F_gantryref09_Kernel (K : Nat) (a0 : List (List Rat)) : Option (List (List Rat)) :=
  (F_gantryref09_Cols a0).bind fun v1 => (F_gantryref09_Reduced K a0 v1).bind fun v3 => (F_gantryref09_Kernel_l27 K v1 v3 K ([] : List (List Rat)) 0).bind fun x21 => F_gantryref09_Kernel_j28 K x21
set_option maxRecDepth 100000 in
theorem ct_gantryref09_Kernel {K : Nat} {a0 : List (List Rat)} {r : List (List Rat)} (hF : F_gantryref09_Kernel K a0 = some r) : Ct Tryz.prog 51 [.vc (pS (cSl cQ) a0)] (.vc (pS (cSl cQ) r)) := by
  unfold F_gantryref09_Kernel at hF
  refine ctO_intro Tryz.func51 rfl (by kernel_rfl) Tryz.ntmps51 rfl (fun w0 M0 => ?_)
  refine r_seq (r_reg (r_op (t_mv (.inr rfl)) ⟨k_nil (cSl cQ), trivial⟩ ?_))
  refine r_nil (r_next (r_seq (r_reg (r_mv ?_))))
  obtain ⟨v1, h2, hF⟩ := bnd hF
  refine r_op (t_call rfl (ct_gantryref09_Cols h2) rfl) ⟨rfl, trivial⟩ ?_
  refine r_as ?_
  refine r_nil (r_next (r_seq (r_reg (r_mv ?_))))
  refine r_mv ?_
  obtain ⟨v3, h4, hF⟩ := bnd hF
  refine r_op (t_call rfl (ct_gantryref09_Reduced h4) rfl) ⟨rfl, rfl, trivial⟩ ?_
  refine r_mv ?_
  refine r_op (t_ext2a rfl) ⟨rfl, trivial⟩ ?_
  refine r_op (t_ext2b rfl) ⟨rfl, trivial⟩ ?_
  refine r_as ?_
  refine r_as ?_
  refine r_nil (r_next (r_seq (r_reg (r_nilO (cSl cQ) 24 rfl ?_))))
  refine r_nil (r_next (r_seq (r_seq (r_reg (r_op (t_mv (.inr rfl)) ⟨k_I _ _, trivial⟩ ?_)))))
  refine r_nil (r_next (r_blk (r_cutN (fun H E => ∃ (x21 : List (List Rat)), ∃ (b22 : Option Nat), ∃ (c23 : Nat), ∃ (n24 : Nat), F_gantryref09_Kernel_j28 K x21 = some r ∧ x21.length = n24 ∧ H = [hO (cSl cQ) b22 c23 24 n24 x21] ∧ E = [(6, .vc (pO b22 n24 c23))]) ?_ (fun Jj28 => ?_))))
  · rintro _ _ ⟨x21, b22, c23, n24, hF, q25, rfl, rfl⟩
    unfold F_gantryref09_Kernel_j28 at hF
    refine r_next (r_seq (r_reg (r_mv ?_)))
    refine r_as ?_
    refine r_nil (r_next (r_ret (r_toR (r_fzX 0 [2, 6, 56] rfl q25 ⟨rfl, rfl, rfl, trivial⟩ rfl ?_))))
    obtain rfl := sm1 hF
    exact r_done1 (.inl rfl) Tryz.results51 (.tmp rfl .nil) rfl rfl
  · skip
    obtain ⟨x21', hL, hRl27⟩ := bnd hF
    refine r_lp (fun k a w => ∃ (x14 : List (List Rat)), ∃ (x20 : Int), ∃ (b15 : Option Nat), ∃ (c16 : Nat), ∃ (n17 : Nat), F_gantryref09_Kernel_l27 K v1 v3 k x14 x20 = some x21' ∧ x14.length = n17 ∧ hs _ [hO (cSl cQ) b15 c16 24 n17 x14] [(3, .vc (pI .i64 v1)), (4, .vc (pS (cSl cQ) v3.1)), (5, .vc (pS cI v3.2)), (6, .vc (pO b15 n17 c16)), (7, .vc (pI .i64 x20))] a w) K (fun a w ⟨_, _, _, _, _, hF, _, _⟩ => by cases hF) (fun k a w ⟨x14, x20, b15, c16, n17, hF, q18, hh⟩ => r_at ?_ hh) (fun a w hh => ⟨([] : List (List Rat)), 0, none, 0, 0, hL, rfl, hs_back [0] rfl (by decide) (by exact ⟨rfl, rfl, rfl, rfl, rfl, trivial⟩) hh⟩)
    rw [F_gantryref09_Kernel_l27.eq_2] at hF
    refine r_seq (r_seq (r_reg (r_mv ?_)))
    refine r_mv ?_
    refine r_op (t_lt rfl) ⟨rfl, rfl, trivial⟩ ?_
    refine r_nil (r_next (r_if rfl (fun h29 => ?_) (fun h29 => ?_)))
    · have hF := cnd_t h29 hF
      refine r_skip (r_next (r_seq (r_blk (r_seq (r_seq (r_reg (r_mv ?_)))))))
      refine r_mv ?_
      obtain ⟨v30, h31, hF⟩ := bnd hF
      refine r_op (t_call rfl (ct_gantryref09_has h31) rfl) ⟨rfl, rfl, trivial⟩ ?_
      refine r_nil (r_next (r_if rfl (fun h32 => ?_) (fun h32 => ?_)))
      · have hF := cnd_t h32 hF
        refine r_brk (r_next (r_reg (r_mv ?_)))
        obtain ⟨v33, h34, hF⟩ := bnd hF
        refine r_op (t_add rfl h34) ⟨rfl, k_I _ _, trivial⟩ ?_
        refine r_as ?_
        refine r_nil ?_
        exact r_round (fun a w hh => ⟨x14, v33, b15, c16, n17, hF, q18, hs_back [0] rfl (by decide) (by exact ⟨rfl, rfl, rfl, rfl, rfl, trivial⟩) hh⟩)
      · have hF := cnd_f h32 hF
        refine r_skip (r_next (r_seq (r_reg (r_mv ?_))))
        obtain ⟨x35, h36, hF⟩ := bnd hF
        refine r_make (C := cQ) rfl tyS24 rfl tyZ35q rfl h36 (fun b37 => ?_)
        refine r_as ?_
        refine r_nil (r_next (r_seq (r_reg (r_mv ?_))))
        refine r_mv ?_
        obtain ⟨v40, h41, hF⟩ := bnd hF
        refine r_op (t_call rfl (qc_gantryref05_Of h41) rfl) ⟨k_I _ _, k_I _ _, trivial⟩ ?_
        obtain ⟨v42, h43, hF⟩ := bnd hF
        refine r_op (t_ixE (C := cQ) 0 rfl tyS24 rfl rfl (rdL_some h43).1 (rdL_some h43).2.1) ⟨rfl, rfl, trivial⟩ ?_
        obtain ⟨x44, h45, hF⟩ := bnd hF
        refine r_op0 (t_stE 0 rfl rfl h43 h45 tyA35.s) ⟨rfl, rfl, trivial⟩ ?_
        refine r_nil (r_next (r_seq (r_seq (r_reg (r_op (t_mv (.inr rfl)) ⟨k_I _ _, trivial⟩ ?_)))))
        refine r_nil (r_next (r_blk (r_cutN (fun H E => ∃ (x61 : List Rat), ∃ (b62 : Option Nat), ∃ (c63 : Nat), ∃ (n64 : Nat), F_gantryref09_Kernel_j68 K x14 x20 (F_gantryref09_Kernel_l27 K v1 v3 k) x61 = some x21' ∧ x61.length = n64 ∧ H = [hO cQ b62 c63 35 n64 x61, hO (cSl cQ) b15 c16 24 n17 x14] ∧ E = [(3, .vc (pI .i64 v1)), (4, .vc (pS (cSl cQ) v3.1)), (5, .vc (pS cI v3.2)), (6, .vc (pO b15 n17 c16)), (7, .vc (pI .i64 x20)), (8, .vc (pO b62 n64 c63))]) ?_ (fun Jj68 => ?_))))
        · rintro _ _ ⟨x61, b62, c63, n64, hF, q65, rfl, rfl⟩
          unfold F_gantryref09_Kernel_j68 at hF
          refine r_next (r_reg (r_mv ?_))
          refine r_mv ?_
          refine r_fzL 0 [8, 53] rfl q65 ⟨rfl, rfl, trivial⟩ rfl ?_
          refine r_op (t_bs (C := (cSl cQ)) (xs := [.tmp 53]) (ps := [.vc (pS cQ x61)]) (zs := [x61]) rfl tyS47 rfl ⟨⟨trivial, rfl⟩, trivial⟩ rfl) ⟨rfl, trivial⟩ ?_
          obtain ⟨x69, h70, hF⟩ := bnd hF
          refine r_app 0 rfl tyS47 rfl rfl q18 rfl rfl h70 (fun b71 c72 H73 e74 => ?_)
          cases e74
          refine r_as ?_
          refine r_nil (r_blkN (r_next (r_reg (r_mv ?_))))
          obtain ⟨v76, h77, hF⟩ := bnd hF
          refine r_op (t_add rfl h77) ⟨rfl, k_I _ _, trivial⟩ ?_
          refine r_as ?_
          refine r_nil ?_
          exact r_round (fun a w hh => ⟨x69, v76, b71, c72, (n17 + [x61].length), hF, (apL_len h70 q18), hs_back [0] rfl (by decide) (by exact ⟨rfl, rfl, rfl, rfl, rfl, trivial⟩) hh⟩)
        · skip
          obtain ⟨x61', hL, hRl67⟩ := bnd hF
          refine r_lp (fun k a w => ∃ (x54 : List Rat), ∃ (x60 : Int), ∃ (b55 : Option Nat), ∃ (c56 : Nat), ∃ (n57 : Nat), F_gantryref09_Kernel_l67 K v3 x20 k x54 x60 = some x61' ∧ x54.length = n57 ∧ hs _ [hO cQ b55 c56 35 n57 x54, hO (cSl cQ) b15 c16 24 n17 x14] [(3, .vc (pI .i64 v1)), (4, .vc (pS (cSl cQ) v3.1)), (5, .vc (pS cI v3.2)), (6, .vc (pO b15 n17 c16)), (7, .vc (pI .i64 x20)), (8, .vc (pO b55 n57 c56)), (9, .vc (pI .i64 x60))] a w) K (fun a w ⟨_, _, _, _, _, hF, _, _⟩ => by cases hF) (fun k a w ⟨x54, x60, b55, c56, n57, hF, q58, hh⟩ => r_at ?_ hh) (fun a w hh => ⟨x44, 0, b37, x35.length, x35.length, hL, (stL_len h45 rfl), hs_back [0, 1] rfl (by decide) (by exact ⟨rfl, rfl, rfl, rfl, rfl, rfl, rfl, trivial⟩) hh⟩)
          rw [F_gantryref09_Kernel_l67.eq_2] at hF
          refine r_seq (r_seq (r_reg (r_mv ?_)))
          refine r_mv ?_
          refine r_op (t_ln rfl tyS22) ⟨rfl, trivial⟩ ?_
          refine r_op (t_lt rfl) ⟨rfl, rfl, trivial⟩ ?_
          refine r_nil (r_next (r_if rfl (fun h78 => ?_) (fun h78 => ?_)))
          · have hF := cnd_t h78 hF
            refine r_skip (r_next (r_seq (r_blk ?_)))
            obtain ⟨v81, h82, hF⟩ := bnd hF
            obtain ⟨v83, h84, hF⟩ := bnd hF
            obtain ⟨v85, h86, hF⟩ := bnd hF
            obtain ⟨v87, h88, hF⟩ := bnd hF
            obtain ⟨v89, h90, hF⟩ := bnd hF
            refine r_draw [0, 0, 0, 6, 14, 0, 0, 96, 224, 0, 992, 2016, 4064, 8191, 16383] 14 1 [.v (.vc (pO b55 n57 c56)), .v (.vc (pS cI v3.2)), .v (.vc (pI .i64 x60)), .v (.vc (pM (cI.e v81))), .v (.vc (pI .i64 v81)), .v (.vc (pS (cSl cQ) v3.1)), .v (.vc (pI .i64 x60)), .v (.vc (pM ((cSl cQ).e v83))), .v (.vc (pS cQ v83)), .v (.vc (pI .i64 x20)), .v (.vc (pM (cQ.e v85))), .v (.va (eQ v85)), .v (.va (eQ v87)), .v (.vc (pE b55 v81 cQ.n 0))] Tryz_mixed ⟨⟨rfl, .run (lo := 0) (n := 1) ⟨fun G79 A => t_mv (.inl rfl), trivial⟩ (fun G79 => ⟨rfl, trivial⟩)⟩, ⟨rfl, .run (lo := 0) (n := 1) ⟨fun G79 A => t_mv (.inl rfl), trivial⟩ (fun G79 => ⟨rfl, trivial⟩)⟩, ⟨rfl, .run (lo := 0) (n := 1) ⟨fun G79 A => t_mv (.inl rfl), trivial⟩ (fun G79 => ⟨rfl, trivial⟩)⟩, ⟨rfl, .run (lo := 0) (n := 1) ⟨fun G79 A => t_ix rfl tyS22 h82, trivial⟩ (fun G79 => ⟨rfl, rfl, trivial⟩)⟩, ⟨rfl, .run (lo := 0) (n := 1) ⟨fun G79 A => t_lM 1 rfl rfl (.one tyO3), trivial⟩ (fun G79 => ⟨rfl, trivial⟩)⟩, ⟨rfl, .run (lo := 0) (n := 1) ⟨fun G79 A => t_mv (.inl rfl), trivial⟩ (fun G79 => ⟨rfl, trivial⟩)⟩, ⟨rfl, .run (lo := 0) (n := 1) ⟨fun G79 A => t_mv (.inl rfl), trivial⟩ (fun G79 => ⟨rfl, trivial⟩)⟩, ⟨rfl, .run (lo := 0) (n := 1) ⟨fun G79 A => t_ix rfl tyS47 h84, trivial⟩ (fun G79 => ⟨rfl, rfl, trivial⟩)⟩, ⟨rfl, .run (lo := 0) (n := 1) ⟨fun G79 A => t_lM 1 rfl rfl (.one tyO24), trivial⟩ (fun G79 => ⟨rfl, trivial⟩)⟩, ⟨rfl, .run (lo := 0) (n := 1) ⟨fun G79 A => t_mv (.inl rfl), trivial⟩ (fun G79 => ⟨rfl, trivial⟩)⟩, ⟨rfl, .run (lo := 0) (n := 1) ⟨fun G79 A => t_ix rfl tyS24 h86, trivial⟩ (fun G79 => ⟨rfl, rfl, trivial⟩)⟩, ⟨rfl, .run (lo := 0) (n := 1) ⟨fun G79 A => t_lM 4 rfl rfl (.agg tyA35), trivial⟩ (fun G79 => ⟨rfl, trivial⟩)⟩, ⟨rfl, .run (lo := 0) (n := 1) ⟨fun G79 A => t_call rfl (qc_gantryref05_Neg h88) rfl, trivial⟩ (fun G79 => ⟨rfl, trivial⟩)⟩, ⟨rfl, .run (lo := 0) (n := 1) ⟨fun G79 A => t_ixE (C := cQ) 0 rfl tyS24 rfl q58 (rdL_some h90).1 (rdL_some h90).2.1, trivial⟩ (fun G79 => ⟨rfl, rfl, trivial⟩)⟩, trivial⟩ (fun bs80 G79 => ?_)
            obtain ⟨x91, h92, hF⟩ := bnd hF
            refine r_op0 (t_stE 0 rfl rfl h90 h92 tyA35.s) ⟨rfl, rfl, trivial⟩ ?_
            refine r_nil (r_blkN (r_next (r_reg (r_mv ?_))))
            obtain ⟨v94, h95, hF⟩ := bnd hF
            refine r_op (t_add rfl h95) ⟨rfl, k_I _ _, trivial⟩ ?_
            refine r_as ?_
            refine r_nil ?_
            exact r_round (fun a w hh => ⟨x91, v94, b55, c56, n57, hF, (stL_len h92 q58), hs_back [0, 1] rfl (by decide) (by exact ⟨rfl, rfl, rfl, rfl, rfl, rfl, rfl, trivial⟩) hh⟩)
          · have hF := cnd_f h78 hF
            refine r_brk ?_
            obtain rfl := sm1 hF
            exact r_backJ Jj68 ⟨x54, b55, c56, n57, hRl67, q58, rfl, rfl⟩ [0, 1] rfl ⟨rfl, rfl, rfl, rfl, rfl, rfl, trivial⟩
    · have hF := cnd_f h29 hF
      refine r_brk ?_
      obtain rfl := sm1 hF
      exact r_backJ Jj28 ⟨x14, b15, c16, n17, hRl27, q18, rfl, rfl⟩ [0] rfl ⟨rfl, trivial⟩

abbrev N_gantrylaw09_MatrixSolves : Nat := 7
def F_gantrylaw09_MatrixSolves_j9 (K : Nat) (a1 : List Int) (a3 : Int) (v1 : Int × Int) (v3 : List (List Rat)) (x8 : List Rat) : Option Bool :=
  (F_matrix_Solve K v3 x8).bind fun v10 => (F_gantryref09_Solve K v3 x8).bind fun v12 => (F_matrix_Kernel K v3).bind fun v14 => (chk (v1.1 + 1)).bind fun v16 => (F_gantryref09_Row K a1 0 v16).bind fun v18 => (F_matrix_Solve K v3 v18).bind fun v20 => (F_gantrylaw09_ragged v3 a3).bind fun v22 => (F_matrix_Solve K v22 x8).bind fun v24 => (F_gantrylaw09_ragged v3 a3).bind fun v26 => (F_matrix_Kernel K v26).bind fun v28 => bif (v14.2 != 0) then (some false) else ((F_gantryref09_Kernel K v3).bind fun v31 => (F_gantryref09_Same K v14.1 v31).bind fun v33 => bif (!v33) then (some false) else (bif (v20.2 != 1) then (some false) else (bif (v24.2 != 1) then (some false) else (bif (v28.2 != 1) then (some false) else (bif (!v12.2) then (bif (v10.2 == 6) then (bif ((v10.1.length : Int) == 0) then ((F_gantrylaw09_lives K ).bind fun v42 => some v42) else (some false)) else (some false)) else (bif (v10.2 == 0) then ((F_gantryref09_SameRow K v10.1 v12.1).bind fun v45 => bif v45 then ((F_gantrylaw09_lives K ).bind fun v48 => some v48) else (some false)) else (some false)))))))
def F_gantrylaw09_MatrixSolves (K : Nat) (a0 : List Int) (a1 : List Int) (a2 : Int) (a3 : Int) : Option Bool :=
  (F_gantrylaw09_sizes a2).bind fun v1 => (F_gantryref09_Matrix K a0 0 v1.1 v1.2).bind fun v3 => (F_gantryref09_Row K a1 0 v1.1).bind fun v5 => (chr a3 3).bind fun v50 => bif (v50 != 0) then ((F_gantryref09_Row K a1 0 v1.2).bind fun v53 => (F_gantryref09_Apply K v3 v53).bind fun v55 => F_gantrylaw09_MatrixSolves_j9 K a1 a3 v1 v3 v55) else (F_gantrylaw09_MatrixSolves_j9 K a1 a3 v1 v3 v5)
set_option maxRecDepth 100000 in
theorem ct_gantrylaw09_MatrixSolves {K : Nat} {a0 : List Int} {a1 : List Int} {a2 : Int} {a3 : Int} {r : Bool} (hF : F_gantrylaw09_MatrixSolves K a0 a1 a2 a3 = some r) : Ct Tryz.prog 7 [.vc (pS cI a0), .vc (pS cI a1), .vc (pI .i64 a2), .vc (pI .i64 a3)] (.vc (pB r)) := by
  unfold F_gantrylaw09_MatrixSolves at hF
  refine ctO_intro Tryz.func7 rfl (by kernel_rfl) Tryz.ntmps7 rfl (fun w0 M0 => ?_)
  refine r_seq (r_reg (r_op (t_mv (.inr rfl)) ⟨k_B _, trivial⟩ ?_))
  refine r_nil (r_next (r_seq (r_reg (r_mv ?_))))
  obtain ⟨v1, h2, hF⟩ := bnd hF
  refine r_op (t_call rfl (ct_gantrylaw09_sizes h2) rfl) ⟨rfl, trivial⟩ ?_
  refine r_mv ?_
  refine r_op (t_ext2a rfl) ⟨rfl, trivial⟩ ?_
  refine r_op (t_ext2b rfl) ⟨rfl, trivial⟩ ?_
  refine r_as ?_
  refine r_as ?_
  refine r_nil (r_next (r_seq (r_reg (r_mv ?_))))
  refine r_mv ?_
  refine r_mv ?_
  obtain ⟨v3, h4, hF⟩ := bnd hF
  refine r_op (t_call rfl (ct_gantryref09_Matrix h4) rfl) ⟨rfl, k_I _ _, rfl, rfl, trivial⟩ ?_
  refine r_as ?_
  refine r_nil (r_next (r_seq (r_reg (r_mv ?_))))
  refine r_mv ?_
  obtain ⟨v5, h6, hF⟩ := bnd hF
  refine r_op (t_call rfl (ct_gantryref09_Row h6) rfl) ⟨rfl, k_I _ _, rfl, trivial⟩ ?_
  refine r_as ?_
  refine r_nil (r_next (r_seq (r_cutS (fun H E => ∃ (x8 : List Rat), F_gantrylaw09_MatrixSolves_j9 K a1 a3 v1 v3 x8 = some r ∧ H = [] ∧ E = [(1, .vc (pS cI a1)), (3, .vc (pI .i64 a3)), (9, .vc (pI .i64 v1.1)), (11, .vc (pS (cSl cQ) v3)), (12, .vc (pS cQ x8))]) ?_ (fun Jj9 => ?_))))
  · rintro _ _ ⟨x8, hF, rfl, rfl⟩
    unfold F_gantrylaw09_MatrixSolves_j9 at hF
    refine r_seq (r_reg (r_mv ?_))
    refine r_mv ?_
    obtain ⟨v10, h11, hF⟩ := bnd hF
    refine r_op (t_call rfl (ct_matrix_Solve h11) rfl) ⟨rfl, rfl, trivial⟩ ?_
    refine r_mv ?_
    refine r_op (t_ext2a rfl) ⟨rfl, trivial⟩ ?_
    refine r_op (t_ext2b rfl) ⟨rfl, trivial⟩ ?_
    refine r_as ?_
    refine r_as ?_
    refine r_nil (r_next (r_seq (r_reg (r_mv ?_))))
    refine r_mv ?_
    obtain ⟨v12, h13, hF⟩ := bnd hF
    refine r_op (t_call rfl (ct_gantryref09_Solve h13) rfl) ⟨rfl, rfl, trivial⟩ ?_
    refine r_mv ?_
    refine r_op (t_ext2a rfl) ⟨rfl, trivial⟩ ?_
    refine r_op (t_ext2b rfl) ⟨rfl, trivial⟩ ?_
    refine r_as ?_
    refine r_as ?_
    refine r_nil (r_next (r_seq (r_reg (r_mv ?_))))
    obtain ⟨v14, h15, hF⟩ := bnd hF
    refine r_op (t_call rfl (ct_matrix_Kernel h15) rfl) ⟨rfl, trivial⟩ ?_
    refine r_mv ?_
    refine r_op (t_ext2a rfl) ⟨rfl, trivial⟩ ?_
    refine r_op (t_ext2b rfl) ⟨rfl, trivial⟩ ?_
    refine r_as ?_
    refine r_as ?_
    refine r_nil (r_next (r_seq (r_reg (r_mv ?_))))
    refine r_mv ?_
    refine r_mv ?_
    obtain ⟨v16, h17, hF⟩ := bnd hF
    refine r_op (t_add rfl h17) ⟨rfl, k_I _ _, trivial⟩ ?_
    obtain ⟨v18, h19, hF⟩ := bnd hF
    refine r_op (t_call rfl (ct_gantryref09_Row h19) rfl) ⟨rfl, k_I _ _, rfl, trivial⟩ ?_
    obtain ⟨v20, h21, hF⟩ := bnd hF
    refine r_op (t_call rfl (ct_matrix_Solve h21) rfl) ⟨rfl, rfl, trivial⟩ ?_
    refine r_mv ?_
    refine r_op (t_ext2a rfl) ⟨rfl, trivial⟩ ?_
    refine r_op (t_ext2b rfl) ⟨rfl, trivial⟩ ?_
    refine r_as ?_
    refine r_as ?_
    refine r_nil (r_next (r_seq (r_reg (r_mv ?_))))
    refine r_mv ?_
    obtain ⟨v22, h23, hF⟩ := bnd hF
    refine r_op (t_call rfl (ct_gantrylaw09_ragged h23) rfl) ⟨rfl, rfl, trivial⟩ ?_
    refine r_mv ?_
    obtain ⟨v24, h25, hF⟩ := bnd hF
    refine r_op (t_call rfl (ct_matrix_Solve h25) rfl) ⟨rfl, rfl, trivial⟩ ?_
    refine r_mv ?_
    refine r_op (t_ext2a rfl) ⟨rfl, trivial⟩ ?_
    refine r_op (t_ext2b rfl) ⟨rfl, trivial⟩ ?_
    refine r_as ?_
    refine r_as ?_
    refine r_nil (r_next (r_seq (r_reg (r_mv ?_))))
    refine r_mv ?_
    obtain ⟨v26, h27, hF⟩ := bnd hF
    refine r_op (t_call rfl (ct_gantrylaw09_ragged h27) rfl) ⟨rfl, rfl, trivial⟩ ?_
    obtain ⟨v28, h29, hF⟩ := bnd hF
    refine r_op (t_call rfl (ct_matrix_Kernel h29) rfl) ⟨rfl, trivial⟩ ?_
    refine r_mv ?_
    refine r_op (t_ext2a rfl) ⟨rfl, trivial⟩ ?_
    refine r_op (t_ext2b rfl) ⟨rfl, trivial⟩ ?_
    refine r_as ?_
    refine r_as ?_
    refine r_nil (r_next (r_seq (r_seq (r_reg (r_mv ?_)))))
    refine r_op (t_ne rfl) ⟨rfl, k_I _ _, trivial⟩ ?_
    refine r_mv ?_
    refine r_bool (fun h30 => ?_) (fun h30 => ?_)
    · have hF := cnd_t h30 hF
      refine r_opn ?_
      refine r_opn ?_
      refine r_opn ?_
      refine r_opn ?_
      refine r_opn ?_
      refine r_op (t_pickT rfl) ⟨rfl, k_B _, trivial⟩ ?_
      refine r_mv ?_
      refine r_opn ?_
      refine r_opn ?_
      refine r_op (t_pickT rfl) ⟨rfl, k_B _, trivial⟩ ?_
      refine r_mv ?_
      refine r_opn ?_
      refine r_opn ?_
      refine r_op (t_pickT rfl) ⟨rfl, k_B _, trivial⟩ ?_
      refine r_mv ?_
      refine r_opn ?_
      refine r_opn ?_
      refine r_op (t_pickT rfl) ⟨rfl, k_B _, trivial⟩ ?_
      refine r_nil (r_next (r_ifT rfl ?_))
      refine r_seq (r_reg (r_op (t_mv (.inr rfl)) ⟨k_B _, trivial⟩ ?_))
      refine r_nil (r_next (r_ret (r_toR ?_)))
      obtain rfl := sm1 hF
      exact r_done1 (.inl rfl) Tryz.results7 (.tmp rfl .nil) rfl rfl
    · have hF := cnd_f h30 hF
      refine r_opg (t_mv (.inl rfl)) ⟨rfl, trivial⟩ ?_
      refine r_opg (t_mv (.inl rfl)) ⟨rfl, trivial⟩ ?_
      obtain ⟨v31, h32, hF⟩ := bnd hF
      refine r_opg (t_call rfl (ct_gantryref09_Kernel h32) rfl) ⟨rfl, trivial⟩ ?_
      obtain ⟨v33, h34, hF⟩ := bnd hF
      refine r_opg (t_call rfl (ct_gantryref09_Same h34) rfl) ⟨rfl, rfl, trivial⟩ ?_
      refine r_opg (t_not rfl) ⟨rfl, trivial⟩ ?_
      refine r_op (t_pickF rfl) ⟨rfl, rfl, trivial⟩ ?_
      refine r_mv ?_
      refine r_bool (fun h35 => ?_) (fun h35 => ?_)
      · have hF := cnd_t h35 hF
        refine r_opn ?_
        refine r_opn ?_
        refine r_op (t_pickT rfl) ⟨rfl, k_B _, trivial⟩ ?_
        refine r_mv ?_
        refine r_opn ?_
        refine r_opn ?_
        refine r_op (t_pickT rfl) ⟨rfl, k_B _, trivial⟩ ?_
        refine r_mv ?_
        refine r_opn ?_
        refine r_opn ?_
        refine r_op (t_pickT rfl) ⟨rfl, k_B _, trivial⟩ ?_
        refine r_nil (r_next (r_ifT rfl ?_))
        refine r_seq (r_reg (r_op (t_mv (.inr rfl)) ⟨k_B _, trivial⟩ ?_))
        refine r_nil (r_next (r_ret (r_toR ?_)))
        obtain rfl := sm1 hF
        exact r_done1 (.inl rfl) Tryz.results7 (.tmp rfl .nil) rfl rfl
      · have hF := cnd_f h35 hF
        refine r_opg (t_mv (.inl rfl)) ⟨rfl, trivial⟩ ?_
        refine r_opg (t_ne rfl) ⟨rfl, k_I _ _, trivial⟩ ?_
        refine r_op (t_pickF rfl) ⟨rfl, rfl, trivial⟩ ?_
        refine r_mv ?_
        refine r_bool (fun h36 => ?_) (fun h36 => ?_)
        · have hF := cnd_t h36 hF
          refine r_opn ?_
          refine r_opn ?_
          refine r_op (t_pickT rfl) ⟨rfl, k_B _, trivial⟩ ?_
          refine r_mv ?_
          refine r_opn ?_
          refine r_opn ?_
          refine r_op (t_pickT rfl) ⟨rfl, k_B _, trivial⟩ ?_
          refine r_nil (r_next (r_ifT rfl ?_))
          refine r_seq (r_reg (r_op (t_mv (.inr rfl)) ⟨k_B _, trivial⟩ ?_))
          refine r_nil (r_next (r_ret (r_toR ?_)))
          obtain rfl := sm1 hF
          exact r_done1 (.inl rfl) Tryz.results7 (.tmp rfl .nil) rfl rfl
        · have hF := cnd_f h36 hF
          refine r_opg (t_mv (.inl rfl)) ⟨rfl, trivial⟩ ?_
          refine r_opg (t_ne rfl) ⟨rfl, k_I _ _, trivial⟩ ?_
          refine r_op (t_pickF rfl) ⟨rfl, rfl, trivial⟩ ?_
          refine r_mv ?_
          refine r_bool (fun h37 => ?_) (fun h37 => ?_)
          · have hF := cnd_t h37 hF
            refine r_opn ?_
            refine r_opn ?_
            refine r_op (t_pickT rfl) ⟨rfl, k_B _, trivial⟩ ?_
            refine r_nil (r_next (r_ifT rfl ?_))
            refine r_seq (r_reg (r_op (t_mv (.inr rfl)) ⟨k_B _, trivial⟩ ?_))
            refine r_nil (r_next (r_ret (r_toR ?_)))
            obtain rfl := sm1 hF
            exact r_done1 (.inl rfl) Tryz.results7 (.tmp rfl .nil) rfl rfl
          · have hF := cnd_f h37 hF
            refine r_opg (t_mv (.inl rfl)) ⟨rfl, trivial⟩ ?_
            refine r_opg (t_ne rfl) ⟨rfl, k_I _ _, trivial⟩ ?_
            refine r_op (t_pickF rfl) ⟨rfl, rfl, trivial⟩ ?_
            refine r_nil (r_next (r_if rfl (fun h38 => ?_) (fun h38 => ?_)))
            · have hF := cnd_t h38 hF
              refine r_seq (r_reg (r_op (t_mv (.inr rfl)) ⟨k_B _, trivial⟩ ?_))
              refine r_nil (r_next (r_ret (r_toR ?_)))
              obtain rfl := sm1 hF
              exact r_done1 (.inl rfl) Tryz.results7 (.tmp rfl .nil) rfl rfl
            · have hF := cnd_f h38 hF
              refine r_skip (r_next (r_seq (r_seq (r_reg (r_mv ?_)))))
              refine r_op (t_not rfl) ⟨rfl, trivial⟩ ?_
              refine r_nil (r_next (r_if rfl (fun h39 => ?_) (fun h39 => ?_)))
              · have hF := cnd_t h39 hF
                refine r_seq (r_reg (r_mv ?_))
                refine r_op (t_eq rfl) ⟨rfl, k_I _ _, trivial⟩ ?_
                refine r_mv ?_
                refine r_bool (fun h40 => ?_) (fun h40 => ?_)
                · have hF := cnd_t h40 hF
                  refine r_opg (t_mv (.inl rfl)) ⟨rfl, trivial⟩ ?_
                  refine r_opg (t_ln rfl tyS24) ⟨rfl, trivial⟩ ?_
                  refine r_opg (t_eq rfl) ⟨rfl, k_I _ _, trivial⟩ ?_
                  refine r_op (t_pickT rfl) ⟨rfl, rfl, trivial⟩ ?_
                  refine r_mv ?_
                  refine r_bool (fun h41 => ?_) (fun h41 => ?_)
                  · have hF := cnd_t h41 hF
                    obtain ⟨v42, h43, hF⟩ := bnd hF
                    refine r_opg (t_call rfl (ct_gantrylaw09_lives h43) rfl) trivial ?_
                    refine r_op (t_pickT rfl) ⟨rfl, rfl, trivial⟩ ?_
                    refine r_as ?_
                    refine r_nil (r_next (r_ret (r_toR ?_)))
                    obtain rfl := sm1 hF
                    exact r_done1 (.inl rfl) Tryz.results7 (.tmp rfl .nil) rfl rfl
                  · have hF := cnd_f h41 hF
                    refine r_opn ?_
                    refine r_op (t_pickF rfl) ⟨rfl, k_B _, trivial⟩ ?_
                    refine r_as ?_
                    refine r_nil (r_next (r_ret (r_toR ?_)))
                    obtain rfl := sm1 hF
                    exact r_done1 (.inl rfl) Tryz.results7 (.tmp rfl .nil) rfl rfl
                · have hF := cnd_f h40 hF
                  refine r_opn ?_
                  refine r_opn ?_
                  refine r_opn ?_
                  refine r_op (t_pickF rfl) ⟨rfl, k_B _, trivial⟩ ?_
                  refine r_mv ?_
                  refine r_opn ?_
                  refine r_op (t_pickF rfl) ⟨rfl, k_B _, trivial⟩ ?_
                  refine r_as ?_
                  refine r_nil (r_next (r_ret (r_toR ?_)))
                  obtain rfl := sm1 hF
                  exact r_done1 (.inl rfl) Tryz.results7 (.tmp rfl .nil) rfl rfl
              · have hF := cnd_f h39 hF
                refine r_skip (r_next (r_seq (r_reg (r_mv ?_))))
                refine r_op (t_eq rfl) ⟨rfl, k_I _ _, trivial⟩ ?_
                refine r_mv ?_
                refine r_bool (fun h44 => ?_) (fun h44 => ?_)
                · have hF := cnd_t h44 hF
                  refine r_opg (t_mv (.inl rfl)) ⟨rfl, trivial⟩ ?_
                  refine r_opg (t_mv (.inl rfl)) ⟨rfl, trivial⟩ ?_
                  obtain ⟨v45, h46, hF⟩ := bnd hF
                  refine r_opg (t_call rfl (ct_gantryref09_SameRow h46) rfl) ⟨rfl, rfl, trivial⟩ ?_
                  refine r_op (t_pickT rfl) ⟨rfl, rfl, trivial⟩ ?_
                  refine r_mv ?_
                  refine r_bool (fun h47 => ?_) (fun h47 => ?_)
                  · have hF := cnd_t h47 hF
                    obtain ⟨v48, h49, hF⟩ := bnd hF
                    refine r_opg (t_call rfl (ct_gantrylaw09_lives h49) rfl) trivial ?_
                    refine r_op (t_pickT rfl) ⟨rfl, rfl, trivial⟩ ?_
                    refine r_as ?_
                    refine r_nil (r_next (r_ret (r_toR ?_)))
                    obtain rfl := sm1 hF
                    exact r_done1 (.inl rfl) Tryz.results7 (.tmp rfl .nil) rfl rfl
                  · have hF := cnd_f h47 hF
                    refine r_opn ?_
                    refine r_op (t_pickF rfl) ⟨rfl, k_B _, trivial⟩ ?_
                    refine r_as ?_
                    refine r_nil (r_next (r_ret (r_toR ?_)))
                    obtain rfl := sm1 hF
                    exact r_done1 (.inl rfl) Tryz.results7 (.tmp rfl .nil) rfl rfl
                · have hF := cnd_f h44 hF
                  refine r_opn ?_
                  refine r_opn ?_
                  refine r_opn ?_
                  refine r_op (t_pickF rfl) ⟨rfl, k_B _, trivial⟩ ?_
                  refine r_mv ?_
                  refine r_opn ?_
                  refine r_op (t_pickF rfl) ⟨rfl, k_B _, trivial⟩ ?_
                  refine r_as ?_
                  refine r_nil (r_next (r_ret (r_toR ?_)))
                  obtain rfl := sm1 hF
                  exact r_done1 (.inl rfl) Tryz.results7 (.tmp rfl .nil) rfl rfl
  · skip
    refine r_seq (r_reg (r_mv ?_))
    obtain ⟨v50, h51, hF⟩ := bnd hF
    refine r_op (t_rem rfl h51) ⟨rfl, k_I _ _, trivial⟩ ?_
    refine r_op (t_ne rfl) ⟨rfl, k_I _ _, trivial⟩ ?_
    refine r_nil (r_next (r_if rfl (fun h52 => ?_) (fun h52 => ?_)))
    · have hF := cnd_t h52 hF
      refine r_reg (r_mv ?_)
      refine r_mv ?_
      refine r_mv ?_
      obtain ⟨v53, h54, hF⟩ := bnd hF
      refine r_op (t_call rfl (ct_gantryref09_Row h54) rfl) ⟨rfl, k_I _ _, rfl, trivial⟩ ?_
      obtain ⟨v55, h56, hF⟩ := bnd hF
      refine r_op (t_call rfl (ct_gantryref09_Apply h56) rfl) ⟨rfl, rfl, trivial⟩ ?_
      refine r_as ?_
      refine r_nil ?_
      exact r_backJ Jj9 ⟨v55, hF, rfl, rfl⟩ [] rfl ⟨rfl, rfl, rfl, rfl, rfl, trivial⟩
    · have hF := cnd_f h52 hF
      refine r_skip ?_
      exact r_backJ Jj9 ⟨v5, hF, rfl, rfl⟩ [] rfl ⟨rfl, rfl, rfl, rfl, rfl, trivial⟩

end Go.Proofs.YtkjnngaceacmdaaGreat
