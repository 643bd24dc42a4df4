import Derived.Test.YtkjnngaceacmdaaGreatQ1
set_option linter.unusedVariables false
namespace Go.Proofs.YtkjnngaceacmdaaGreat
def F_gantrylaw09_lives (K : Nat) : Option Bool :=
  (F_gantrylaw09_whole K [1, 2, 3]).bind fun v1 => (F_gantrylaw09_whole K [2, 4, 7]).bind fun v3 => (F_gantrylaw09_whole K [2, 1]).bind fun v5 => (F_gantrylaw09_whole K [1, 2]).bind fun v7 => (F_matrix_Rank K [v1, v3]).bind fun v9 => (F_gantrylaw09_whole K [1, 3]).bind fun v11 => (F_matrix_Solve K [v1, v3] v11).bind fun v13 => (F_matrix_Kernel K [v1, v3]).bind fun v15 => (F_gantrylaw09_whole K [2, 4]).bind fun v17 => (F_gantrylaw09_whole K [1, 2]).bind fun v19 => (F_gantrylaw09_whole K [1, 1]).bind fun v21 => (F_matrix_Solve K [v17, v19] v21).bind fun v23 => (F_matrix_Det K [v5, v7]).bind fun v25 => (F_matrix_Inverse K [v5, v7]).bind fun v28 => bif (v9.2 != 0) then (some false) else (bif (v13.2 != 0) then (some false) else (bif (v15.2 != 0) then (some false) else (bif (v25.2 != 0) then (some false) else (bif (v28.2 != 0) then (some false) else (bif (v23.2 != 6) then (some false) else (bif ((v15.1.length : Int) != 1) then (some false) else ((qof (-1) 3).bind fun v37 => (qof 2 3).bind fun v40 => bif (v9.1 == 2) then ((F_gantrylaw09_whole K [(-2), 0, 1]).bind fun v46 => (F_gantryref09_SameRow K v13.1 v46).bind fun v48 => bif v48 then ((rdL v15.1 0).bind fun v51 => (F_gantrylaw09_whole K [(-2), 1, 0]).bind fun v53 => (F_gantryref09_SameRow K v51 v53).bind fun v55 => bif v55 then ((qof 3 1).bind fun v58 => (qsame v25.1 v58).bind fun v60 => bif v60 then ((F_gantryref09_Same K v28.1 [[v40, v37], [v37, v40]]).bind fun v63 => bif v63 then ((F_matrix_Positive K [v5, v7]).bind fun v66 => bif v66 then ((F_gantrylaw09_whole K [1, 2]).bind fun v69 => (F_gantrylaw09_whole K [2, 1]).bind fun v71 => (F_matrix_Positive K [v69, v71]).bind fun v73 => some (!v73)) else (some false)) else (some false)) else (some false)) else (some false)) else (some false)) else (some false))))))))
set_option maxRecDepth 100000 in
theorem ct_gantrylaw09_lives {K : Nat} {r : Bool} (hF : F_gantrylaw09_lives K = some r) : Ct Tryz.prog 44 [] (.vc (pB r)) := by
  unfold F_gantrylaw09_lives at hF
  refine ctO_intro Tryz.func44 rfl (by kernel_rfl) Tryz.ntmps44 rfl (fun w0 M0 => ?_)
  refine r_seq (r_reg (r_op (t_mv (.inr rfl)) ⟨k_B _, trivial⟩ ?_))
  refine r_nil (r_next (r_seq (r_reg (r_op (t_bs (C := cI) (xs := [.const (.int .i64 (1)), .const (.int .i64 (2)), .const (.int .i64 (3))]) (ps := [.vc (pI .i64 1), .vc (pI .i64 2), .vc (pI .i64 3)]) (zs := [1, 2, 3]) rfl tyS22 rfl ⟨⟨trivial, rfl⟩, ⟨trivial, rfl⟩, ⟨trivial, rfl⟩, trivial⟩ rfl) ⟨k_I _ _, k_I _ _, k_I _ _, trivial⟩ ?_))))
  obtain ⟨v1, h2, hF⟩ := bnd hF
  refine r_op (t_call rfl (ct_gantrylaw09_whole h2) rfl) ⟨rfl, trivial⟩ ?_
  refine r_op (t_bs (C := cI) (xs := [.const (.int .i64 (2)), .const (.int .i64 (4)), .const (.int .i64 (7))]) (ps := [.vc (pI .i64 2), .vc (pI .i64 4), .vc (pI .i64 7)]) (zs := [2, 4, 7]) rfl tyS22 rfl ⟨⟨trivial, rfl⟩, ⟨trivial, rfl⟩, ⟨trivial, rfl⟩, trivial⟩ rfl) ⟨k_I _ _, k_I _ _, k_I _ _, trivial⟩ ?_
  obtain ⟨v3, h4, hF⟩ := bnd hF
  refine r_op (t_call rfl (ct_gantrylaw09_whole h4) rfl) ⟨rfl, trivial⟩ ?_
  refine r_op (t_bs (C := (cSl cQ)) (xs := [.tmp 19, .tmp 21]) (ps := [.vc (pS cQ v1), .vc (pS cQ v3)]) (zs := [v1, v3]) rfl tyS47 rfl ⟨⟨trivial, rfl⟩, ⟨trivial, rfl⟩, trivial⟩ rfl) ⟨rfl, rfl, trivial⟩ ?_
  refine r_as ?_
  refine r_nil (r_next (r_seq (r_reg (r_op (t_bs (C := cI) (xs := [.const (.int .i64 (2)), .const (.int .i64 (1))]) (ps := [.vc (pI .i64 2), .vc (pI .i64 1)]) (zs := [2, 1]) rfl tyS22 rfl ⟨⟨trivial, rfl⟩, ⟨trivial, rfl⟩, trivial⟩ rfl) ⟨k_I _ _, k_I _ _, trivial⟩ ?_))))
  obtain ⟨v5, h6, hF⟩ := bnd hF
  refine r_op (t_call rfl (ct_gantrylaw09_whole h6) rfl) ⟨rfl, trivial⟩ ?_
  refine r_op (t_bs (C := cI) (xs := [.const (.int .i64 (1)), .const (.int .i64 (2))]) (ps := [.vc (pI .i64 1), .vc (pI .i64 2)]) (zs := [1, 2]) rfl tyS22 rfl ⟨⟨trivial, rfl⟩, ⟨trivial, rfl⟩, trivial⟩ rfl) ⟨k_I _ _, k_I _ _, trivial⟩ ?_
  obtain ⟨v7, h8, hF⟩ := bnd hF
  refine r_op (t_call rfl (ct_gantrylaw09_whole h8) rfl) ⟨rfl, trivial⟩ ?_
  refine r_op (t_bs (C := (cSl cQ)) (xs := [.tmp 24, .tmp 26]) (ps := [.vc (pS cQ v5), .vc (pS cQ v7)]) (zs := [v5, v7]) rfl tyS47 rfl ⟨⟨trivial, rfl⟩, ⟨trivial, rfl⟩, trivial⟩ rfl) ⟨rfl, rfl, trivial⟩ ?_
  refine r_as ?_
  refine r_nil (r_next (r_seq (r_reg (r_mv ?_))))
  obtain ⟨v9, h10, hF⟩ := bnd hF
  refine r_op (t_call rfl (ct_matrix_Rank h10) rfl) ⟨rfl, trivial⟩ ?_
  refine r_mv ?_
  refine r_op (t_ext2a rfl) ⟨rfl, trivial⟩ ?_
  refine r_op (t_ext2b rfl) ⟨rfl, trivial⟩ ?_
  refine r_as ?_
  refine r_as ?_
  refine r_nil (r_next (r_seq (r_reg (r_mv ?_))))
  refine r_op (t_bs (C := cI) (xs := [.const (.int .i64 (1)), .const (.int .i64 (3))]) (ps := [.vc (pI .i64 1), .vc (pI .i64 3)]) (zs := [1, 3]) rfl tyS22 rfl ⟨⟨trivial, rfl⟩, ⟨trivial, rfl⟩, trivial⟩ rfl) ⟨k_I _ _, k_I _ _, trivial⟩ ?_
  obtain ⟨v11, h12, hF⟩ := bnd hF
  refine r_op (t_call rfl (ct_gantrylaw09_whole h12) rfl) ⟨rfl, trivial⟩ ?_
  obtain ⟨v13, h14, hF⟩ := bnd hF
  refine r_op (t_call rfl (ct_matrix_Solve h14) rfl) ⟨rfl, rfl, trivial⟩ ?_
  refine r_mv ?_
  refine r_op (t_ext2a rfl) ⟨rfl, trivial⟩ ?_
  refine r_op (t_ext2b rfl) ⟨rfl, trivial⟩ ?_
  refine r_as ?_
  refine r_as ?_
  refine r_nil (r_next (r_seq (r_reg (r_mv ?_))))
  obtain ⟨v15, h16, hF⟩ := bnd hF
  refine r_op (t_call rfl (ct_matrix_Kernel h16) rfl) ⟨rfl, trivial⟩ ?_
  refine r_mv ?_
  refine r_op (t_ext2a rfl) ⟨rfl, trivial⟩ ?_
  refine r_op (t_ext2b rfl) ⟨rfl, trivial⟩ ?_
  refine r_as ?_
  refine r_as ?_
  refine r_nil (r_next (r_seq (r_reg (r_op (t_bs (C := cI) (xs := [.const (.int .i64 (2)), .const (.int .i64 (4))]) (ps := [.vc (pI .i64 2), .vc (pI .i64 4)]) (zs := [2, 4]) rfl tyS22 rfl ⟨⟨trivial, rfl⟩, ⟨trivial, rfl⟩, trivial⟩ rfl) ⟨k_I _ _, k_I _ _, trivial⟩ ?_))))
  obtain ⟨v17, h18, hF⟩ := bnd hF
  refine r_op (t_call rfl (ct_gantrylaw09_whole h18) rfl) ⟨rfl, trivial⟩ ?_
  refine r_op (t_bs (C := cI) (xs := [.const (.int .i64 (1)), .const (.int .i64 (2))]) (ps := [.vc (pI .i64 1), .vc (pI .i64 2)]) (zs := [1, 2]) rfl tyS22 rfl ⟨⟨trivial, rfl⟩, ⟨trivial, rfl⟩, trivial⟩ rfl) ⟨k_I _ _, k_I _ _, trivial⟩ ?_
  obtain ⟨v19, h20, hF⟩ := bnd hF
  refine r_op (t_call rfl (ct_gantrylaw09_whole h20) rfl) ⟨rfl, trivial⟩ ?_
  refine r_op (t_bs (C := (cSl cQ)) (xs := [.tmp 47, .tmp 49]) (ps := [.vc (pS cQ v17), .vc (pS cQ v19)]) (zs := [v17, v19]) rfl tyS47 rfl ⟨⟨trivial, rfl⟩, ⟨trivial, rfl⟩, trivial⟩ rfl) ⟨rfl, rfl, trivial⟩ ?_
  refine r_op (t_bs (C := cI) (xs := [.const (.int .i64 (1)), .const (.int .i64 (1))]) (ps := [.vc (pI .i64 1), .vc (pI .i64 1)]) (zs := [1, 1]) rfl tyS22 rfl ⟨⟨trivial, rfl⟩, ⟨trivial, rfl⟩, trivial⟩ rfl) ⟨k_I _ _, k_I _ _, trivial⟩ ?_
  obtain ⟨v21, h22, hF⟩ := bnd hF
  refine r_op (t_call rfl (ct_gantrylaw09_whole h22) rfl) ⟨rfl, trivial⟩ ?_
  obtain ⟨v23, h24, hF⟩ := bnd hF
  refine r_op (t_call rfl (ct_matrix_Solve h24) rfl) ⟨rfl, rfl, trivial⟩ ?_
  refine r_mv ?_
  refine r_op (t_ext2a rfl) ⟨rfl, trivial⟩ ?_
  refine r_op (t_ext2b rfl) ⟨rfl, trivial⟩ ?_
  refine r_as ?_
  refine r_as ?_
  refine r_nil (r_next (r_seq (r_reg (r_mv ?_))))
  obtain ⟨v25, h26, hF⟩ := bnd hF
  refine r_op (t_call rfl (ct_matrix_Det h26) rfl) ⟨rfl, trivial⟩ ?_
  refine r_mv ?_
  refine r_op (t_ext2a rfl) ⟨rfl, trivial⟩ ?_
  refine r_op (t_ext2b rfl) ⟨rfl, trivial⟩ ?_
  refine r_alloc rfl tyZ35q (fun b27 => ?_)
  refine r_op0 (t_s 0 rfl rfl rfl tyA35.s) ⟨rfl, rfl, trivial⟩ ?_
  refine r_as ?_
  refine r_nil (r_next (r_seq (r_reg (r_mv ?_))))
  obtain ⟨v28, h29, hF⟩ := bnd hF
  refine r_op (t_call rfl (ct_matrix_Inverse h29) rfl) ⟨rfl, trivial⟩ ?_
  refine r_mv ?_
  refine r_op (t_ext2a rfl) ⟨rfl, trivial⟩ ?_
  refine r_op (t_ext2b rfl) ⟨rfl, trivial⟩ ?_
  refine r_as ?_
  refine r_as ?_
  refine r_nil (r_next (r_seq (r_seq (r_reg (r_mv ?_)))))
  refine r_op (t_ne rfl) ⟨rfl, k_I _ _, trivial⟩ ?_
  refine r_mv ?_
  refine r_bool (fun h30 => ?_) (fun h30 => ?_)
  · have hF := cnd_t h30 hF
    refine r_opn ?_
    refine r_opn ?_
    refine r_op (t_pickT rfl) ⟨rfl, k_B _, trivial⟩ ?_
    refine r_mv ?_
    refine r_opn ?_
    refine r_opn ?_
    refine r_op (t_pickT rfl) ⟨rfl, k_B _, trivial⟩ ?_
    refine r_mv ?_
    refine r_opn ?_
    refine r_opn ?_
    refine r_op (t_pickT rfl) ⟨rfl, k_B _, trivial⟩ ?_
    refine r_mv ?_
    refine r_opn ?_
    refine r_opn ?_
    refine r_op (t_pickT rfl) ⟨rfl, k_B _, trivial⟩ ?_
    refine r_mv ?_
    refine r_opn ?_
    refine r_opn ?_
    refine r_op (t_pickT rfl) ⟨rfl, k_B _, trivial⟩ ?_
    refine r_mv ?_
    refine r_opn ?_
    refine r_opn ?_
    refine r_opn ?_
    refine r_op (t_pickT rfl) ⟨rfl, k_B _, trivial⟩ ?_
    refine r_nil (r_next (r_ifT rfl ?_))
    refine r_seq (r_reg (r_op (t_mv (.inr rfl)) ⟨k_B _, trivial⟩ ?_))
    refine r_nil (r_next (r_ret (r_toR ?_)))
    obtain rfl := sm1 hF
    exact r_done1 (.inl rfl) Tryz.results44 (.tmp rfl .nil) rfl rfl
  · have hF := cnd_f h30 hF
    refine r_opg (t_mv (.inl rfl)) ⟨rfl, trivial⟩ ?_
    refine r_opg (t_ne rfl) ⟨rfl, k_I _ _, trivial⟩ ?_
    refine r_op (t_pickF rfl) ⟨rfl, rfl, trivial⟩ ?_
    refine r_mv ?_
    refine r_bool (fun h31 => ?_) (fun h31 => ?_)
    · have hF := cnd_t h31 hF
      refine r_opn ?_
      refine r_opn ?_
      refine r_op (t_pickT rfl) ⟨rfl, k_B _, trivial⟩ ?_
      refine r_mv ?_
      refine r_opn ?_
      refine r_opn ?_
      refine r_op (t_pickT rfl) ⟨rfl, k_B _, trivial⟩ ?_
      refine r_mv ?_
      refine r_opn ?_
      refine r_opn ?_
      refine r_op (t_pickT rfl) ⟨rfl, k_B _, trivial⟩ ?_
      refine r_mv ?_
      refine r_opn ?_
      refine r_opn ?_
      refine r_op (t_pickT rfl) ⟨rfl, k_B _, trivial⟩ ?_
      refine r_mv ?_
      refine r_opn ?_
      refine r_opn ?_
      refine r_opn ?_
      refine r_op (t_pickT rfl) ⟨rfl, k_B _, trivial⟩ ?_
      refine r_nil (r_next (r_ifT rfl ?_))
      refine r_seq (r_reg (r_op (t_mv (.inr rfl)) ⟨k_B _, trivial⟩ ?_))
      refine r_nil (r_next (r_ret (r_toR ?_)))
      obtain rfl := sm1 hF
      exact r_done1 (.inl rfl) Tryz.results44 (.tmp rfl .nil) rfl rfl
    · have hF := cnd_f h31 hF
      refine r_opg (t_mv (.inl rfl)) ⟨rfl, trivial⟩ ?_
      refine r_opg (t_ne rfl) ⟨rfl, k_I _ _, trivial⟩ ?_
      refine r_op (t_pickF rfl) ⟨rfl, rfl, trivial⟩ ?_
      refine r_mv ?_
      refine r_bool (fun h32 => ?_) (fun h32 => ?_)
      · have hF := cnd_t h32 hF
        refine r_opn ?_
        refine r_opn ?_
        refine r_op (t_pickT rfl) ⟨rfl, k_B _, trivial⟩ ?_
        refine r_mv ?_
        refine r_opn ?_
        refine r_opn ?_
        refine r_op (t_pickT rfl) ⟨rfl, k_B _, trivial⟩ ?_
        refine r_mv ?_
        refine r_opn ?_
        refine r_opn ?_
        refine r_op (t_pickT rfl) ⟨rfl, k_B _, trivial⟩ ?_
        refine r_mv ?_
        refine r_opn ?_
        refine r_opn ?_
        refine r_opn ?_
        refine r_op (t_pickT rfl) ⟨rfl, k_B _, trivial⟩ ?_
        refine r_nil (r_next (r_ifT rfl ?_))
        refine r_seq (r_reg (r_op (t_mv (.inr rfl)) ⟨k_B _, trivial⟩ ?_))
        refine r_nil (r_next (r_ret (r_toR ?_)))
        obtain rfl := sm1 hF
        exact r_done1 (.inl rfl) Tryz.results44 (.tmp rfl .nil) rfl rfl
      · have hF := cnd_f h32 hF
        refine r_opg (t_mv (.inl rfl)) ⟨rfl, trivial⟩ ?_
        refine r_opg (t_ne rfl) ⟨rfl, k_I _ _, trivial⟩ ?_
        refine r_op (t_pickF rfl) ⟨rfl, rfl, trivial⟩ ?_
        refine r_mv ?_
        refine r_bool (fun h33 => ?_) (fun h33 => ?_)
        · have hF := cnd_t h33 hF
          refine r_opn ?_
          refine r_opn ?_
          refine r_op (t_pickT rfl) ⟨rfl, k_B _, trivial⟩ ?_
          refine r_mv ?_
          refine r_opn ?_
          refine r_opn ?_
          refine r_op (t_pickT rfl) ⟨rfl, k_B _, trivial⟩ ?_
          refine r_mv ?_
          refine r_opn ?_
          refine r_opn ?_
          refine r_opn ?_
          refine r_op (t_pickT rfl) ⟨rfl, k_B _, trivial⟩ ?_
          refine r_nil (r_next (r_ifT rfl ?_))
          refine r_seq (r_reg (r_op (t_mv (.inr rfl)) ⟨k_B _, trivial⟩ ?_))
          refine r_nil (r_next (r_ret (r_toR ?_)))
          obtain rfl := sm1 hF
          exact r_done1 (.inl rfl) Tryz.results44 (.tmp rfl .nil) rfl rfl
        · have hF := cnd_f h33 hF
          refine r_opg (t_mv (.inl rfl)) ⟨rfl, trivial⟩ ?_
          refine r_opg (t_ne rfl) ⟨rfl, k_I _ _, trivial⟩ ?_
          refine r_op (t_pickF rfl) ⟨rfl, rfl, trivial⟩ ?_
          refine r_mv ?_
          refine r_bool (fun h34 => ?_) (fun h34 => ?_)
          · have hF := cnd_t h34 hF
            refine r_opn ?_
            refine r_opn ?_
            refine r_op (t_pickT rfl) ⟨rfl, k_B _, trivial⟩ ?_
            refine r_mv ?_
            refine r_opn ?_
            refine r_opn ?_
            refine r_opn ?_
            refine r_op (t_pickT rfl) ⟨rfl, k_B _, trivial⟩ ?_
            refine r_nil (r_next (r_ifT rfl ?_))
            refine r_seq (r_reg (r_op (t_mv (.inr rfl)) ⟨k_B _, trivial⟩ ?_))
            refine r_nil (r_next (r_ret (r_toR ?_)))
            obtain rfl := sm1 hF
            exact r_done1 (.inl rfl) Tryz.results44 (.tmp rfl .nil) rfl rfl
          · have hF := cnd_f h34 hF
            refine r_opg (t_mv (.inl rfl)) ⟨rfl, trivial⟩ ?_
            refine r_opg (t_ne rfl) ⟨rfl, k_I _ _, trivial⟩ ?_
            refine r_op (t_pickF rfl) ⟨rfl, rfl, trivial⟩ ?_
            refine r_mv ?_
            refine r_bool (fun h35 => ?_) (fun h35 => ?_)
            · have hF := cnd_t h35 hF
              refine r_opn ?_
              refine r_opn ?_
              refine r_opn ?_
              refine r_op (t_pickT rfl) ⟨rfl, k_B _, trivial⟩ ?_
              refine r_nil (r_next (r_ifT rfl ?_))
              refine r_seq (r_reg (r_op (t_mv (.inr rfl)) ⟨k_B _, trivial⟩ ?_))
              refine r_nil (r_next (r_ret (r_toR ?_)))
              obtain rfl := sm1 hF
              exact r_done1 (.inl rfl) Tryz.results44 (.tmp rfl .nil) rfl rfl
            · have hF := cnd_f h35 hF
              refine r_opg (t_mv (.inl rfl)) ⟨rfl, trivial⟩ ?_
              refine r_opg (t_ln rfl tyS47) ⟨rfl, trivial⟩ ?_
              refine r_opg (t_ne rfl) ⟨rfl, k_I _ _, trivial⟩ ?_
              refine r_op (t_pickF rfl) ⟨rfl, rfl, trivial⟩ ?_
              refine r_nil (r_next (r_if rfl (fun h36 => ?_) (fun h36 => ?_)))
              · have hF := cnd_t h36 hF
                refine r_seq (r_reg (r_op (t_mv (.inr rfl)) ⟨k_B _, trivial⟩ ?_))
                refine r_nil (r_next (r_ret (r_toR ?_)))
                obtain rfl := sm1 hF
                exact r_done1 (.inl rfl) Tryz.results44 (.tmp rfl .nil) rfl rfl
              · have hF := cnd_f h36 hF
                refine r_skip (r_next (r_seq (r_reg ?_)))
                obtain ⟨v37, h38, hF⟩ := bnd hF
                refine r_op (t_call rfl (qc_gantryref05_Of h38) rfl) ⟨k_I _ _, k_I _ _, trivial⟩ ?_
                refine r_alloc rfl tyZ35q (fun b39 => ?_)
                refine r_op0 (t_s 0 rfl rfl rfl tyA35.s) ⟨rfl, rfl, trivial⟩ ?_
                refine r_nil (r_next (r_seq (r_reg ?_)))
                obtain ⟨v40, h41, hF⟩ := bnd hF
                refine r_op (t_call rfl (qc_gantryref05_Of h41) rfl) ⟨k_I _ _, k_I _ _, trivial⟩ ?_
                refine r_alloc rfl tyZ35q (fun b42 => ?_)
                refine r_op0 (t_s 0 rfl rfl rfl tyA35.s) ⟨rfl, rfl, trivial⟩ ?_
                refine r_nil (r_next (r_seq ?_))
                rcases Bool.eq_false_or_eq_true (v9.1 == 2) with h45 | h45
                · have hF := cnd_t h45 hF
                  obtain ⟨v46, h47, hF⟩ := bnd hF
                  obtain ⟨v48, h49, hF⟩ := bnd hF
                  rcases Bool.eq_false_or_eq_true v48 with h50 | h50
                  · have hF := cnd_t h50 hF
                    obtain ⟨v51, h52, hF⟩ := bnd hF
                    obtain ⟨v53, h54, hF⟩ := bnd hF
                    obtain ⟨v55, h56, hF⟩ := bnd hF
                    rcases Bool.eq_false_or_eq_true v55 with h57 | h57
                    · have hF := cnd_t h57 hF
                      obtain ⟨v58, h59, hF⟩ := bnd hF
                      obtain ⟨v60, h61, hF⟩ := bnd hF
                      refine r_draw [0, 1, 3, 7, 7, 23, 63, 127, 255, 511, 1023, 2047, 511, 4607, 16383, 32767, 65535, 131071, 131071, 524287, 1048575, 2097151] 22 0 [.v (.vc (pI .i64 v9.1)), .v (.vc (pB (v9.1 == 2))), .v (.vc (pB true)), .v (.vc (pS cQ v13.1)), .v (.vc (pS cI [(-2), 0, 1])), .v (.vc (pS cQ v46)), .v (.vc (pB v48)), .v (.vc (pB v48)), .v (.vc (pB true)), .v (.vc (pS (cSl cQ) v15.1)), .v (.vc (pM ((cSl cQ).e v51))), .v (.vc (pS cQ v51)), .v (.vc (pS cI [(-2), 1, 0])), .v (.vc (pS cQ v53)), .v (.vc (pB v55)), .v (.vc (pB v55)), .v (.vc (pB true)), .v (.va (eQ v25.1)), .v (.va (eQ v58)), .v (.vc (pB v60)), .v (.vc (pB v60)), .v (.vc (pB v60))] Tryz_mixed ⟨⟨rfl, .run (lo := 0) (n := 1) ⟨fun G43 A => t_mv (.inl rfl), trivial⟩ (fun G43 => ⟨rfl, trivial⟩)⟩, ⟨rfl, .run (lo := 0) (n := 1) ⟨fun G43 A => t_eq rfl, trivial⟩ (fun G43 => ⟨rfl, k_I _ _, trivial⟩)⟩, ⟨rfl, .run (lo := 0) (n := 1) ⟨fun G43 A => tr_bool (t_mv (.inl rfl)) h45, trivial⟩ (fun G43 => ⟨rfl, trivial⟩)⟩, ⟨rfl, .runG (lo := 0) (n := 1) ⟨fun G43 A => t_mv (.inl rfl), trivial⟩ (fun G43 => ⟨rfl, trivial⟩)⟩, ⟨rfl, .runG (lo := 0) (n := 1) ⟨fun G43 A => t_bs (C := cI) (xs := [.const (.int .i64 (-2)), .const (.int .i64 (0)), .const (.int .i64 (1))]) (ps := [.vc (pI .i64 (-2)), .vc (pI .i64 0), .vc (pI .i64 1)]) (zs := [(-2), 0, 1]) rfl tyS22 rfl ⟨⟨trivial, rfl⟩, ⟨trivial, rfl⟩, ⟨trivial, rfl⟩, trivial⟩ rfl, trivial⟩ (fun G43 => ⟨k_I _ _, k_I _ _, k_I _ _, trivial⟩)⟩, ⟨rfl, .runG (lo := 0) (n := 1) ⟨fun G43 A => t_call rfl (ct_gantrylaw09_whole h47) rfl, trivial⟩ (fun G43 => ⟨rfl, trivial⟩)⟩, ⟨rfl, .runG (lo := 0) (n := 1) ⟨fun G43 A => t_call rfl (ct_gantryref09_SameRow h49) rfl, trivial⟩ (fun G43 => ⟨rfl, rfl, trivial⟩)⟩, ⟨rfl, .run (lo := 0) (n := 1) ⟨fun G43 A => t_pickT rfl, trivial⟩ (fun G43 => ⟨rfl, rfl, trivial⟩)⟩, ⟨rfl, .run (lo := 0) (n := 1) ⟨fun G43 A => tr_bool (t_mv (.inl rfl)) h50, trivial⟩ (fun G43 => ⟨rfl, trivial⟩)⟩, ⟨rfl, .runG (lo := 0) (n := 1) ⟨fun G43 A => t_mv (.inl rfl), trivial⟩ (fun G43 => ⟨rfl, trivial⟩)⟩, ⟨rfl, .runG (lo := 0) (n := 1) ⟨fun G43 A => t_ix rfl tyS47 h52, trivial⟩ (fun G43 => ⟨rfl, k_I _ _, trivial⟩)⟩, ⟨rfl, .runG (lo := 0) (n := 1) ⟨fun G43 A => t_lM 1 rfl rfl (.one tyO24), trivial⟩ (fun G43 => ⟨rfl, trivial⟩)⟩, ⟨rfl, .runG (lo := 0) (n := 1) ⟨fun G43 A => t_bs (C := cI) (xs := [.const (.int .i64 (-2)), .const (.int .i64 (1)), .const (.int .i64 (0))]) (ps := [.vc (pI .i64 (-2)), .vc (pI .i64 1), .vc (pI .i64 0)]) (zs := [(-2), 1, 0]) rfl tyS22 rfl ⟨⟨trivial, rfl⟩, ⟨trivial, rfl⟩, ⟨trivial, rfl⟩, trivial⟩ rfl, trivial⟩ (fun G43 => ⟨k_I _ _, k_I _ _, k_I _ _, trivial⟩)⟩, ⟨rfl, .runG (lo := 0) (n := 1) ⟨fun G43 A => t_call rfl (ct_gantrylaw09_whole h54) rfl, trivial⟩ (fun G43 => ⟨rfl, trivial⟩)⟩, ⟨rfl, .runG (lo := 0) (n := 1) ⟨fun G43 A => t_call rfl (ct_gantryref09_SameRow h56) rfl, trivial⟩ (fun G43 => ⟨rfl, rfl, trivial⟩)⟩, ⟨rfl, .run (lo := 0) (n := 1) ⟨fun G43 A => t_pickT rfl, trivial⟩ (fun G43 => ⟨rfl, rfl, trivial⟩)⟩, ⟨rfl, .run (lo := 0) (n := 1) ⟨fun G43 A => tr_bool (t_mv (.inl rfl)) h57, trivial⟩ (fun G43 => ⟨rfl, trivial⟩)⟩, ⟨rfl, .runG (lo := 0) (n := 1) ⟨fun G43 A => t_l 2 4 rfl rfl rfl rfl (.agg tyA35), trivial⟩ (fun G43 => ⟨rfl, trivial⟩)⟩, ⟨rfl, .runG (lo := 0) (n := 1) ⟨fun G43 A => t_call rfl (qc_gantryref05_Of h59) rfl, trivial⟩ (fun G43 => ⟨k_I _ _, k_I _ _, trivial⟩)⟩, ⟨rfl, .runG (lo := 0) (n := 1) ⟨fun G43 A => t_call rfl (qc_rat_Same h61) rfl, trivial⟩ (fun G43 => ⟨rfl, rfl, trivial⟩)⟩, ⟨rfl, .run (lo := 0) (n := 1) ⟨fun G43 A => t_pickT rfl, trivial⟩ (fun G43 => ⟨rfl, rfl, trivial⟩)⟩, ⟨rfl, .run (lo := 0) (n := 1) ⟨fun G43 A => t_mv (.inr rfl), trivial⟩ (fun G43 => ⟨rfl, trivial⟩)⟩, trivial⟩ (fun bs44 G43 => ?_)
                      refine r_nil (r_next (r_seq (r_reg (r_mv ?_))))
                      refine r_mv ?_
                      refine r_bool (fun h62 => ?_) (fun h62 => ?_)
                      · have hF := cnd_t h62 hF
                        refine r_opg (t_mv (.inl rfl)) ⟨rfl, trivial⟩ ?_
                        refine r_opg (t_l 0 4 rfl rfl rfl rfl (.agg tyA35)) ⟨rfl, trivial⟩ ?_
                        refine r_opg (t_l 1 4 rfl rfl rfl rfl (.agg tyA35)) ⟨rfl, trivial⟩ ?_
                        refine r_opg (t_bs (C := cQ) (xs := [.tmp 119, .tmp 120]) (ps := [.va (eQ v40), .va (eQ v37)]) (zs := [v40, v37]) rfl tyS24 rfl ⟨⟨trivial, rfl⟩, ⟨trivial, rfl⟩, trivial⟩ rfl) ⟨rfl, rfl, trivial⟩ ?_
                        refine r_opg (t_l 1 4 rfl rfl rfl rfl (.agg tyA35)) ⟨rfl, trivial⟩ ?_
                        refine r_opg (t_l 0 4 rfl rfl rfl rfl (.agg tyA35)) ⟨rfl, trivial⟩ ?_
                        refine r_opg (t_bs (C := cQ) (xs := [.tmp 122, .tmp 123]) (ps := [.va (eQ v37), .va (eQ v40)]) (zs := [v37, v40]) rfl tyS24 rfl ⟨⟨trivial, rfl⟩, ⟨trivial, rfl⟩, trivial⟩ rfl) ⟨rfl, rfl, trivial⟩ ?_
                        refine r_opg (t_bs (C := (cSl cQ)) (xs := [.tmp 121, .tmp 124]) (ps := [.vc (pS cQ [v40, v37]), .vc (pS cQ [v37, v40])]) (zs := [[v40, v37], [v37, v40]]) rfl tyS47 rfl ⟨⟨trivial, rfl⟩, ⟨trivial, rfl⟩, trivial⟩ rfl) ⟨rfl, rfl, trivial⟩ ?_
                        obtain ⟨v63, h64, hF⟩ := bnd hF
                        refine r_opg (t_call rfl (ct_gantryref09_Same h64) rfl) ⟨rfl, rfl, trivial⟩ ?_
                        refine r_op (t_pickT rfl) ⟨rfl, rfl, trivial⟩ ?_
                        refine r_mv ?_
                        refine r_bool (fun h65 => ?_) (fun h65 => ?_)
                        · have hF := cnd_t h65 hF
                          refine r_opg (t_mv (.inl rfl)) ⟨rfl, trivial⟩ ?_
                          obtain ⟨v66, h67, hF⟩ := bnd hF
                          refine r_opg (t_call rfl (ct_matrix_Positive h67) rfl) ⟨rfl, trivial⟩ ?_
                          refine r_op (t_pickT rfl) ⟨rfl, rfl, trivial⟩ ?_
                          refine r_mv ?_
                          refine r_bool (fun h68 => ?_) (fun h68 => ?_)
                          · have hF := cnd_t h68 hF
                            refine r_opg (t_bs (C := cI) (xs := [.const (.int .i64 (1)), .const (.int .i64 (2))]) (ps := [.vc (pI .i64 1), .vc (pI .i64 2)]) (zs := [1, 2]) rfl tyS22 rfl ⟨⟨trivial, rfl⟩, ⟨trivial, rfl⟩, trivial⟩ rfl) ⟨k_I _ _, k_I _ _, trivial⟩ ?_
                            obtain ⟨v69, h70, hF⟩ := bnd hF
                            refine r_opg (t_call rfl (ct_gantrylaw09_whole h70) rfl) ⟨rfl, trivial⟩ ?_
                            refine r_opg (t_bs (C := cI) (xs := [.const (.int .i64 (2)), .const (.int .i64 (1))]) (ps := [.vc (pI .i64 2), .vc (pI .i64 1)]) (zs := [2, 1]) rfl tyS22 rfl ⟨⟨trivial, rfl⟩, ⟨trivial, rfl⟩, trivial⟩ rfl) ⟨k_I _ _, k_I _ _, trivial⟩ ?_
                            obtain ⟨v71, h72, hF⟩ := bnd hF
                            refine r_opg (t_call rfl (ct_gantrylaw09_whole h72) rfl) ⟨rfl, trivial⟩ ?_
                            refine r_opg (t_bs (C := (cSl cQ)) (xs := [.tmp 134, .tmp 136]) (ps := [.vc (pS cQ v69), .vc (pS cQ v71)]) (zs := [v69, v71]) rfl tyS47 rfl ⟨⟨trivial, rfl⟩, ⟨trivial, rfl⟩, trivial⟩ rfl) ⟨rfl, rfl, trivial⟩ ?_
                            obtain ⟨v73, h74, hF⟩ := bnd hF
                            refine r_opg (t_call rfl (ct_matrix_Positive h74) rfl) ⟨rfl, trivial⟩ ?_
                            refine r_opg (t_not rfl) ⟨rfl, trivial⟩ ?_
                            refine r_op (t_pickT rfl) ⟨rfl, rfl, trivial⟩ ?_
                            refine r_as ?_
                            refine r_nil (r_next (r_ret (r_toR ?_)))
                            obtain rfl := sm1 hF
                            exact r_done1 (.inl rfl) Tryz.results44 (.tmp rfl .nil) rfl rfl
                          · have hF := cnd_f h68 hF
                            refine r_opn ?_
                            refine r_opn ?_
                            refine r_opn ?_
                            refine r_opn ?_
                            refine r_opn ?_
                            refine r_opn ?_
                            refine r_opn ?_
                            refine r_op (t_pickF rfl) ⟨rfl, k_B _, trivial⟩ ?_
                            refine r_as ?_
                            refine r_nil (r_next (r_ret (r_toR ?_)))
                            obtain rfl := sm1 hF
                            exact r_done1 (.inl rfl) Tryz.results44 (.tmp rfl .nil) rfl rfl
                        · have hF := cnd_f h65 hF
                          refine r_opn ?_
                          refine r_opn ?_
                          refine r_op (t_pickF rfl) ⟨rfl, k_B _, trivial⟩ ?_
                          refine r_mv ?_
                          refine r_opn ?_
                          refine r_opn ?_
                          refine r_opn ?_
                          refine r_opn ?_
                          refine r_opn ?_
                          refine r_opn ?_
                          refine r_opn ?_
                          refine r_op (t_pickF rfl) ⟨rfl, k_B _, trivial⟩ ?_
                          refine r_as ?_
                          refine r_nil (r_next (r_ret (r_toR ?_)))
                          obtain rfl := sm1 hF
                          exact r_done1 (.inl rfl) Tryz.results44 (.tmp rfl .nil) rfl rfl
                      · have hF := cnd_f h62 hF
                        refine r_opn ?_
                        refine r_opn ?_
                        refine r_opn ?_
                        refine r_opn ?_
                        refine r_opn ?_
                        refine r_opn ?_
                        refine r_opn ?_
                        refine r_opn ?_
                        refine r_opn ?_
                        refine r_op (t_pickF rfl) ⟨rfl, k_B _, trivial⟩ ?_
                        refine r_mv ?_
                        refine r_opn ?_
                        refine r_opn ?_
                        refine r_op (t_pickF rfl) ⟨rfl, k_B _, trivial⟩ ?_
                        refine r_mv ?_
                        refine r_opn ?_
                        refine r_opn ?_
                        refine r_opn ?_
                        refine r_opn ?_
                        refine r_opn ?_
                        refine r_opn ?_
                        refine r_opn ?_
                        refine r_op (t_pickF rfl) ⟨rfl, k_B _, trivial⟩ ?_
                        refine r_as ?_
                        refine r_nil (r_next (r_ret (r_toR ?_)))
                        obtain rfl := sm1 hF
                        exact r_done1 (.inl rfl) Tryz.results44 (.tmp rfl .nil) rfl rfl
                    · have hF := cnd_f h57 hF
                      refine r_draw [0, 1, 3, 7, 7, 23, 63, 127, 255, 511, 1023, 2047, 511, 4607, 16383, 32767, 65535, 131071, 131071, 524287, 1048575, 2097151] 22 0 [.v (.vc (pI .i64 v9.1)), .v (.vc (pB (v9.1 == 2))), .v (.vc (pB true)), .v (.vc (pS cQ v13.1)), .v (.vc (pS cI [(-2), 0, 1])), .v (.vc (pS cQ v46)), .v (.vc (pB v48)), .v (.vc (pB v48)), .v (.vc (pB true)), .v (.vc (pS (cSl cQ) v15.1)), .v (.vc (pM ((cSl cQ).e v51))), .v (.vc (pS cQ v51)), .v (.vc (pS cI [(-2), 1, 0])), .v (.vc (pS cQ v53)), .v (.vc (pB v55)), .v (.vc (pB v55)), .v (.vc (pB false)), .v .any, .v .any, .v .any, .v (.vc (pB false)), .v (.vc (pB false))] Tryz_mixed ⟨⟨rfl, .run (lo := 0) (n := 1) ⟨fun G43 A => t_mv (.inl rfl), trivial⟩ (fun G43 => ⟨rfl, trivial⟩)⟩, ⟨rfl, .run (lo := 0) (n := 1) ⟨fun G43 A => t_eq rfl, trivial⟩ (fun G43 => ⟨rfl, k_I _ _, trivial⟩)⟩, ⟨rfl, .run (lo := 0) (n := 1) ⟨fun G43 A => tr_bool (t_mv (.inl rfl)) h45, trivial⟩ (fun G43 => ⟨rfl, trivial⟩)⟩, ⟨rfl, .runG (lo := 0) (n := 1) ⟨fun G43 A => t_mv (.inl rfl), trivial⟩ (fun G43 => ⟨rfl, trivial⟩)⟩, ⟨rfl, .runG (lo := 0) (n := 1) ⟨fun G43 A => t_bs (C := cI) (xs := [.const (.int .i64 (-2)), .const (.int .i64 (0)), .const (.int .i64 (1))]) (ps := [.vc (pI .i64 (-2)), .vc (pI .i64 0), .vc (pI .i64 1)]) (zs := [(-2), 0, 1]) rfl tyS22 rfl ⟨⟨trivial, rfl⟩, ⟨trivial, rfl⟩, ⟨trivial, rfl⟩, trivial⟩ rfl, trivial⟩ (fun G43 => ⟨k_I _ _, k_I _ _, k_I _ _, trivial⟩)⟩, ⟨rfl, .runG (lo := 0) (n := 1) ⟨fun G43 A => t_call rfl (ct_gantrylaw09_whole h47) rfl, trivial⟩ (fun G43 => ⟨rfl, trivial⟩)⟩, ⟨rfl, .runG (lo := 0) (n := 1) ⟨fun G43 A => t_call rfl (ct_gantryref09_SameRow h49) rfl, trivial⟩ (fun G43 => ⟨rfl, rfl, trivial⟩)⟩, ⟨rfl, .run (lo := 0) (n := 1) ⟨fun G43 A => t_pickT rfl, trivial⟩ (fun G43 => ⟨rfl, rfl, trivial⟩)⟩, ⟨rfl, .run (lo := 0) (n := 1) ⟨fun G43 A => tr_bool (t_mv (.inl rfl)) h50, trivial⟩ (fun G43 => ⟨rfl, trivial⟩)⟩, ⟨rfl, .runG (lo := 0) (n := 1) ⟨fun G43 A => t_mv (.inl rfl), trivial⟩ (fun G43 => ⟨rfl, trivial⟩)⟩, ⟨rfl, .runG (lo := 0) (n := 1) ⟨fun G43 A => t_ix rfl tyS47 h52, trivial⟩ (fun G43 => ⟨rfl, k_I _ _, trivial⟩)⟩, ⟨rfl, .runG (lo := 0) (n := 1) ⟨fun G43 A => t_lM 1 rfl rfl (.one tyO24), trivial⟩ (fun G43 => ⟨rfl, trivial⟩)⟩, ⟨rfl, .runG (lo := 0) (n := 1) ⟨fun G43 A => t_bs (C := cI) (xs := [.const (.int .i64 (-2)), .const (.int .i64 (1)), .const (.int .i64 (0))]) (ps := [.vc (pI .i64 (-2)), .vc (pI .i64 1), .vc (pI .i64 0)]) (zs := [(-2), 1, 0]) rfl tyS22 rfl ⟨⟨trivial, rfl⟩, ⟨trivial, rfl⟩, ⟨trivial, rfl⟩, trivial⟩ rfl, trivial⟩ (fun G43 => ⟨k_I _ _, k_I _ _, k_I _ _, trivial⟩)⟩, ⟨rfl, .runG (lo := 0) (n := 1) ⟨fun G43 A => t_call rfl (ct_gantrylaw09_whole h54) rfl, trivial⟩ (fun G43 => ⟨rfl, trivial⟩)⟩, ⟨rfl, .runG (lo := 0) (n := 1) ⟨fun G43 A => t_call rfl (ct_gantryref09_SameRow h56) rfl, trivial⟩ (fun G43 => ⟨rfl, rfl, trivial⟩)⟩, ⟨rfl, .run (lo := 0) (n := 1) ⟨fun G43 A => t_pickT rfl, trivial⟩ (fun G43 => ⟨rfl, rfl, trivial⟩)⟩, ⟨rfl, .run (lo := 0) (n := 1) ⟨fun G43 A => tr_bool (t_mv (.inl rfl)) h57, trivial⟩ (fun G43 => ⟨rfl, trivial⟩)⟩, ⟨rfl, .skip⟩, ⟨rfl, .skip⟩, ⟨rfl, .skip⟩, ⟨rfl, .run (lo := 0) (n := 1) ⟨fun G43 A => t_pickF rfl, trivial⟩ (fun G43 => ⟨rfl, k_B _, trivial⟩)⟩, ⟨rfl, .run (lo := 0) (n := 1) ⟨fun G43 A => t_mv (.inr rfl), trivial⟩ (fun G43 => ⟨rfl, trivial⟩)⟩, trivial⟩ (fun bs44 G43 => ?_)
                      refine r_nil (r_next (r_seq (r_reg (r_mv ?_))))
                      refine r_mv ?_
                      refine r_opn ?_
                      refine r_opn ?_
                      refine r_opn ?_
                      refine r_opn ?_
                      refine r_opn ?_
                      refine r_opn ?_
                      refine r_opn ?_
                      refine r_opn ?_
                      refine r_opn ?_
                      refine r_op (t_pickF rfl) ⟨rfl, k_B _, trivial⟩ ?_
                      refine r_mv ?_
                      refine r_opn ?_
                      refine r_opn ?_
                      refine r_op (t_pickF rfl) ⟨rfl, k_B _, trivial⟩ ?_
                      refine r_mv ?_
                      refine r_opn ?_
                      refine r_opn ?_
                      refine r_opn ?_
                      refine r_opn ?_
                      refine r_opn ?_
                      refine r_opn ?_
                      refine r_opn ?_
                      refine r_op (t_pickF rfl) ⟨rfl, k_B _, trivial⟩ ?_
                      refine r_as ?_
                      refine r_nil (r_next (r_ret (r_toR ?_)))
                      obtain rfl := sm1 hF
                      exact r_done1 (.inl rfl) Tryz.results44 (.tmp rfl .nil) rfl rfl
                  · have hF := cnd_f h50 hF
                    refine r_draw [0, 1, 3, 7, 7, 23, 63, 127, 255, 511, 1023, 2047, 511, 4607, 16383, 32767, 65535, 131071, 131071, 524287, 1048575, 2097151] 22 0 [.v (.vc (pI .i64 v9.1)), .v (.vc (pB (v9.1 == 2))), .v (.vc (pB true)), .v (.vc (pS cQ v13.1)), .v (.vc (pS cI [(-2), 0, 1])), .v (.vc (pS cQ v46)), .v (.vc (pB v48)), .v (.vc (pB v48)), .v (.vc (pB false)), .v .any, .v .any, .v .any, .v .any, .v .any, .v .any, .v (.vc (pB false)), .v (.vc (pB false)), .v .any, .v .any, .v .any, .v (.vc (pB false)), .v (.vc (pB false))] Tryz_mixed ⟨⟨rfl, .run (lo := 0) (n := 1) ⟨fun G43 A => t_mv (.inl rfl), trivial⟩ (fun G43 => ⟨rfl, trivial⟩)⟩, ⟨rfl, .run (lo := 0) (n := 1) ⟨fun G43 A => t_eq rfl, trivial⟩ (fun G43 => ⟨rfl, k_I _ _, trivial⟩)⟩, ⟨rfl, .run (lo := 0) (n := 1) ⟨fun G43 A => tr_bool (t_mv (.inl rfl)) h45, trivial⟩ (fun G43 => ⟨rfl, trivial⟩)⟩, ⟨rfl, .runG (lo := 0) (n := 1) ⟨fun G43 A => t_mv (.inl rfl), trivial⟩ (fun G43 => ⟨rfl, trivial⟩)⟩, ⟨rfl, .runG (lo := 0) (n := 1) ⟨fun G43 A => t_bs (C := cI) (xs := [.const (.int .i64 (-2)), .const (.int .i64 (0)), .const (.int .i64 (1))]) (ps := [.vc (pI .i64 (-2)), .vc (pI .i64 0), .vc (pI .i64 1)]) (zs := [(-2), 0, 1]) rfl tyS22 rfl ⟨⟨trivial, rfl⟩, ⟨trivial, rfl⟩, ⟨trivial, rfl⟩, trivial⟩ rfl, trivial⟩ (fun G43 => ⟨k_I _ _, k_I _ _, k_I _ _, trivial⟩)⟩, ⟨rfl, .runG (lo := 0) (n := 1) ⟨fun G43 A => t_call rfl (ct_gantrylaw09_whole h47) rfl, trivial⟩ (fun G43 => ⟨rfl, trivial⟩)⟩, ⟨rfl, .runG (lo := 0) (n := 1) ⟨fun G43 A => t_call rfl (ct_gantryref09_SameRow h49) rfl, trivial⟩ (fun G43 => ⟨rfl, rfl, trivial⟩)⟩, ⟨rfl, .run (lo := 0) (n := 1) ⟨fun G43 A => t_pickT rfl, trivial⟩ (fun G43 => ⟨rfl, rfl, trivial⟩)⟩, ⟨rfl, .run (lo := 0) (n := 1) ⟨fun G43 A => tr_bool (t_mv (.inl rfl)) h50, trivial⟩ (fun G43 => ⟨rfl, trivial⟩)⟩, ⟨rfl, .skip⟩, ⟨rfl, .skip⟩, ⟨rfl, .skip⟩, ⟨rfl, .skip⟩, ⟨rfl, .skip⟩, ⟨rfl, .skip⟩, ⟨rfl, .run (lo := 0) (n := 1) ⟨fun G43 A => t_pickF rfl, trivial⟩ (fun G43 => ⟨rfl, k_B _, trivial⟩)⟩, ⟨rfl, .run (lo := 0) (n := 1) ⟨fun G43 A => t_mv (.inl rfl), trivial⟩ (fun G43 => ⟨rfl, trivial⟩)⟩, ⟨rfl, .skip⟩, ⟨rfl, .skip⟩, ⟨rfl, .skip⟩, ⟨rfl, .run (lo := 0) (n := 1) ⟨fun G43 A => t_pickF rfl, trivial⟩ (fun G43 => ⟨rfl, k_B _, trivial⟩)⟩, ⟨rfl, .run (lo := 0) (n := 1) ⟨fun G43 A => t_mv (.inr rfl), trivial⟩ (fun G43 => ⟨rfl, trivial⟩)⟩, trivial⟩ (fun bs44 G43 => ?_)
                    refine r_nil (r_next (r_seq (r_reg (r_mv ?_))))
                    refine r_mv ?_
                    refine r_opn ?_
                    refine r_opn ?_
                    refine r_opn ?_
                    refine r_opn ?_
                    refine r_opn ?_
                    refine r_opn ?_
                    refine r_opn ?_
                    refine r_opn ?_
                    refine r_opn ?_
                    refine r_op (t_pickF rfl) ⟨rfl, k_B _, trivial⟩ ?_
                    refine r_mv ?_
                    refine r_opn ?_
                    refine r_opn ?_
                    refine r_op (t_pickF rfl) ⟨rfl, k_B _, trivial⟩ ?_
                    refine r_mv ?_
                    refine r_opn ?_
                    refine r_opn ?_
                    refine r_opn ?_
                    refine r_opn ?_
                    refine r_opn ?_
                    refine r_opn ?_
                    refine r_opn ?_
                    refine r_op (t_pickF rfl) ⟨rfl, k_B _, trivial⟩ ?_
                    refine r_as ?_
                    refine r_nil (r_next (r_ret (r_toR ?_)))
                    obtain rfl := sm1 hF
                    exact r_done1 (.inl rfl) Tryz.results44 (.tmp rfl .nil) rfl rfl
                · have hF := cnd_f h45 hF
                  refine r_draw [0, 1, 3, 7, 7, 23, 63, 127, 255, 511, 1023, 2047, 511, 4607, 16383, 32767, 65535, 131071, 131071, 524287, 1048575, 2097151] 22 0 [.v (.vc (pI .i64 v9.1)), .v (.vc (pB (v9.1 == 2))), .v (.vc (pB false)), .v .any, .v .any, .v .any, .v .any, .v (.vc (pB false)), .v (.vc (pB false)), .v .any, .v .any, .v .any, .v .any, .v .any, .v .any, .v (.vc (pB false)), .v (.vc (pB false)), .v .any, .v .any, .v .any, .v (.vc (pB false)), .v (.vc (pB false))] Tryz_mixed ⟨⟨rfl, .run (lo := 0) (n := 1) ⟨fun G43 A => t_mv (.inl rfl), trivial⟩ (fun G43 => ⟨rfl, trivial⟩)⟩, ⟨rfl, .run (lo := 0) (n := 1) ⟨fun G43 A => t_eq rfl, trivial⟩ (fun G43 => ⟨rfl, k_I _ _, trivial⟩)⟩, ⟨rfl, .run (lo := 0) (n := 1) ⟨fun G43 A => tr_bool (t_mv (.inl rfl)) h45, trivial⟩ (fun G43 => ⟨rfl, trivial⟩)⟩, ⟨rfl, .skip⟩, ⟨rfl, .skip⟩, ⟨rfl, .skip⟩, ⟨rfl, .skip⟩, ⟨rfl, .run (lo := 0) (n := 1) ⟨fun G43 A => t_pickF rfl, trivial⟩ (fun G43 => ⟨rfl, k_B _, trivial⟩)⟩, ⟨rfl, .run (lo := 0) (n := 1) ⟨fun G43 A => t_mv (.inl rfl), trivial⟩ (fun G43 => ⟨rfl, trivial⟩)⟩, ⟨rfl, .skip⟩, ⟨rfl, .skip⟩, ⟨rfl, .skip⟩, ⟨rfl, .skip⟩, ⟨rfl, .skip⟩, ⟨rfl, .skip⟩, ⟨rfl, .run (lo := 0) (n := 1) ⟨fun G43 A => t_pickF rfl, trivial⟩ (fun G43 => ⟨rfl, k_B _, trivial⟩)⟩, ⟨rfl, .run (lo := 0) (n := 1) ⟨fun G43 A => t_mv (.inl rfl), trivial⟩ (fun G43 => ⟨rfl, trivial⟩)⟩, ⟨rfl, .skip⟩, ⟨rfl, .skip⟩, ⟨rfl, .skip⟩, ⟨rfl, .run (lo := 0) (n := 1) ⟨fun G43 A => t_pickF rfl, trivial⟩ (fun G43 => ⟨rfl, k_B _, trivial⟩)⟩, ⟨rfl, .run (lo := 0) (n := 1) ⟨fun G43 A => t_mv (.inr rfl), trivial⟩ (fun G43 => ⟨rfl, trivial⟩)⟩, trivial⟩ (fun bs44 G43 => ?_)
                  refine r_nil (r_next (r_seq (r_reg (r_mv ?_))))
                  refine r_mv ?_
                  refine r_opn ?_
                  refine r_opn ?_
                  refine r_opn ?_
                  refine r_opn ?_
                  refine r_opn ?_
                  refine r_opn ?_
                  refine r_opn ?_
                  refine r_opn ?_
                  refine r_opn ?_
                  refine r_op (t_pickF rfl) ⟨rfl, k_B _, trivial⟩ ?_
                  refine r_mv ?_
                  refine r_opn ?_
                  refine r_opn ?_
                  refine r_op (t_pickF rfl) ⟨rfl, k_B _, trivial⟩ ?_
                  refine r_mv ?_
                  refine r_opn ?_
                  refine r_opn ?_
                  refine r_opn ?_
                  refine r_opn ?_
                  refine r_opn ?_
                  refine r_opn ?_
                  refine r_opn ?_
                  refine r_op (t_pickF rfl) ⟨rfl, k_B _, trivial⟩ ?_
                  refine r_as ?_
                  refine r_nil (r_next (r_ret (r_toR ?_)))
                  obtain rfl := sm1 hF
                  exact r_done1 (.inl rfl) Tryz.results44 (.tmp rfl .nil) rfl rfl
def F_gantryref05_Dot_j9 (K : Nat) (x7 : Rat) : Option Rat :=
  some x7
def F_gantryref05_Dot_l8 (K : Nat) (a0 : List Rat) (a1 : List Rat) : Nat → Rat → Int → Option Rat
  | 0, _, _ => none
  | k + 1, x5, x6 => bif (decide (x6 < (a0.length : Int))) then (bif (decide (x6 < (a1.length : Int))) then ((rdL a0 x6).bind fun v14 => (rdL a1 x6).bind fun v16 => (qmul v14 v16).bind fun v18 => (qadd x5 v18).bind fun v20 => (chk (x6 + 1)).bind fun v22 => F_gantryref05_Dot_l8 K a0 a1 k v20 v22) else (some x5)) else (some x5)
def F_gantryref05_Dot (K : Nat) (a0 : List Rat) (a1 : List Rat) : Option Rat :=
  (F_gantryref05_Dot_l8 K a0 a1 K 0 0).bind fun x7 => F_gantryref05_Dot_j9 K x7
set_option maxRecDepth 100000 in
theorem ct_gantryref05_Dot {K : Nat} {a0 : List Rat} {a1 : List Rat} {r : Rat} (hF : F_gantryref05_Dot K a0 a1 = some r) : Ct Tryz.prog 107 [.vc (pS cQ a0), .vc (pS cQ a1)] (.va (eQ r)) := by
  unfold F_gantryref05_Dot at hF
  refine ctO_intro Tryz.func107 rfl (by kernel_rfl) Tryz.ntmps107 rfl (fun w0 M0 => ?_)
  refine r_seq (r_reg (r_alloc rfl tyZ35q (fun b1 => ?_)))
  refine r_nil (r_next (r_seq (r_reg (r_alloc rfl tyZ35q (fun b2 => ?_)))))
  refine r_nil (r_next (r_seq (r_seq (r_reg (r_op (t_mv (.inr rfl)) ⟨k_I _ _, trivial⟩ ?_)))))
  refine r_nil (r_next (r_blk (r_cutN (fun H E => ∃ (x7 : Rat), F_gantryref05_Dot_j9 K x7 = some r ∧ H = [⟨some b2, 1, 35, 4, 1, (eQ x7)⟩, ⟨some b1, 1, 35, 4, 1, (eQ 0)⟩] ∧ E = [(4, .vc (pP (some b1) 0)), (5, .vc (pP (some b2) 0))]) ?_ (fun Jj9 => ?_))))
  · rintro _ _ ⟨x7, hF, rfl, rfl⟩
    unfold F_gantryref05_Dot_j9 at hF
    refine r_next (r_seq (r_reg (r_op (t_l 0 4 rfl rfl rfl rfl (.agg tyA35)) ⟨rfl, trivial⟩ ?_)))
    refine r_op0 (t_s 1 rfl rfl rfl tyA35.s) ⟨rfl, rfl, trivial⟩ ?_
    refine r_nil (r_next (r_ret (r_toR ?_)))
    obtain rfl := sm1 hF
    exact r_done1 (.inl rfl) Tryz.results107 (rv_cell 1 4 rfl rfl rfl rfl (.agg tyA35) .nil) rfl rfl
  · skip
    obtain ⟨x7', hL, hRl8⟩ := bnd hF
    refine r_lp (fun k a w => ∃ (x5 : Rat), ∃ (x6 : Int), F_gantryref05_Dot_l8 K a0 a1 k x5 x6 = some x7' ∧ hs _ [⟨some b2, 1, 35, 4, 1, (eQ x5)⟩, ⟨some b1, 1, 35, 4, 1, (eQ 0)⟩] [(0, .vc (pS cQ a0)), (1, .vc (pS cQ a1)), (4, .vc (pP (some b1) 0)), (5, .vc (pP (some b2) 0)), (6, .vc (pI .i64 x6))] a w) K (fun a w ⟨_, _, hF, _⟩ => by cases hF) (fun k a w ⟨x5, x6, hF, hh⟩ => r_at ?_ hh) (fun a w hh => ⟨0, 0, hL, hs_back [0, 1] rfl (by decide) (by exact ⟨rfl, rfl, rfl, rfl, rfl, trivial⟩) hh⟩)
    rw [F_gantryref05_Dot_l8.eq_2] at hF
    refine r_seq (r_seq (r_reg (r_mv ?_)))
    refine r_mv ?_
    refine r_op (t_ln rfl tyS24) ⟨rfl, trivial⟩ ?_
    refine r_op (t_lt rfl) ⟨rfl, rfl, trivial⟩ ?_
    refine r_mv ?_
    refine r_bool (fun h10 => ?_) (fun h10 => ?_)
    · have hF := cnd_t h10 hF
      refine r_opg (t_mv (.inl rfl)) ⟨rfl, trivial⟩ ?_
      refine r_opg (t_mv (.inl rfl)) ⟨rfl, trivial⟩ ?_
      refine r_opg (t_ln rfl tyS24) ⟨rfl, trivial⟩ ?_
      refine r_opg (t_lt rfl) ⟨rfl, rfl, trivial⟩ ?_
      refine r_op (t_pickT rfl) ⟨rfl, rfl, trivial⟩ ?_
      refine r_nil (r_next (r_if rfl (fun h11 => ?_) (fun h11 => ?_)))
      · have hF := cnd_t h11 hF
        refine r_skip (r_next (r_seq (r_blk ?_)))
        obtain ⟨v14, h15, hF⟩ := bnd hF
        obtain ⟨v16, h17, hF⟩ := bnd hF
        obtain ⟨v18, h19, hF⟩ := bnd hF
        obtain ⟨v20, h21, hF⟩ := bnd hF
        refine r_draw [0, 0, 0, 6, 14, 0, 0, 96, 224, 510, 1023, 2047] 11 1 [.v (.va (eQ x5)), .v (.vc (pS cQ a0)), .v (.vc (pI .i64 x6)), .v (.vc (pM (cQ.e v14))), .v (.va (eQ v14)), .v (.vc (pS cQ a1)), .v (.vc (pI .i64 x6)), .v (.vc (pM (cQ.e v16))), .v (.va (eQ v16)), .v (.va (eQ v18)), .v (.va (eQ v20))] Tryz_mixed ⟨⟨rfl, .run (lo := 0) (n := 1) ⟨fun G12 A => t_l 0 4 rfl rfl rfl rfl (.agg tyA35), trivial⟩ (fun G12 => ⟨rfl, trivial⟩)⟩, ⟨rfl, .run (lo := 0) (n := 1) ⟨fun G12 A => t_mv (.inl rfl), trivial⟩ (fun G12 => ⟨rfl, trivial⟩)⟩, ⟨rfl, .run (lo := 0) (n := 1) ⟨fun G12 A => t_mv (.inl rfl), trivial⟩ (fun G12 => ⟨rfl, trivial⟩)⟩, ⟨rfl, .run (lo := 0) (n := 1) ⟨fun G12 A => t_ix rfl tyS24 h15, trivial⟩ (fun G12 => ⟨rfl, rfl, trivial⟩)⟩, ⟨rfl, .run (lo := 0) (n := 1) ⟨fun G12 A => t_lM 4 rfl rfl (.agg tyA35), trivial⟩ (fun G12 => ⟨rfl, trivial⟩)⟩, ⟨rfl, .run (lo := 0) (n := 1) ⟨fun G12 A => t_mv (.inl rfl), trivial⟩ (fun G12 => ⟨rfl, trivial⟩)⟩, ⟨rfl, .run (lo := 0) (n := 1) ⟨fun G12 A => t_mv (.inl rfl), trivial⟩ (fun G12 => ⟨rfl, trivial⟩)⟩, ⟨rfl, .run (lo := 0) (n := 1) ⟨fun G12 A => t_ix rfl tyS24 h17, trivial⟩ (fun G12 => ⟨rfl, rfl, trivial⟩)⟩, ⟨rfl, .run (lo := 0) (n := 1) ⟨fun G12 A => t_lM 4 rfl rfl (.agg tyA35), trivial⟩ (fun G12 => ⟨rfl, trivial⟩)⟩, ⟨rfl, .run (lo := 0) (n := 1) ⟨fun G12 A => t_call rfl (qc_gantryref05_Mul h19) rfl, trivial⟩ (fun G12 => ⟨rfl, rfl, trivial⟩)⟩, ⟨rfl, .run (lo := 0) (n := 1) ⟨fun G12 A => t_call rfl (qc_gantryref05_Add h21) rfl, trivial⟩ (fun G12 => ⟨rfl, rfl, trivial⟩)⟩, trivial⟩ (fun bs13 G12 => ?_)
        refine r_op0 (t_s 0 rfl rfl rfl tyA35.s) ⟨rfl, rfl, trivial⟩ ?_
        refine r_nil (r_blkN (r_next (r_reg (r_mv ?_))))
        obtain ⟨v22, h23, hF⟩ := bnd hF
        refine r_op (t_add rfl h23) ⟨rfl, k_I _ _, trivial⟩ ?_
        refine r_as ?_
        refine r_nil ?_
        exact r_round (fun a w hh => ⟨v20, v22, hF, hs_back [0, 1] rfl (by decide) (by exact ⟨rfl, rfl, rfl, rfl, rfl, trivial⟩) hh⟩)
      · have hF := cnd_f h11 hF
        refine r_brk ?_
        obtain rfl := sm1 hF
        exact r_backJ Jj9 ⟨x5, hRl8, rfl, rfl⟩ [0, 1] rfl ⟨rfl, rfl, trivial⟩
    · have hF := cnd_f h10 hF
      refine r_opn ?_
      refine r_opn ?_
      refine r_opn ?_
      refine r_opn ?_
      refine r_op (t_pickF rfl) ⟨rfl, k_B _, trivial⟩ ?_
      refine r_nil (r_next (r_ifF rfl ?_))
      refine r_brk ?_
      obtain rfl := sm1 hF
      exact r_backJ Jj9 ⟨x5, hRl8, rfl, rfl⟩ [0, 1] rfl ⟨rfl, rfl, trivial⟩
def F_gantryref09_Apply_j24 (K : Nat) (x17 : List Rat) : Option (List Rat) :=
  some x17
def F_gantryref09_Apply_l23 (K : Nat) (a0 : List (List Rat)) (a1 : List Rat) : Nat → (List Rat) → Int → Option (List Rat)
  | 0, _, _ => none
  | k + 1, x10, x16 => bif (decide (x16 < (a0.length : Int))) then ((rdL a0 x16).bind fun v26 => (F_gantryref05_Dot K v26 a1).bind fun v28 => (apL x10 [v28]).bind fun x30 => (chk (x16 + 1)).bind fun v37 => F_gantryref09_Apply_l23 K a0 a1 k x30 v37) else (some x10)
def F_gantryref09_Apply (K : Nat) (a0 : List (List Rat)) (a1 : List Rat) : Option (List Rat) :=
  (F_gantryref09_Apply_l23 K a0 a1 K ([] : List Rat) 0).bind fun x17 => F_gantryref09_Apply_j24 K x17
set_option maxRecDepth 100000 in
theorem ct_gantryref09_Apply {K : Nat} {a0 : List (List Rat)} {a1 : List Rat} {r : List Rat} (hF : F_gantryref09_Apply K a0 a1 = some r) : Ct Tryz.prog 47 [.vc (pS (cSl cQ) a0), .vc (pS cQ a1)] (.vc (pS cQ r)) := by
  unfold F_gantryref09_Apply at hF
  refine ctO_intro Tryz.func47 rfl (by kernel_rfl) Tryz.ntmps47 rfl (fun w0 M0 => ?_)
  refine r_seq (r_reg (r_op (t_mv (.inr rfl)) ⟨k_nil cQ, trivial⟩ ?_))
  refine r_nil (r_next (r_seq (r_reg (r_nilO cQ 35 rfl ?_))))
  refine r_nil (r_next (r_seq (r_seq (r_reg (r_op (t_mv (.inr rfl)) ⟨k_I _ _, trivial⟩ ?_)))))
  refine r_nil (r_next (r_blk (r_cutN (fun H E => ∃ (x17 : List Rat), ∃ (b18 : Option Nat), ∃ (c19 : Nat), ∃ (n20 : Nat), F_gantryref09_Apply_j24 K x17 = some r ∧ x17.length = n20 ∧ H = [hO cQ b18 c19 35 n20 x17] ∧ E = [(5, .vc (pO b18 n20 c19))]) ?_ (fun Jj24 => ?_))))
  · rintro _ _ ⟨x17, b18, c19, n20, hF, q21, rfl, rfl⟩
    unfold F_gantryref09_Apply_j24 at hF
    refine r_next (r_seq (r_reg (r_mv ?_)))
    refine r_as ?_
    refine r_nil (r_next (r_ret (r_toR (r_fzX 0 [4, 5, 22] rfl q21 ⟨rfl, rfl, rfl, trivial⟩ rfl ?_))))
    obtain rfl := sm1 hF
    exact r_done1 (.inl rfl) Tryz.results47 (.tmp rfl .nil) rfl rfl
  · skip
    obtain ⟨x17', hL, hRl23⟩ := bnd hF
    refine r_lp (fun k a w => ∃ (x10 : List Rat), ∃ (x16 : Int), ∃ (b11 : Option Nat), ∃ (c12 : Nat), ∃ (n13 : Nat), F_gantryref09_Apply_l23 K a0 a1 k x10 x16 = some x17' ∧ x10.length = n13 ∧ hs _ [hO cQ b11 c12 35 n13 x10] [(0, .vc (pS (cSl cQ) a0)), (1, .vc (pS cQ a1)), (5, .vc (pO b11 n13 c12)), (6, .vc (pI .i64 x16))] a w) K (fun a w ⟨_, _, _, _, _, hF, _, _⟩ => by cases hF) (fun k a w ⟨x10, x16, b11, c12, n13, hF, q14, hh⟩ => r_at ?_ hh) (fun a w hh => ⟨([] : List Rat), 0, none, 0, 0, hL, rfl, hs_back [0] rfl (by decide) (by exact ⟨rfl, rfl, rfl, rfl, trivial⟩) hh⟩)
    rw [F_gantryref09_Apply_l23.eq_2] at hF
    refine r_seq (r_seq (r_reg (r_mv ?_)))
    refine r_mv ?_
    refine r_op (t_ln rfl tyS47) ⟨rfl, trivial⟩ ?_
    refine r_op (t_lt rfl) ⟨rfl, rfl, trivial⟩ ?_
    refine r_nil (r_next (r_if rfl (fun h25 => ?_) (fun h25 => ?_)))
    · have hF := cnd_t h25 hF
      refine r_skip (r_next (r_seq (r_blk (r_reg (r_mv ?_)))))
      refine r_mv ?_
      refine r_mv ?_
      obtain ⟨v26, h27, hF⟩ := bnd hF
      refine r_op (t_ix rfl tyS47 h27) ⟨rfl, rfl, trivial⟩ ?_
      refine r_op (t_lM 1 rfl rfl (.one tyO24)) ⟨rfl, trivial⟩ ?_
      refine r_mv ?_
      obtain ⟨v28, h29, hF⟩ := bnd hF
      refine r_op (t_call rfl (ct_gantryref05_Dot h29) rfl) ⟨rfl, rfl, trivial⟩ ?_
      refine r_op (t_bs (C := cQ) (xs := [.tmp 19]) (ps := [.va (eQ v28)]) (zs := [v28]) rfl tyS24 rfl ⟨⟨trivial, rfl⟩, trivial⟩ rfl) ⟨rfl, trivial⟩ ?_
      obtain ⟨x30, h31, hF⟩ := bnd hF
      refine r_app 0 rfl tyS24 rfl rfl q14 rfl rfl h31 (fun b32 c33 H34 e35 => ?_)
      cases e35
      refine r_as ?_
      refine r_nil (r_blkN (r_next (r_reg (r_mv ?_))))
      obtain ⟨v37, h38, hF⟩ := bnd hF
      refine r_op (t_add rfl h38) ⟨rfl, k_I _ _, trivial⟩ ?_
      refine r_as ?_
      refine r_nil ?_
      exact r_round (fun a w hh => ⟨x30, v37, b32, c33, (n13 + [v28].length), hF, (apL_len h31 q14), hs_back [0] rfl (by decide) (by exact ⟨rfl, rfl, rfl, rfl, trivial⟩) hh⟩)
    · have hF := cnd_f h25 hF
      refine r_brk ?_
      obtain rfl := sm1 hF
      exact r_backJ Jj24 ⟨x10, b11, c12, n13, hRl23, q14, rfl, rfl⟩ [0] rfl ⟨rfl, trivial⟩
def F_matrix_turned_j26 (K : Nat) (x19 : List (List Rat)) : Option (List (List Rat)) :=
  some x19
def F_matrix_turned_j54 (K : Nat) (x12 : List (List Rat)) (x18 : Int) (recl25 : (List (List Rat)) → Int → Option (List (List Rat))) (x47 : List Rat) : Option (List (List Rat)) :=
  (apL x12 [x47]).bind fun x55 => (chk (x18 + 1)).bind fun v62 => recl25 x55 v62
def F_matrix_turned_l53 (K : Nat) (a0 : List (List Rat)) (x18 : Int) : Nat → (List Rat) → Int → Option (List Rat)
  | 0, _, _ => none
  | k + 1, x40, x46 => bif (decide (x46 < (a0.length : Int))) then ((rdL a0 x46).bind fun v65 => (rdL v65 x18).bind fun v67 => (rdL x40 x46).bind fun v69 => (stL x40 x46 v67).bind fun x71 => (chk (x46 + 1)).bind fun v74 => F_matrix_turned_l53 K a0 x18 k x71 v74) else (some x40)
def F_matrix_turned_l25 (K : Nat) (a0 : List (List Rat)) (v3 : Int) : Nat → (List (List Rat)) → Int → Option (List (List Rat))
  | 0, _, _ => none
  | k + 1, x12, x18 => bif (decide (x18 < v3)) then ((mkL (a0.length : Int) 0).bind fun x28 => (F_matrix_turned_l53 K a0 x18 K x28 0).bind fun x47 => F_matrix_turned_j54 K x12 x18 (F_matrix_turned_l25 K a0 v3 k) x47) else (some x12)
def F_matrix_turned (K : Nat) (a0 : List (List Rat)) : Option (List (List Rat)) :=
  (F_matrix_cols a0).bind fun v3 => (F_matrix_turned_l25 K a0 v3 K ([] : List (List Rat)) 0).bind fun x19 => F_matrix_turned_j26 K x19
set_option maxRecDepth 100000 in
theorem ct_matrix_turned {K : Nat} {a0 : List (List Rat)} {r : List (List Rat)} (hF : F_matrix_turned K a0 = some r) : Ct Tryz.prog 121 [.vc (pS (cSl cQ) a0)] (.vc (pS (cSl cQ) r)) := by
  unfold F_matrix_turned at hF
  refine ctO_intro Tryz.func121 rfl (by kernel_rfl) Tryz.ntmps121 rfl (fun w0 M0 => ?_)
  refine r_seq (r_reg (r_op (t_mv (.inr rfl)) ⟨k_nil (cSl cQ), trivial⟩ ?_))
  refine r_nil (r_next (r_seq (r_reg (r_nilO (cSl cQ) 24 rfl ?_))))
  refine r_nil (r_next (r_seq (r_seq (r_reg (r_mv ?_)))))
  obtain ⟨v3, h4, hF⟩ := bnd hF
  refine r_op (t_call rfl (ct_matrix_cols h4) rfl) ⟨rfl, trivial⟩ ?_
  refine r_op (t_mv (.inl rfl)) ⟨k_I _ _, trivial⟩ ?_
  refine r_nil (r_next (r_blk (r_cutN (fun H E => ∃ (x19 : List (List Rat)), ∃ (b20 : Option Nat), ∃ (c21 : Nat), ∃ (n22 : Nat), F_matrix_turned_j26 K x19 = some r ∧ x19.length = n22 ∧ H = [hO (cSl cQ) b20 c21 24 n22 x19] ∧ E = [(3, .vc (pO b20 n22 c21))]) ?_ (fun Jj26 => ?_))))
  · rintro _ _ ⟨x19, b20, c21, n22, hF, q23, rfl, rfl⟩
    unfold F_matrix_turned_j26 at hF
    refine r_next (r_seq (r_reg (r_mv ?_)))
    refine r_as ?_
    refine r_nil (r_next (r_ret (r_toR (r_fzX 0 [2, 3, 36] rfl q23 ⟨rfl, rfl, rfl, trivial⟩ rfl ?_))))
    obtain rfl := sm1 hF
    exact r_done1 (.inl rfl) Tryz.results121 (.tmp rfl .nil) rfl rfl
  · skip
    obtain ⟨x19', hL, hRl25⟩ := bnd hF
    refine r_lp (fun k a w => ∃ (x12 : List (List Rat)), ∃ (x18 : Int), ∃ (b13 : Option Nat), ∃ (c14 : Nat), ∃ (n15 : Nat), F_matrix_turned_l25 K a0 v3 k x12 x18 = some x19' ∧ x12.length = n15 ∧ hs _ [hO (cSl cQ) b13 c14 24 n15 x12] [(0, .vc (pS (cSl cQ) a0)), (3, .vc (pO b13 n15 c14)), (8, .vc (pI .i64 v3)), (9, .vc (pI .i64 x18))] a w) K (fun a w ⟨_, _, _, _, _, hF, _, _⟩ => by cases hF) (fun k a w ⟨x12, x18, b13, c14, n15, hF, q16, hh⟩ => r_at ?_ hh) (fun a w hh => ⟨([] : List (List Rat)), 0, none, 0, 0, hL, rfl, hs_back [0] rfl (by decide) (by exact ⟨rfl, rfl, rfl, rfl, trivial⟩) hh⟩)
    rw [F_matrix_turned_l25.eq_2] at hF
    refine r_seq (r_reg (r_op (t_lt rfl) ⟨rfl, rfl, trivial⟩ ?_))
    refine r_nil (r_next (r_seq (r_if rfl (fun h27 => ?_) (fun h27 => ?_))))
    · have hF := cnd_t h27 hF
      refine r_skip (r_next (r_seq (r_blk (r_seq (r_reg (r_mv ?_))))))
      refine r_as ?_
      refine r_nil (r_next (r_seq (r_reg (r_mv ?_))))
      refine r_op (t_ln rfl tyS47) ⟨rfl, trivial⟩ ?_
      obtain ⟨x28, h29, hF⟩ := bnd hF
      refine r_make (C := cQ) rfl tyS24 rfl tyZ35q rfl h29 (fun b30 => ?_)
      refine r_as ?_
      refine r_nil (r_next (r_seq (r_seq (r_reg (r_mv ?_)))))
      refine r_op (t_ln rfl tyS47) ⟨rfl, trivial⟩ ?_
      refine r_op (t_mv (.inl rfl)) ⟨k_I _ _, trivial⟩ ?_
      refine r_nil (r_next (r_blk (r_cutN (fun H E => ∃ (x47 : List Rat), ∃ (b48 : Option Nat), ∃ (c49 : Nat), ∃ (n50 : Nat), F_matrix_turned_j54 K x12 x18 (F_matrix_turned_l25 K a0 v3 k) x47 = some x19' ∧ x47.length = n50 ∧ H = [hO cQ b48 c49 35 n50 x47, hO (cSl cQ) b13 c14 24 n15 x12] ∧ E = [(0, .vc (pS (cSl cQ) a0)), (3, .vc (pO b13 n15 c14)), (5, .vc (pO b48 n50 c49)), (8, .vc (pI .i64 v3)), (9, .vc (pI .i64 x18))]) ?_ (fun Jj54 => ?_))))
      · rintro _ _ ⟨x47, b48, c49, n50, hF, q51, rfl, rfl⟩
        unfold F_matrix_turned_j54 at hF
        refine r_next (r_reg (r_mv ?_))
        refine r_mv ?_
        refine r_fzL 0 [5, 32] rfl q51 ⟨rfl, rfl, trivial⟩ rfl ?_
        refine r_op (t_bs (C := (cSl cQ)) (xs := [.tmp 32]) (ps := [.vc (pS cQ x47)]) (zs := [x47]) rfl tyS47 rfl ⟨⟨trivial, rfl⟩, trivial⟩ rfl) ⟨rfl, trivial⟩ ?_
        obtain ⟨x55, h56, hF⟩ := bnd hF
        refine r_app 0 rfl tyS47 rfl rfl q16 rfl rfl h56 (fun b57 c58 H59 e60 => ?_)
        cases e60
        refine r_as ?_
        refine r_nil (r_blkN (r_next (r_reg ?_)))
        obtain ⟨v62, h63, hF⟩ := bnd hF
        refine r_op (t_add rfl h63) ⟨rfl, k_I _ _, trivial⟩ ?_
        refine r_mv ?_
        refine r_nil ?_
        exact r_round (fun a w hh => ⟨x55, v62, b57, c58, (n15 + [x47].length), hF, (apL_len h56 q16), hs_back [0] rfl (by decide) (by exact ⟨rfl, rfl, rfl, rfl, trivial⟩) hh⟩)
      · skip
        obtain ⟨x47', hL, hRl53⟩ := bnd hF
        refine r_lp (fun k a w => ∃ (x40 : List Rat), ∃ (x46 : Int), ∃ (b41 : Option Nat), ∃ (c42 : Nat), ∃ (n43 : Nat), F_matrix_turned_l53 K a0 x18 k x40 x46 = some x47' ∧ x40.length = n43 ∧ hs _ [hO cQ b41 c42 35 n43 x40, hO (cSl cQ) b13 c14 24 n15 x12] [(0, .vc (pS (cSl cQ) a0)), (3, .vc (pO b13 n15 c14)), (4, .vc (pI .i64 x18)), (5, .vc (pO b41 n43 c42)), (8, .vc (pI .i64 v3)), (9, .vc (pI .i64 x18)), (16, .vc (pI .i64 (a0.length : Int))), (17, .vc (pI .i64 x46))] a w) K (fun a w ⟨_, _, _, _, _, hF, _, _⟩ => by cases hF) (fun k a w ⟨x40, x46, b41, c42, n43, hF, q44, hh⟩ => r_at ?_ hh) (fun a w hh => ⟨x28, 0, b30, x28.length, x28.length, hL, rfl, hs_back [0, 1] rfl (by decide) (by exact ⟨rfl, rfl, rfl, rfl, rfl, rfl, rfl, rfl, trivial⟩) hh⟩)
        rw [F_matrix_turned_l53.eq_2] at hF
        refine r_seq (r_reg (r_op (t_lt rfl) ⟨rfl, rfl, trivial⟩ ?_))
        refine r_nil (r_next (r_seq (r_if rfl (fun h64 => ?_) (fun h64 => ?_))))
        · have hF := cnd_t h64 hF
          refine r_skip (r_next (r_seq (r_blk (r_seq (r_reg (r_mv ?_))))))
          refine r_as ?_
          refine r_nil (r_next (r_reg (r_mv ?_)))
          refine r_mv ?_
          refine r_mv ?_
          refine r_mv ?_
          obtain ⟨v65, h66, hF⟩ := bnd hF
          refine r_op (t_ix rfl tyS47 h66) ⟨rfl, rfl, trivial⟩ ?_
          refine r_op (t_lM 1 rfl rfl (.one tyO24)) ⟨rfl, trivial⟩ ?_
          refine r_mv ?_
          obtain ⟨v67, h68, hF⟩ := bnd hF
          refine r_op (t_ix rfl tyS24 h68) ⟨rfl, rfl, trivial⟩ ?_
          refine r_op (t_lM 4 rfl rfl (.agg tyA35)) ⟨rfl, trivial⟩ ?_
          obtain ⟨v69, h70, hF⟩ := bnd hF
          refine r_op (t_ixE (C := cQ) 0 rfl tyS24 rfl q44 (rdL_some h70).1 (rdL_some h70).2.1) ⟨rfl, rfl, trivial⟩ ?_
          obtain ⟨x71, h72, hF⟩ := bnd hF
          refine r_op0 (t_stE 0 rfl rfl h70 h72 tyA35.s) ⟨rfl, rfl, trivial⟩ ?_
          refine r_nil (r_blkN (r_next (r_reg ?_)))
          obtain ⟨v74, h75, hF⟩ := bnd hF
          refine r_op (t_add rfl h75) ⟨rfl, k_I _ _, trivial⟩ ?_
          refine r_mv ?_
          refine r_nil ?_
          exact r_round (fun a w hh => ⟨x71, v74, b41, c42, n43, hF, (stL_len h72 q44), hs_back [0, 1] rfl (by decide) (by exact ⟨rfl, rfl, rfl, rfl, rfl, rfl, rfl, rfl, trivial⟩) hh⟩)
        · have hF := cnd_f h64 hF
          refine r_brk ?_
          obtain rfl := sm1 hF
          exact r_backJ Jj54 ⟨x40, b41, c42, n43, hRl53, q44, rfl, rfl⟩ [0, 1] rfl ⟨rfl, rfl, rfl, rfl, rfl, trivial⟩
    · have hF := cnd_f h27 hF
      refine r_brk ?_
      obtain rfl := sm1 hF
      exact r_backJ Jj26 ⟨x12, b13, c14, n15, hRl25, q16, rfl, rfl⟩ [0] rfl ⟨rfl, trivial⟩
def F_rat_sum_j9 (K : Nat) (x7 : Rat) : Option Rat :=
  some x7
def F_rat_sum_l8 (K : Nat) (a0 : List Rat) : Nat → Rat → Int → Option Rat
  | 0, _, _ => none
  | k + 1, x5, x6 => bif (decide (x6 < (a0.length : Int))) then ((rdL a0 x6).bind fun v11 => (qadd x5 v11).bind fun v14 => (chk (x6 + 1)).bind fun v16 => F_rat_sum_l8 K a0 k v14 v16) else (some x5)
def F_rat_sum (K : Nat) (a0 : List Rat) : Option Rat :=
  (F_rat_sum_l8 K a0 K 0 0).bind fun x7 => F_rat_sum_j9 K x7
set_option maxRecDepth 100000 in
theorem ct_rat_sum {K : Nat} {a0 : List Rat} {r : Rat} (hF : F_rat_sum K a0 = some r) : Ct Tryz.prog 168 [.vc (pS cQ a0)] (.va (eQ r)) := by
  unfold F_rat_sum at hF
  refine ctO_intro Tryz.func168 rfl (by kernel_rfl) Tryz.ntmps168 rfl (fun w0 M0 => ?_)
  refine r_seq (r_reg (r_alloc rfl tyZ35q (fun b1 => ?_)))
  refine r_nil (r_next (r_seq (r_reg (r_alloc rfl tyZ35q (fun b2 => ?_)))))
  refine r_nil (r_next (r_seq (r_seq (r_reg (r_mv ?_)))))
  refine r_op (t_ln rfl tyS24) ⟨rfl, trivial⟩ ?_
  refine r_op (t_mv (.inl rfl)) ⟨k_I _ _, trivial⟩ ?_
  refine r_nil (r_next (r_blk (r_cutN (fun H E => ∃ (x7 : Rat), F_rat_sum_j9 K x7 = some r ∧ H = [⟨some b2, 1, 35, 4, 1, (eQ x7)⟩, ⟨some b1, 1, 35, 4, 1, (eQ 0)⟩] ∧ E = [(2, .vc (pP (some b1) 0)), (3, .vc (pP (some b2) 0))]) ?_ (fun Jj9 => ?_))))
  · rintro _ _ ⟨x7, hF, rfl, rfl⟩
    unfold F_rat_sum_j9 at hF
    refine r_next (r_seq (r_reg (r_op (t_l 0 4 rfl rfl rfl rfl (.agg tyA35)) ⟨rfl, trivial⟩ ?_)))
    refine r_op0 (t_s 1 rfl rfl rfl tyA35.s) ⟨rfl, rfl, trivial⟩ ?_
    refine r_nil (r_next (r_ret (r_toR ?_)))
    obtain rfl := sm1 hF
    exact r_done1 (.inl rfl) Tryz.results168 (rv_cell 1 4 rfl rfl rfl rfl (.agg tyA35) .nil) rfl rfl
  · skip
    obtain ⟨x7', hL, hRl8⟩ := bnd hF
    refine r_lp (fun k a w => ∃ (x5 : Rat), ∃ (x6 : Int), F_rat_sum_l8 K a0 k x5 x6 = some x7' ∧ hs _ [⟨some b2, 1, 35, 4, 1, (eQ x5)⟩, ⟨some b1, 1, 35, 4, 1, (eQ 0)⟩] [(2, .vc (pP (some b1) 0)), (3, .vc (pP (some b2) 0)), (6, .vc (pS cQ a0)), (7, .vc (pI .i64 (a0.length : Int))), (8, .vc (pI .i64 x6))] a w) K (fun a w ⟨_, _, hF, _⟩ => by cases hF) (fun k a w ⟨x5, x6, hF, hh⟩ => r_at ?_ hh) (fun a w hh => ⟨0, 0, hL, hs_back [0, 1] rfl (by decide) (by exact ⟨rfl, rfl, rfl, rfl, rfl, trivial⟩) hh⟩)
    rw [F_rat_sum_l8.eq_2] at hF
    refine r_seq (r_reg (r_op (t_lt rfl) ⟨rfl, rfl, trivial⟩ ?_))
    refine r_nil (r_next (r_seq (r_if rfl (fun h10 => ?_) (fun h10 => ?_))))
    · have hF := cnd_t h10 hF
      refine r_skip (r_next (r_seq (r_blk (r_seq (r_reg ?_)))))
      obtain ⟨v11, h12, hF⟩ := bnd hF
      refine r_op (t_ix rfl tyS24 h12) ⟨rfl, rfl, trivial⟩ ?_
      refine r_op (t_lM 4 rfl rfl (.agg tyA35)) ⟨rfl, trivial⟩ ?_
      refine r_alloc rfl tyZ35q (fun b13 => ?_)
      refine r_op0 (t_s 0 rfl rfl rfl tyA35.s) ⟨rfl, rfl, trivial⟩ ?_
      refine r_nil (r_next (r_reg (r_op (t_l 1 4 rfl rfl rfl rfl (.agg tyA35)) ⟨rfl, trivial⟩ ?_)))
      refine r_op (t_l 0 4 rfl rfl rfl rfl (.agg tyA35)) ⟨rfl, trivial⟩ ?_
      obtain ⟨v14, h15, hF⟩ := bnd hF
      refine r_op (t_call rfl (qc_rat_Add h15) rfl) ⟨rfl, rfl, trivial⟩ ?_
      refine r_op0 (t_s 1 rfl rfl rfl tyA35.s) ⟨rfl, rfl, trivial⟩ ?_
      refine r_nil (r_blkN (r_next (r_reg ?_)))
      obtain ⟨v16, h17, hF⟩ := bnd hF
      refine r_op (t_add rfl h17) ⟨rfl, k_I _ _, trivial⟩ ?_
      refine r_mv ?_
      refine r_nil ?_
      exact r_round (fun a w hh => ⟨v14, v16, hF, hs_back [1, 2] rfl (by decide) (by exact ⟨rfl, rfl, rfl, rfl, rfl, trivial⟩) hh⟩)
    · have hF := cnd_f h10 hF
      refine r_brk ?_
      obtain rfl := sm1 hF
      exact r_backJ Jj9 ⟨x5, hRl8, rfl, rfl⟩ [0, 1] rfl ⟨rfl, rfl, trivial⟩
def F_rat_Dot_j25 (K : Nat) (x18 : List Rat) : Option Rat :=
  (F_rat_sum K x18).bind fun v26 => some v26
def F_rat_Dot_l24 (K : Nat) (a0 : List Rat) (a1 : List Rat) : Nat → (List Rat) → Int → Option (List Rat)
  | 0, _, _ => none
  | k + 1, x11, x17 => bif (decide (x17 < (min (a0.length : Int) (a1.length : Int)))) then ((rdL a0 x17).bind fun v31 => (rdL a1 x17).bind fun v33 => (qmul v31 v33).bind fun v35 => (apL x11 [v35]).bind fun x37 => (chk (x17 + 1)).bind fun v44 => F_rat_Dot_l24 K a0 a1 k x37 v44) else (some x11)
def F_rat_Dot (K : Nat) (a0 : List Rat) (a1 : List Rat) : Option Rat :=
  (F_rat_Dot_l24 K a0 a1 K ([] : List Rat) 0).bind fun x18 => F_rat_Dot_j25 K x18
set_option maxRecDepth 100000 in
theorem ct_rat_Dot {K : Nat} {a0 : List Rat} {a1 : List Rat} {r : Rat} (hF : F_rat_Dot K a0 a1 = some r) : Ct Tryz.prog 157 [.vc (pS cQ a0), .vc (pS cQ a1)] (.va (eQ r)) := by
  unfold F_rat_Dot at hF
  refine ctO_intro Tryz.func157 rfl (by kernel_rfl) Tryz.ntmps157 rfl (fun w0 M0 => ?_)
  refine r_seq (r_reg (r_alloc rfl tyZ35q (fun b1 => ?_)))
  refine r_nil (r_next (r_seq (r_reg (r_nilO cQ 35 rfl ?_))))
  refine r_nil (r_next (r_seq (r_seq (r_reg (r_mv ?_)))))
  refine r_op (t_ln rfl tyS24) ⟨rfl, trivial⟩ ?_
  refine r_mv ?_
  refine r_op (t_ln rfl tyS24) ⟨rfl, trivial⟩ ?_
  refine r_op (t_min rfl) ⟨rfl, rfl, trivial⟩ ?_
  refine r_op (t_mv (.inl rfl)) ⟨k_I _ _, trivial⟩ ?_
  refine r_nil (r_next (r_blk (r_cutN (fun H E => ∃ (x18 : List Rat), ∃ (b19 : Option Nat), ∃ (c20 : Nat), ∃ (n21 : Nat), F_rat_Dot_j25 K x18 = some r ∧ x18.length = n21 ∧ H = [hO cQ b19 c20 35 n21 x18, ⟨some b1, 1, 35, 4, 1, (eQ 0)⟩] ∧ E = [(4, .vc (pP (some b1) 0)), (5, .vc (pO b19 n21 c20))]) ?_ (fun Jj25 => ?_))))
  · rintro _ _ ⟨x18, b19, c20, n21, hF, q22, rfl, rfl⟩
    unfold F_rat_Dot_j25 at hF
    refine r_next (r_seq (r_reg (r_mv ?_)))
    refine r_fzL 0 [5, 28] rfl q22 ⟨rfl, rfl, trivial⟩ rfl ?_
    obtain ⟨v26, h27, hF⟩ := bnd hF
    refine r_op (t_call rfl (ct_rat_sum h27) rfl) ⟨rfl, trivial⟩ ?_
    refine r_op0 (t_s 0 rfl rfl rfl tyA35.s) ⟨rfl, rfl, trivial⟩ ?_
    refine r_nil (r_next (r_ret (r_toR ?_)))
    obtain rfl := sm1 hF
    exact r_done1 (.inl rfl) Tryz.results157 (rv_cell 0 4 rfl rfl rfl rfl (.agg tyA35) .nil) rfl rfl
  · skip
    obtain ⟨x18', hL, hRl24⟩ := bnd hF
    refine r_lp (fun k a w => ∃ (x11 : List Rat), ∃ (x17 : Int), ∃ (b12 : Option Nat), ∃ (c13 : Nat), ∃ (n14 : Nat), F_rat_Dot_l24 K a0 a1 k x11 x17 = some x18' ∧ x11.length = n14 ∧ hs _ [hO cQ b12 c13 35 n14 x11, ⟨some b1, 1, 35, 4, 1, (eQ 0)⟩] [(0, .vc (pS cQ a0)), (1, .vc (pS cQ a1)), (4, .vc (pP (some b1) 0)), (5, .vc (pO b12 n14 c13)), (11, .vc (pI .i64 (min (a0.length : Int) (a1.length : Int)))), (12, .vc (pI .i64 x17))] a w) K (fun a w ⟨_, _, _, _, _, hF, _, _⟩ => by cases hF) (fun k a w ⟨x11, x17, b12, c13, n14, hF, q15, hh⟩ => r_at ?_ hh) (fun a w hh => ⟨([] : List Rat), 0, none, 0, 0, hL, rfl, hs_back [0, 1] rfl (by decide) (by exact ⟨rfl, rfl, rfl, rfl, rfl, rfl, trivial⟩) hh⟩)
    rw [F_rat_Dot_l24.eq_2] at hF
    refine r_seq (r_reg (r_op (t_lt rfl) ⟨rfl, rfl, trivial⟩ ?_))
    refine r_nil (r_next (r_seq (r_if rfl (fun h28 => ?_) (fun h28 => ?_))))
    · have hF := cnd_t h28 hF
      refine r_skip (r_next (r_seq (r_blk (r_seq (r_reg (r_mv ?_))))))
      refine r_as ?_
      refine r_nil (r_next ?_)
      obtain ⟨v31, h32, hF⟩ := bnd hF
      obtain ⟨v33, h34, hF⟩ := bnd hF
      obtain ⟨v35, h36, hF⟩ := bnd hF
      refine r_draw [0, 0, 0, 6, 14, 0, 0, 96, 224, 510, 1022, 2047, 4095] 11 2 [.v (.vc (pO b12 n14 c13)), .v (.vc (pS cQ a0)), .v (.vc (pI .i64 x17)), .v (.vc (pM (cQ.e v31))), .v (.va (eQ v31)), .v (.vc (pS cQ a1)), .v (.vc (pI .i64 x17)), .v (.vc (pM (cQ.e v33))), .v (.va (eQ v33)), .v (.va (eQ v35)), .v (.vc (pS cQ [v35]))] Tryz_mixed ⟨⟨rfl, .run (lo := 0) (n := 1) ⟨fun G29 A => t_mv (.inl rfl), trivial⟩ (fun G29 => ⟨rfl, trivial⟩)⟩, ⟨rfl, .run (lo := 0) (n := 1) ⟨fun G29 A => t_mv (.inl rfl), trivial⟩ (fun G29 => ⟨rfl, trivial⟩)⟩, ⟨rfl, .run (lo := 0) (n := 1) ⟨fun G29 A => t_mv (.inl rfl), trivial⟩ (fun G29 => ⟨rfl, trivial⟩)⟩, ⟨rfl, .run (lo := 0) (n := 1) ⟨fun G29 A => t_ix rfl tyS24 h32, trivial⟩ (fun G29 => ⟨rfl, rfl, trivial⟩)⟩, ⟨rfl, .run (lo := 0) (n := 1) ⟨fun G29 A => t_lM 4 rfl rfl (.agg tyA35), trivial⟩ (fun G29 => ⟨rfl, trivial⟩)⟩, ⟨rfl, .run (lo := 0) (n := 1) ⟨fun G29 A => t_mv (.inl rfl), trivial⟩ (fun G29 => ⟨rfl, trivial⟩)⟩, ⟨rfl, .run (lo := 0) (n := 1) ⟨fun G29 A => t_mv (.inl rfl), trivial⟩ (fun G29 => ⟨rfl, trivial⟩)⟩, ⟨rfl, .run (lo := 0) (n := 1) ⟨fun G29 A => t_ix rfl tyS24 h34, trivial⟩ (fun G29 => ⟨rfl, rfl, trivial⟩)⟩, ⟨rfl, .run (lo := 0) (n := 1) ⟨fun G29 A => t_lM 4 rfl rfl (.agg tyA35), trivial⟩ (fun G29 => ⟨rfl, trivial⟩)⟩, ⟨rfl, .run (lo := 0) (n := 1) ⟨fun G29 A => t_call rfl (qc_rat_Mul h36) rfl, trivial⟩ (fun G29 => ⟨rfl, rfl, trivial⟩)⟩, ⟨rfl, .run (lo := 0) (n := 1) ⟨fun G29 A => t_bs (C := cQ) (xs := [.tmp 24]) (ps := [.va (eQ v35)]) (zs := [v35]) rfl tyS24 rfl ⟨⟨trivial, rfl⟩, trivial⟩ rfl, trivial⟩ (fun G29 => ⟨rfl, trivial⟩)⟩, trivial⟩ (fun bs30 G29 => ?_)
      obtain ⟨x37, h38, hF⟩ := bnd hF
      refine r_app 0 rfl tyS24 rfl rfl q15 rfl rfl h38 (fun b39 c40 H41 e42 => ?_)
      cases e42
      refine r_as ?_
      refine r_nil (r_blkN (r_next (r_reg ?_)))
      obtain ⟨v44, h45, hF⟩ := bnd hF
      refine r_op (t_add rfl h45) ⟨rfl, k_I _ _, trivial⟩ ?_
      refine r_mv ?_
      refine r_nil ?_
      exact r_round (fun a w hh => ⟨x37, v44, b39, c40, (n14 + [v35].length), hF, (apL_len h38 q15), hs_back [0, 1] rfl (by decide) (by exact ⟨rfl, rfl, rfl, rfl, rfl, rfl, trivial⟩) hh⟩)
    · have hF := cnd_f h28 hF
      refine r_brk ?_
      obtain rfl := sm1 hF
      exact r_backJ Jj25 ⟨x11, b12, c13, n14, hRl24, q15, rfl, rfl⟩ [0, 1] rfl ⟨rfl, rfl, trivial⟩
def F_matrix_applied_j24 (K : Nat) (x17 : List Rat) : Option (List Rat) :=
  some x17
def F_matrix_applied_l23 (K : Nat) (a0 : List (List Rat)) (a1 : List Rat) : Nat → (List Rat) → Int → Option (List Rat)
  | 0, _, _ => none
  | k + 1, x10, x16 => bif (decide (x16 < (a0.length : Int))) then ((rdL a0 x16).bind fun v26 => (F_rat_Dot K v26 a1).bind fun v28 => (apL x10 [v28]).bind fun x30 => (chk (x16 + 1)).bind fun v37 => F_matrix_applied_l23 K a0 a1 k x30 v37) else (some x10)
def F_matrix_applied (K : Nat) (a0 : List (List Rat)) (a1 : List Rat) : Option (List Rat) :=
  (F_matrix_applied_l23 K a0 a1 K ([] : List Rat) 0).bind fun x17 => F_matrix_applied_j24 K x17
set_option maxRecDepth 100000 in
theorem ct_matrix_applied {K : Nat} {a0 : List (List Rat)} {a1 : List Rat} {r : List Rat} (hF : F_matrix_applied K a0 a1 = some r) : Ct Tryz.prog 122 [.vc (pS (cSl cQ) a0), .vc (pS cQ a1)] (.vc (pS cQ r)) := by
  unfold F_matrix_applied at hF
  refine ctO_intro Tryz.func122 rfl (by kernel_rfl) Tryz.ntmps122 rfl (fun w0 M0 => ?_)
  refine r_seq (r_reg (r_op (t_mv (.inr rfl)) ⟨k_nil cQ, trivial⟩ ?_))
  refine r_nil (r_next (r_seq (r_reg (r_nilO cQ 35 rfl ?_))))
  refine r_nil (r_next (r_seq (r_seq (r_reg (r_mv ?_)))))
  refine r_op (t_ln rfl tyS47) ⟨rfl, trivial⟩ ?_
  refine r_op (t_mv (.inl rfl)) ⟨k_I _ _, trivial⟩ ?_
  refine r_nil (r_next (r_blk (r_cutN (fun H E => ∃ (x17 : List Rat), ∃ (b18 : Option Nat), ∃ (c19 : Nat), ∃ (n20 : Nat), F_matrix_applied_j24 K x17 = some r ∧ x17.length = n20 ∧ H = [hO cQ b18 c19 35 n20 x17] ∧ E = [(5, .vc (pO b18 n20 c19))]) ?_ (fun Jj24 => ?_))))
  · rintro _ _ ⟨x17, b18, c19, n20, hF, q21, rfl, rfl⟩
    unfold F_matrix_applied_j24 at hF
    refine r_next (r_seq (r_reg (r_mv ?_)))
    refine r_as ?_
    refine r_nil (r_next (r_ret (r_toR (r_fzX 0 [4, 5, 21] rfl q21 ⟨rfl, rfl, rfl, trivial⟩ rfl ?_))))
    obtain rfl := sm1 hF
    exact r_done1 (.inl rfl) Tryz.results122 (.tmp rfl .nil) rfl rfl
  · skip
    obtain ⟨x17', hL, hRl23⟩ := bnd hF
    refine r_lp (fun k a w => ∃ (x10 : List Rat), ∃ (x16 : Int), ∃ (b11 : Option Nat), ∃ (c12 : Nat), ∃ (n13 : Nat), F_matrix_applied_l23 K a0 a1 k x10 x16 = some x17' ∧ x10.length = n13 ∧ hs _ [hO cQ b11 c12 35 n13 x10] [(1, .vc (pS cQ a1)), (5, .vc (pO b11 n13 c12)), (8, .vc (pS (cSl cQ) a0)), (9, .vc (pI .i64 (a0.length : Int))), (10, .vc (pI .i64 x16))] a w) K (fun a w ⟨_, _, _, _, _, hF, _, _⟩ => by cases hF) (fun k a w ⟨x10, x16, b11, c12, n13, hF, q14, hh⟩ => r_at ?_ hh) (fun a w hh => ⟨([] : List Rat), 0, none, 0, 0, hL, rfl, hs_back [0] rfl (by decide) (by exact ⟨rfl, rfl, rfl, rfl, rfl, trivial⟩) hh⟩)
    rw [F_matrix_applied_l23.eq_2] at hF
    refine r_seq (r_reg (r_op (t_lt rfl) ⟨rfl, rfl, trivial⟩ ?_))
    refine r_nil (r_next (r_seq (r_if rfl (fun h25 => ?_) (fun h25 => ?_))))
    · have hF := cnd_t h25 hF
      refine r_skip (r_next (r_seq (r_blk (r_seq (r_reg ?_)))))
      obtain ⟨v26, h27, hF⟩ := bnd hF
      refine r_op (t_ix rfl tyS47 h27) ⟨rfl, rfl, trivial⟩ ?_
      refine r_op (t_lM 1 rfl rfl (.one tyO24)) ⟨rfl, trivial⟩ ?_
      refine r_as ?_
      refine r_nil (r_next (r_reg (r_mv ?_)))
      refine r_mv ?_
      refine r_mv ?_
      obtain ⟨v28, h29, hF⟩ := bnd hF
      refine r_op (t_call rfl (ct_rat_Dot h29) rfl) ⟨rfl, rfl, trivial⟩ ?_
      refine r_op (t_bs (C := cQ) (xs := [.tmp 17]) (ps := [.va (eQ v28)]) (zs := [v28]) rfl tyS24 rfl ⟨⟨trivial, rfl⟩, trivial⟩ rfl) ⟨rfl, trivial⟩ ?_
      obtain ⟨x30, h31, hF⟩ := bnd hF
      refine r_app 0 rfl tyS24 rfl rfl q14 rfl rfl h31 (fun b32 c33 H34 e35 => ?_)
      cases e35
      refine r_as ?_
      refine r_nil (r_blkN (r_next (r_reg ?_)))
      obtain ⟨v37, h38, hF⟩ := bnd hF
      refine r_op (t_add rfl h38) ⟨rfl, k_I _ _, trivial⟩ ?_
      refine r_mv ?_
      refine r_nil ?_
      exact r_round (fun a w hh => ⟨x30, v37, b32, c33, (n13 + [v28].length), hF, (apL_len h31 q14), hs_back [0] rfl (by decide) (by exact ⟨rfl, rfl, rfl, rfl, rfl, trivial⟩) hh⟩)
    · have hF := cnd_f h25 hF
      refine r_brk ?_
      obtain rfl := sm1 hF
      exact r_backJ Jj24 ⟨x10, b11, c12, n13, hRl23, q14, rfl, rfl⟩ [0] rfl ⟨rfl, trivial⟩
def F_matrix_Mul_j35 (K : Nat) (x28 : List (List Rat)) : Option ((List (List Rat)) × Int) :=
  some (x28, 0)
def F_matrix_Mul_l34 (K : Nat) (a0 : List (List Rat)) (v10 : List (List Rat)) : Nat → (List (List Rat)) → Int → Option (List (List Rat))
  | 0, _, _ => none
  | k + 1, x21, x27 => bif (decide (x27 < (a0.length : Int))) then ((rdL a0 x27).bind fun v37 => (F_matrix_applied K v10 v37).bind fun v39 => (apL x21 [v39]).bind fun x41 => (chk (x27 + 1)).bind fun v48 => F_matrix_Mul_l34 K a0 v10 k x41 v48) else (some x21)
def F_matrix_Mul (K : Nat) (a0 : List (List Rat)) (a1 : List (List Rat)) : Option ((List (List Rat)) × Int) :=
  (F_matrix_Valid K a0).bind fun v1 => bif (!v1) then (some ([], 1)) else ((F_matrix_Valid K a1).bind fun v4 => bif (!v4) then (some ([], 1)) else ((F_matrix_cols a0).bind fun v7 => bif (v7 != (a1.length : Int)) then (some ([], 1)) else ((F_matrix_turned K a1).bind fun v10 => (F_matrix_Mul_l34 K a0 v10 K ([] : List (List Rat)) 0).bind fun x28 => F_matrix_Mul_j35 K x28)))
set_option maxRecDepth 100000 in
theorem ct_matrix_Mul {K : Nat} {a0 : List (List Rat)} {a1 : List (List Rat)} {r : (List (List Rat)) × Int} (hF : F_matrix_Mul K a0 a1 = some r) : Ct Tryz.prog 58 [.vc (pS (cSl cQ) a0), .vc (pS (cSl cQ) a1)] (.t2 (.vc (pS (cSl cQ) r.1)) (.vc (pI .i64 r.2))) := by
  unfold F_matrix_Mul at hF
  refine ctO_intro Tryz.func58 rfl (by kernel_rfl) Tryz.ntmps58 rfl (fun w0 M0 => ?_)
  refine r_seq (r_reg (r_op (t_mv (.inr rfl)) ⟨k_nil (cSl cQ), trivial⟩ ?_))
  refine r_op (t_mv (.inr rfl)) ⟨k_I _ _, trivial⟩ ?_
  refine r_nil (r_next (r_seq (r_seq (r_reg (r_mv ?_)))))
  obtain ⟨v1, h2, hF⟩ := bnd hF
  refine r_op (t_call rfl (ct_matrix_Valid h2) rfl) ⟨rfl, trivial⟩ ?_
  refine r_op (t_not rfl) ⟨rfl, trivial⟩ ?_
  refine r_mv ?_
  refine r_bool (fun h3 => ?_) (fun h3 => ?_)
  · have hF := cnd_t h3 hF
    refine r_opn ?_
    refine r_opn ?_
    refine r_opn ?_
    refine r_op (t_pickT rfl) ⟨rfl, k_B _, trivial⟩ ?_
    refine r_mv ?_
    refine r_opn ?_
    refine r_opn ?_
    refine r_opn ?_
    refine r_opn ?_
    refine r_opn ?_
    refine r_op (t_pickT rfl) ⟨rfl, k_B _, trivial⟩ ?_
    refine r_nil (r_next (r_ifT rfl ?_))
    refine r_seq (r_reg (r_op (t_mv (.inr rfl)) ⟨k_nil (cSl cQ), trivial⟩ ?_))
    refine r_op (t_mv (.inr rfl)) ⟨k_I _ _, trivial⟩ ?_
    refine r_nil (r_next (r_ret (r_toR ?_)))
    obtain rfl := sm1 hF
    exact r_done1 (.inl rfl) Tryz.results58 (.tmp rfl (.tmp rfl .nil)) rfl rfl
  · have hF := cnd_f h3 hF
    refine r_opg (t_mv (.inl rfl)) ⟨rfl, trivial⟩ ?_
    obtain ⟨v4, h5, hF⟩ := bnd hF
    refine r_opg (t_call rfl (ct_matrix_Valid h5) rfl) ⟨rfl, trivial⟩ ?_
    refine r_opg (t_not rfl) ⟨rfl, trivial⟩ ?_
    refine r_op (t_pickF rfl) ⟨rfl, rfl, trivial⟩ ?_
    refine r_mv ?_
    refine r_bool (fun h6 => ?_) (fun h6 => ?_)
    · have hF := cnd_t h6 hF
      refine r_opn ?_
      refine r_opn ?_
      refine r_opn ?_
      refine r_opn ?_
      refine r_opn ?_
      refine r_op (t_pickT rfl) ⟨rfl, k_B _, trivial⟩ ?_
      refine r_nil (r_next (r_ifT rfl ?_))
      refine r_seq (r_reg (r_op (t_mv (.inr rfl)) ⟨k_nil (cSl cQ), trivial⟩ ?_))
      refine r_op (t_mv (.inr rfl)) ⟨k_I _ _, trivial⟩ ?_
      refine r_nil (r_next (r_ret (r_toR ?_)))
      obtain rfl := sm1 hF
      exact r_done1 (.inl rfl) Tryz.results58 (.tmp rfl (.tmp rfl .nil)) rfl rfl
    · have hF := cnd_f h6 hF
      refine r_opg (t_mv (.inl rfl)) ⟨rfl, trivial⟩ ?_
      obtain ⟨v7, h8, hF⟩ := bnd hF
      refine r_opg (t_call rfl (ct_matrix_cols h8) rfl) ⟨rfl, trivial⟩ ?_
      refine r_opg (t_mv (.inl rfl)) ⟨rfl, trivial⟩ ?_
      refine r_opg (t_ln rfl tyS47) ⟨rfl, trivial⟩ ?_
      refine r_opg (t_ne rfl) ⟨rfl, rfl, trivial⟩ ?_
      refine r_op (t_pickF rfl) ⟨rfl, rfl, trivial⟩ ?_
      refine r_nil (r_next (r_if rfl (fun h9 => ?_) (fun h9 => ?_)))
      · have hF := cnd_t h9 hF
        refine r_seq (r_reg (r_op (t_mv (.inr rfl)) ⟨k_nil (cSl cQ), trivial⟩ ?_))
        refine r_op (t_mv (.inr rfl)) ⟨k_I _ _, trivial⟩ ?_
        refine r_nil (r_next (r_ret (r_toR ?_)))
        obtain rfl := sm1 hF
        exact r_done1 (.inl rfl) Tryz.results58 (.tmp rfl (.tmp rfl .nil)) rfl rfl
      · have hF := cnd_f h9 hF
        refine r_skip (r_next (r_seq (r_reg (r_mv ?_))))
        obtain ⟨v10, h11, hF⟩ := bnd hF
        refine r_op (t_call rfl (ct_matrix_turned h11) rfl) ⟨rfl, trivial⟩ ?_
        refine r_as ?_
        refine r_nil (r_next (r_seq (r_reg (r_nilO (cSl cQ) 24 rfl ?_))))
        refine r_nil (r_next (r_seq (r_seq (r_reg (r_mv ?_)))))
        refine r_op (t_ln rfl tyS47) ⟨rfl, trivial⟩ ?_
        refine r_op (t_mv (.inl rfl)) ⟨k_I _ _, trivial⟩ ?_
        refine r_nil (r_next (r_blk (r_cutN (fun H E => ∃ (x28 : List (List Rat)), ∃ (b29 : Option Nat), ∃ (c30 : Nat), ∃ (n31 : Nat), F_matrix_Mul_j35 K x28 = some r ∧ x28.length = n31 ∧ H = [hO (cSl cQ) b29 c30 24 n31 x28] ∧ E = [(7, .vc (pO b29 n31 c30))]) ?_ (fun Jj35 => ?_))))
        · rintro _ _ ⟨x28, b29, c30, n31, hF, q32, rfl, rfl⟩
          unfold F_matrix_Mul_j35 at hF
          refine r_next (r_seq (r_reg (r_mv ?_)))
          refine r_as ?_
          refine r_op (t_mv (.inr rfl)) ⟨k_I _ _, trivial⟩ ?_
          refine r_nil (r_next (r_ret (r_toR (r_fzX 0 [4, 7, 40] rfl q32 ⟨rfl, rfl, rfl, trivial⟩ rfl ?_))))
          obtain rfl := sm1 hF
          exact r_done1 (.inl rfl) Tryz.results58 (.tmp rfl (.tmp rfl .nil)) rfl rfl
        · skip
          obtain ⟨x28', hL, hRl34⟩ := bnd hF
          refine r_lp (fun k a w => ∃ (x21 : List (List Rat)), ∃ (x27 : Int), ∃ (b22 : Option Nat), ∃ (c23 : Nat), ∃ (n24 : Nat), F_matrix_Mul_l34 K a0 v10 k x21 x27 = some x28' ∧ x21.length = n24 ∧ hs _ [hO (cSl cQ) b22 c23 24 n24 x21] [(6, .vc (pS (cSl cQ) v10)), (7, .vc (pO b22 n24 c23)), (27, .vc (pS (cSl cQ) a0)), (28, .vc (pI .i64 (a0.length : Int))), (29, .vc (pI .i64 x27))] a w) K (fun a w ⟨_, _, _, _, _, hF, _, _⟩ => by cases hF) (fun k a w ⟨x21, x27, b22, c23, n24, hF, q25, hh⟩ => r_at ?_ hh) (fun a w hh => ⟨([] : List (List Rat)), 0, none, 0, 0, hL, rfl, hs_back [0] rfl (by decide) (by exact ⟨rfl, rfl, rfl, rfl, rfl, trivial⟩) hh⟩)
          rw [F_matrix_Mul_l34.eq_2] at hF
          refine r_seq (r_reg (r_op (t_lt rfl) ⟨rfl, rfl, trivial⟩ ?_))
          refine r_nil (r_next (r_seq (r_if rfl (fun h36 => ?_) (fun h36 => ?_))))
          · have hF := cnd_t h36 hF
            refine r_skip (r_next (r_seq (r_blk (r_seq (r_reg ?_)))))
            obtain ⟨v37, h38, hF⟩ := bnd hF
            refine r_op (t_ix rfl tyS47 h38) ⟨rfl, rfl, trivial⟩ ?_
            refine r_op (t_lM 1 rfl rfl (.one tyO24)) ⟨rfl, trivial⟩ ?_
            refine r_as ?_
            refine r_nil (r_next (r_reg (r_mv ?_)))
            refine r_mv ?_
            refine r_mv ?_
            obtain ⟨v39, h40, hF⟩ := bnd hF
            refine r_op (t_call rfl (ct_matrix_applied h40) rfl) ⟨rfl, rfl, trivial⟩ ?_
            refine r_op (t_bs (C := (cSl cQ)) (xs := [.tmp 36]) (ps := [.vc (pS cQ v39)]) (zs := [v39]) rfl tyS47 rfl ⟨⟨trivial, rfl⟩, trivial⟩ rfl) ⟨rfl, trivial⟩ ?_
            obtain ⟨x41, h42, hF⟩ := bnd hF
            refine r_app 0 rfl tyS47 rfl rfl q25 rfl rfl h42 (fun b43 c44 H45 e46 => ?_)
            cases e46
            refine r_as ?_
            refine r_nil (r_blkN (r_next (r_reg ?_)))
            obtain ⟨v48, h49, hF⟩ := bnd hF
            refine r_op (t_add rfl h49) ⟨rfl, k_I _ _, trivial⟩ ?_
            refine r_mv ?_
            refine r_nil ?_
            exact r_round (fun a w hh => ⟨x41, v48, b43, c44, (n24 + [v39].length), hF, (apL_len h42 q25), hs_back [0] rfl (by decide) (by exact ⟨rfl, rfl, rfl, rfl, rfl, trivial⟩) hh⟩)
          · have hF := cnd_f h36 hF
            refine r_brk ?_
            obtain rfl := sm1 hF
            exact r_backJ Jj35 ⟨x21, b22, c23, n24, hRl34, q25, rfl, rfl⟩ [0] rfl ⟨rfl, trivial⟩
def F_matrix_Apply (K : Nat) (a0 : List (List Rat)) (a1 : List Rat) : Option ((List Rat) × Int) :=
  (F_matrix_Valid K a0).bind fun v1 => bif (!v1) then (some ([], 1)) else ((F_matrix_cols a0).bind fun v4 => bif ((a1.length : Int) != v4) then (some ([], 1)) else ((F_matrix_applied K a0 a1).bind fun v7 => some (v7, 0)))
set_option maxRecDepth 100000 in
theorem ct_matrix_Apply {K : Nat} {a0 : List (List Rat)} {a1 : List Rat} {r : (List Rat) × Int} (hF : F_matrix_Apply K a0 a1 = some r) : Ct Tryz.prog 59 [.vc (pS (cSl cQ) a0), .vc (pS cQ a1)] (.t2 (.vc (pS cQ r.1)) (.vc (pI .i64 r.2))) := by
  unfold F_matrix_Apply at hF
  refine ctO_intro Tryz.func59 rfl (by kernel_rfl) Tryz.ntmps59 rfl (fun w0 M0 => ?_)
  refine r_seq (r_reg (r_op (t_mv (.inr rfl)) ⟨k_nil cQ, trivial⟩ ?_))
  refine r_op (t_mv (.inr rfl)) ⟨k_I _ _, trivial⟩ ?_
  refine r_nil (r_next (r_seq (r_seq (r_reg (r_mv ?_)))))
  obtain ⟨v1, h2, hF⟩ := bnd hF
  refine r_op (t_call rfl (ct_matrix_Valid h2) rfl) ⟨rfl, trivial⟩ ?_
  refine r_op (t_not rfl) ⟨rfl, trivial⟩ ?_
  refine r_mv ?_
  refine r_bool (fun h3 => ?_) (fun h3 => ?_)
  · have hF := cnd_t h3 hF
    refine r_opn ?_
    refine r_opn ?_
    refine r_opn ?_
    refine r_opn ?_
    refine r_opn ?_
    refine r_op (t_pickT rfl) ⟨rfl, k_B _, trivial⟩ ?_
    refine r_nil (r_next (r_ifT rfl ?_))
    refine r_seq (r_reg (r_op (t_mv (.inr rfl)) ⟨k_nil cQ, trivial⟩ ?_))
    refine r_op (t_mv (.inr rfl)) ⟨k_I _ _, trivial⟩ ?_
    refine r_nil (r_next (r_ret (r_toR ?_)))
    obtain rfl := sm1 hF
    exact r_done1 (.inl rfl) Tryz.results59 (.tmp rfl (.tmp rfl .nil)) rfl rfl
  · have hF := cnd_f h3 hF
    refine r_opg (t_mv (.inl rfl)) ⟨rfl, trivial⟩ ?_
    refine r_opg (t_ln rfl tyS24) ⟨rfl, trivial⟩ ?_
    refine r_opg (t_mv (.inl rfl)) ⟨rfl, trivial⟩ ?_
    obtain ⟨v4, h5, hF⟩ := bnd hF
    refine r_opg (t_call rfl (ct_matrix_cols h5) rfl) ⟨rfl, trivial⟩ ?_
    refine r_opg (t_ne rfl) ⟨rfl, rfl, trivial⟩ ?_
    refine r_op (t_pickF rfl) ⟨rfl, rfl, trivial⟩ ?_
    refine r_nil (r_next (r_if rfl (fun h6 => ?_) (fun h6 => ?_)))
    · have hF := cnd_t h6 hF
      refine r_seq (r_reg (r_op (t_mv (.inr rfl)) ⟨k_nil cQ, trivial⟩ ?_))
      refine r_op (t_mv (.inr rfl)) ⟨k_I _ _, trivial⟩ ?_
      refine r_nil (r_next (r_ret (r_toR ?_)))
      obtain rfl := sm1 hF
      exact r_done1 (.inl rfl) Tryz.results59 (.tmp rfl (.tmp rfl .nil)) rfl rfl
    · have hF := cnd_f h6 hF
      refine r_skip (r_next (r_seq (r_reg (r_mv ?_))))
      refine r_mv ?_
      obtain ⟨v7, h8, hF⟩ := bnd hF
      refine r_op (t_call rfl (ct_matrix_applied h8) rfl) ⟨rfl, rfl, trivial⟩ ?_
      refine r_as ?_
      refine r_op (t_mv (.inr rfl)) ⟨k_I _ _, trivial⟩ ?_
      refine r_nil (r_next (r_ret (r_toR ?_)))
      obtain rfl := sm1 hF
      exact r_done1 (.inl rfl) Tryz.results59 (.tmp rfl (.tmp rfl .nil)) rfl rfl
def F_matrix_Turn (K : Nat) (a0 : List (List Rat)) : Option ((List (List Rat)) × Int) :=
  (F_matrix_Valid K a0).bind fun v1 => bif (!v1) then (some ([], 1)) else ((F_matrix_turned K a0).bind fun v4 => some (v4, 0))
set_option maxRecDepth 100000 in
theorem ct_matrix_Turn {K : Nat} {a0 : List (List Rat)} {r : (List (List Rat)) × Int} (hF : F_matrix_Turn K a0 = some r) : Ct Tryz.prog 60 [.vc (pS (cSl cQ) a0)] (.t2 (.vc (pS (cSl cQ) r.1)) (.vc (pI .i64 r.2))) := by
  unfold F_matrix_Turn at hF
  refine ctO_intro Tryz.func60 rfl (by kernel_rfl) Tryz.ntmps60 rfl (fun w0 M0 => ?_)
  refine r_seq (r_reg (r_op (t_mv (.inr rfl)) ⟨k_nil (cSl cQ), trivial⟩ ?_))
  refine r_op (t_mv (.inr rfl)) ⟨k_I _ _, trivial⟩ ?_
  refine r_nil (r_next (r_seq (r_seq (r_reg (r_mv ?_)))))
  obtain ⟨v1, h2, hF⟩ := bnd hF
  refine r_op (t_call rfl (ct_matrix_Valid h2) rfl) ⟨rfl, trivial⟩ ?_
  refine r_op (t_not rfl) ⟨rfl, trivial⟩ ?_
  refine r_nil (r_next (r_if rfl (fun h3 => ?_) (fun h3 => ?_)))
  · have hF := cnd_t h3 hF
    refine r_seq (r_reg (r_op (t_mv (.inr rfl)) ⟨k_nil (cSl cQ), trivial⟩ ?_))
    refine r_op (t_mv (.inr rfl)) ⟨k_I _ _, trivial⟩ ?_
    refine r_nil (r_next (r_ret (r_toR ?_)))
    obtain rfl := sm1 hF
    exact r_done1 (.inl rfl) Tryz.results60 (.tmp rfl (.tmp rfl .nil)) rfl rfl
  · have hF := cnd_f h3 hF
    refine r_skip (r_next (r_seq (r_reg (r_mv ?_))))
    obtain ⟨v4, h5, hF⟩ := bnd hF
    refine r_op (t_call rfl (ct_matrix_turned h5) rfl) ⟨rfl, trivial⟩ ?_
    refine r_as ?_
    refine r_op (t_mv (.inr rfl)) ⟨k_I _ _, trivial⟩ ?_
    refine r_nil (r_next (r_ret (r_toR ?_)))
    obtain rfl := sm1 hF
    exact r_done1 (.inl rfl) Tryz.results60 (.tmp rfl (.tmp rfl .nil)) rfl rfl
def F_gantryref09_Turn_j24 (K : Nat) (x17 : List (List Rat)) : Option (List (List Rat)) :=
  some x17
def F_gantryref09_Turn_j51 (K : Nat) (x10 : List (List Rat)) (x16 : Int) (recl23 : (List (List Rat)) → Int → Option (List (List Rat))) (x44 : List Rat) : Option (List (List Rat)) :=
  (apL x10 [x44]).bind fun x52 => (chk (x16 + 1)).bind fun v59 => recl23 x52 v59
def F_gantryref09_Turn_l50 (K : Nat) (a0 : List (List Rat)) (x16 : Int) : Nat → (List Rat) → Int → Option (List Rat)
  | 0, _, _ => none
  | k + 1, x37, x43 => bif (decide (x43 < (a0.length : Int))) then ((rdL a0 x43).bind fun v62 => (rdL v62 x16).bind fun v64 => (apL x37 [v64]).bind fun x66 => (chk (x43 + 1)).bind fun v73 => F_gantryref09_Turn_l50 K a0 x16 k x66 v73) else (some x37)
def F_gantryref09_Turn_l23 (K : Nat) (a0 : List (List Rat)) : Nat → (List (List Rat)) → Int → Option (List (List Rat))
  | 0, _, _ => none
  | k + 1, x10, x16 => (F_gantryref09_Cols a0).bind fun v25 => bif (decide (x16 < v25)) then ((F_gantryref09_Turn_l50 K a0 x16 K ([] : List Rat) 0).bind fun x44 => F_gantryref09_Turn_j51 K x10 x16 (F_gantryref09_Turn_l23 K a0 k) x44) else (some x10)
def F_gantryref09_Turn (K : Nat) (a0 : List (List Rat)) : Option (List (List Rat)) :=
  (F_gantryref09_Turn_l23 K a0 K ([] : List (List Rat)) 0).bind fun x17 => F_gantryref09_Turn_j24 K x17
set_option maxRecDepth 100000 in
theorem ct_gantryref09_Turn {K : Nat} {a0 : List (List Rat)} {r : List (List Rat)} (hF : F_gantryref09_Turn K a0 = some r) : Ct Tryz.prog 62 [.vc (pS (cSl cQ) a0)] (.vc (pS (cSl cQ) r)) := by
  unfold F_gantryref09_Turn at hF
  refine ctO_intro Tryz.func62 rfl (by kernel_rfl) Tryz.ntmps62 rfl (fun w0 M0 => ?_)
  refine r_seq (r_reg (r_op (t_mv (.inr rfl)) ⟨k_nil (cSl cQ), trivial⟩ ?_))
  refine r_nil (r_next (r_seq (r_reg (r_nilO (cSl cQ) 24 rfl ?_))))
  refine r_nil (r_next (r_seq (r_seq (r_reg (r_op (t_mv (.inr rfl)) ⟨k_I _ _, trivial⟩ ?_)))))
  refine r_nil (r_next (r_blk (r_cutN (fun H E => ∃ (x17 : List (List Rat)), ∃ (b18 : Option Nat), ∃ (c19 : Nat), ∃ (n20 : Nat), F_gantryref09_Turn_j24 K x17 = some r ∧ x17.length = n20 ∧ H = [hO (cSl cQ) b18 c19 24 n20 x17] ∧ E = [(3, .vc (pO b18 n20 c19))]) ?_ (fun Jj24 => ?_))))
  · rintro _ _ ⟨x17, b18, c19, n20, hF, q21, rfl, rfl⟩
    unfold F_gantryref09_Turn_j24 at hF
    refine r_next (r_seq (r_reg (r_mv ?_)))
    refine r_as ?_
    refine r_nil (r_next (r_ret (r_toR (r_fzX 0 [2, 3, 33] rfl q21 ⟨rfl, rfl, rfl, trivial⟩ rfl ?_))))
    obtain rfl := sm1 hF
    exact r_done1 (.inl rfl) Tryz.results62 (.tmp rfl .nil) rfl rfl
  · skip
    obtain ⟨x17', hL, hRl23⟩ := bnd hF
    refine r_lp (fun k a w => ∃ (x10 : List (List Rat)), ∃ (x16 : Int), ∃ (b11 : Option Nat), ∃ (c12 : Nat), ∃ (n13 : Nat), F_gantryref09_Turn_l23 K a0 k x10 x16 = some x17' ∧ x10.length = n13 ∧ hs _ [hO (cSl cQ) b11 c12 24 n13 x10] [(0, .vc (pS (cSl cQ) a0)), (3, .vc (pO b11 n13 c12)), (4, .vc (pI .i64 x16))] a w) K (fun a w ⟨_, _, _, _, _, hF, _, _⟩ => by cases hF) (fun k a w ⟨x10, x16, b11, c12, n13, hF, q14, hh⟩ => r_at ?_ hh) (fun a w hh => ⟨([] : List (List Rat)), 0, none, 0, 0, hL, rfl, hs_back [0] rfl (by decide) (by exact ⟨rfl, rfl, rfl, trivial⟩) hh⟩)
    rw [F_gantryref09_Turn_l23.eq_2] at hF
    refine r_seq (r_seq (r_reg (r_mv ?_)))
    refine r_mv ?_
    obtain ⟨v25, h26, hF⟩ := bnd hF
    refine r_op (t_call rfl (ct_gantryref09_Cols h26) rfl) ⟨rfl, trivial⟩ ?_
    refine r_op (t_lt rfl) ⟨rfl, rfl, trivial⟩ ?_
    refine r_nil (r_next (r_if rfl (fun h27 => ?_) (fun h27 => ?_)))
    · have hF := cnd_t h27 hF
      refine r_skip (r_next (r_seq (r_blk (r_seq (r_reg (r_nilO cQ 35 rfl ?_))))))
      refine r_nil (r_next (r_seq (r_seq (r_reg (r_op (t_mv (.inr rfl)) ⟨k_I _ _, trivial⟩ ?_)))))
      refine r_nil (r_next (r_blk (r_cutN (fun H E => ∃ (x44 : List Rat), ∃ (b45 : Option Nat), ∃ (c46 : Nat), ∃ (n47 : Nat), F_gantryref09_Turn_j51 K x10 x16 (F_gantryref09_Turn_l23 K a0 k) x44 = some x17' ∧ x44.length = n47 ∧ H = [hO cQ b45 c46 35 n47 x44, hO (cSl cQ) b11 c12 24 n13 x10] ∧ E = [(0, .vc (pS (cSl cQ) a0)), (3, .vc (pO b11 n13 c12)), (4, .vc (pI .i64 x16)), (5, .vc (pO b45 n47 c46))]) ?_ (fun Jj51 => ?_))))
      · rintro _ _ ⟨x44, b45, c46, n47, hF, q48, rfl, rfl⟩
        unfold F_gantryref09_Turn_j51 at hF
        refine r_next (r_reg (r_mv ?_))
        refine r_mv ?_
        refine r_fzL 0 [5, 30] rfl q48 ⟨rfl, rfl, trivial⟩ rfl ?_
        refine r_op (t_bs (C := (cSl cQ)) (xs := [.tmp 30]) (ps := [.vc (pS cQ x44)]) (zs := [x44]) rfl tyS47 rfl ⟨⟨trivial, rfl⟩, trivial⟩ rfl) ⟨rfl, trivial⟩ ?_
        obtain ⟨x52, h53, hF⟩ := bnd hF
        refine r_app 0 rfl tyS47 rfl rfl q14 rfl rfl h53 (fun b54 c55 H56 e57 => ?_)
        cases e57
        refine r_as ?_
        refine r_nil (r_blkN (r_next (r_reg (r_mv ?_))))
        obtain ⟨v59, h60, hF⟩ := bnd hF
        refine r_op (t_add rfl h60) ⟨rfl, k_I _ _, trivial⟩ ?_
        refine r_as ?_
        refine r_nil ?_
        exact r_round (fun a w hh => ⟨x52, v59, b54, c55, (n13 + [x44].length), hF, (apL_len h53 q14), hs_back [0] rfl (by decide) (by exact ⟨rfl, rfl, rfl, trivial⟩) hh⟩)
      · skip
        obtain ⟨x44', hL, hRl50⟩ := bnd hF
        refine r_lp (fun k a w => ∃ (x37 : List Rat), ∃ (x43 : Int), ∃ (b38 : Option Nat), ∃ (c39 : Nat), ∃ (n40 : Nat), F_gantryref09_Turn_l50 K a0 x16 k x37 x43 = some x44' ∧ x37.length = n40 ∧ hs _ [hO cQ b38 c39 35 n40 x37, hO (cSl cQ) b11 c12 24 n13 x10] [(0, .vc (pS (cSl cQ) a0)), (3, .vc (pO b11 n13 c12)), (4, .vc (pI .i64 x16)), (5, .vc (pO b38 n40 c39)), (6, .vc (pI .i64 x43))] a w) K (fun a w ⟨_, _, _, _, _, hF, _, _⟩ => by cases hF) (fun k a w ⟨x37, x43, b38, c39, n40, hF, q41, hh⟩ => r_at ?_ hh) (fun a w hh => ⟨([] : List Rat), 0, none, 0, 0, hL, rfl, hs_back [0, 1] rfl (by decide) (by exact ⟨rfl, rfl, rfl, rfl, rfl, trivial⟩) hh⟩)
        rw [F_gantryref09_Turn_l50.eq_2] at hF
        refine r_seq (r_seq (r_reg (r_mv ?_)))
        refine r_mv ?_
        refine r_op (t_ln rfl tyS47) ⟨rfl, trivial⟩ ?_
        refine r_op (t_lt rfl) ⟨rfl, rfl, trivial⟩ ?_
        refine r_nil (r_next (r_if rfl (fun h61 => ?_) (fun h61 => ?_)))
        · have hF := cnd_t h61 hF
          refine r_skip (r_next (r_seq (r_blk (r_reg (r_mv ?_)))))
          refine r_mv ?_
          refine r_mv ?_
          obtain ⟨v62, h63, hF⟩ := bnd hF
          refine r_op (t_ix rfl tyS47 h63) ⟨rfl, rfl, trivial⟩ ?_
          refine r_op (t_lM 1 rfl rfl (.one tyO24)) ⟨rfl, trivial⟩ ?_
          refine r_mv ?_
          obtain ⟨v64, h65, hF⟩ := bnd hF
          refine r_op (t_ix rfl tyS24 h65) ⟨rfl, rfl, trivial⟩ ?_
          refine r_op (t_lM 4 rfl rfl (.agg tyA35)) ⟨rfl, trivial⟩ ?_
          refine r_op (t_bs (C := cQ) (xs := [.tmp 26]) (ps := [.va (eQ v64)]) (zs := [v64]) rfl tyS24 rfl ⟨⟨trivial, rfl⟩, trivial⟩ rfl) ⟨rfl, trivial⟩ ?_
          obtain ⟨x66, h67, hF⟩ := bnd hF
          refine r_app 0 rfl tyS24 rfl rfl q41 rfl rfl h67 (fun b68 c69 H70 e71 => ?_)
          cases e71
          refine r_as ?_
          refine r_nil (r_blkN (r_next (r_reg (r_mv ?_))))
          obtain ⟨v73, h74, hF⟩ := bnd hF
          refine r_op (t_add rfl h74) ⟨rfl, k_I _ _, trivial⟩ ?_
          refine r_as ?_
          refine r_nil ?_
          exact r_round (fun a w hh => ⟨x66, v73, b68, c69, (n40 + [v64].length), hF, (apL_len h67 q41), hs_back [0, 1] rfl (by decide) (by exact ⟨rfl, rfl, rfl, rfl, rfl, trivial⟩) hh⟩)
        · have hF := cnd_f h61 hF
          refine r_brk ?_
          obtain rfl := sm1 hF
          exact r_backJ Jj51 ⟨x37, b38, c39, n40, hRl50, q41, rfl, rfl⟩ [0, 1] rfl ⟨rfl, rfl, rfl, rfl, trivial⟩
    · have hF := cnd_f h27 hF
      refine r_brk ?_
      obtain rfl := sm1 hF
      exact r_backJ Jj24 ⟨x10, b11, c12, n13, hRl23, q14, rfl, rfl⟩ [0] rfl ⟨rfl, trivial⟩
def F_gantryref09_Mul_j26 (K : Nat) (x19 : List (List Rat)) : Option (List (List Rat)) :=
  some x19
def F_gantryref09_Mul_l25 (K : Nat) (a0 : List (List Rat)) (v1 : List (List Rat)) : Nat → (List (List Rat)) → Int → Option (List (List Rat))
  | 0, _, _ => none
  | k + 1, x12, x18 => bif (decide (x18 < (a0.length : Int))) then ((rdL a0 x18).bind fun v28 => (F_gantryref09_Apply K v1 v28).bind fun v30 => (apL x12 [v30]).bind fun x32 => (chk (x18 + 1)).bind fun v39 => F_gantryref09_Mul_l25 K a0 v1 k x32 v39) else (some x12)
def F_gantryref09_Mul (K : Nat) (a0 : List (List Rat)) (a1 : List (List Rat)) : Option (List (List Rat)) :=
  (F_gantryref09_Turn K a1).bind fun v1 => (F_gantryref09_Mul_l25 K a0 v1 K ([] : List (List Rat)) 0).bind fun x19 => F_gantryref09_Mul_j26 K x19
set_option maxRecDepth 100000 in
theorem ct_gantryref09_Mul {K : Nat} {a0 : List (List Rat)} {a1 : List (List Rat)} {r : List (List Rat)} (hF : F_gantryref09_Mul K a0 a1 = some r) : Ct Tryz.prog 63 [.vc (pS (cSl cQ) a0), .vc (pS (cSl cQ) a1)] (.vc (pS (cSl cQ) r)) := by
  unfold F_gantryref09_Mul at hF
  refine ctO_intro Tryz.func63 rfl (by kernel_rfl) Tryz.ntmps63 rfl (fun w0 M0 => ?_)
  refine r_seq (r_reg (r_op (t_mv (.inr rfl)) ⟨k_nil (cSl cQ), trivial⟩ ?_))
  refine r_nil (r_next (r_seq (r_reg (r_mv ?_))))
  obtain ⟨v1, h2, hF⟩ := bnd hF
  refine r_op (t_call rfl (ct_gantryref09_Turn h2) rfl) ⟨rfl, trivial⟩ ?_
  refine r_as ?_
  refine r_nil (r_next (r_seq (r_reg (r_nilO (cSl cQ) 24 rfl ?_))))
  refine r_nil (r_next (r_seq (r_seq (r_reg (r_op (t_mv (.inr rfl)) ⟨k_I _ _, trivial⟩ ?_)))))
  refine r_nil (r_next (r_blk (r_cutN (fun H E => ∃ (x19 : List (List Rat)), ∃ (b20 : Option Nat), ∃ (c21 : Nat), ∃ (n22 : Nat), F_gantryref09_Mul_j26 K x19 = some r ∧ x19.length = n22 ∧ H = [hO (cSl cQ) b20 c21 24 n22 x19] ∧ E = [(6, .vc (pO b20 n22 c21))]) ?_ (fun Jj26 => ?_))))
  · rintro _ _ ⟨x19, b20, c21, n22, hF, q23, rfl, rfl⟩
    unfold F_gantryref09_Mul_j26 at hF
    refine r_next (r_seq (r_reg (r_mv ?_)))
    refine r_as ?_
    refine r_nil (r_next (r_ret (r_toR (r_fzX 0 [4, 6, 25] rfl q23 ⟨rfl, rfl, rfl, trivial⟩ rfl ?_))))
    obtain rfl := sm1 hF
    exact r_done1 (.inl rfl) Tryz.results63 (.tmp rfl .nil) rfl rfl
  · skip
    obtain ⟨x19', hL, hRl25⟩ := bnd hF
    refine r_lp (fun k a w => ∃ (x12 : List (List Rat)), ∃ (x18 : Int), ∃ (b13 : Option Nat), ∃ (c14 : Nat), ∃ (n15 : Nat), F_gantryref09_Mul_l25 K a0 v1 k x12 x18 = some x19' ∧ x12.length = n15 ∧ hs _ [hO (cSl cQ) b13 c14 24 n15 x12] [(0, .vc (pS (cSl cQ) a0)), (5, .vc (pS (cSl cQ) v1)), (6, .vc (pO b13 n15 c14)), (7, .vc (pI .i64 x18))] a w) K (fun a w ⟨_, _, _, _, _, hF, _, _⟩ => by cases hF) (fun k a w ⟨x12, x18, b13, c14, n15, hF, q16, hh⟩ => r_at ?_ hh) (fun a w hh => ⟨([] : List (List Rat)), 0, none, 0, 0, hL, rfl, hs_back [0] rfl (by decide) (by exact ⟨rfl, rfl, rfl, rfl, trivial⟩) hh⟩)
    rw [F_gantryref09_Mul_l25.eq_2] at hF
    refine r_seq (r_seq (r_reg (r_mv ?_)))
    refine r_mv ?_
    refine r_op (t_ln rfl tyS47) ⟨rfl, trivial⟩ ?_
    refine r_op (t_lt rfl) ⟨rfl, rfl, trivial⟩ ?_
    refine r_nil (r_next (r_if rfl (fun h27 => ?_) (fun h27 => ?_)))
    · have hF := cnd_t h27 hF
      refine r_skip (r_next (r_seq (r_blk (r_reg (r_mv ?_)))))
      refine r_mv ?_
      refine r_mv ?_
      refine r_mv ?_
      obtain ⟨v28, h29, hF⟩ := bnd hF
      refine r_op (t_ix rfl tyS47 h29) ⟨rfl, rfl, trivial⟩ ?_
      refine r_op (t_lM 1 rfl rfl (.one tyO24)) ⟨rfl, trivial⟩ ?_
      obtain ⟨v30, h31, hF⟩ := bnd hF
      refine r_op (t_call rfl (ct_gantryref09_Apply h31) rfl) ⟨rfl, rfl, trivial⟩ ?_
      refine r_op (t_bs (C := (cSl cQ)) (xs := [.tmp 22]) (ps := [.vc (pS cQ v30)]) (zs := [v30]) rfl tyS47 rfl ⟨⟨trivial, rfl⟩, trivial⟩ rfl) ⟨rfl, trivial⟩ ?_
      obtain ⟨x32, h33, hF⟩ := bnd hF
      refine r_app 0 rfl tyS47 rfl rfl q16 rfl rfl h33 (fun b34 c35 H36 e37 => ?_)
      cases e37
      refine r_as ?_
      refine r_nil (r_blkN (r_next (r_reg (r_mv ?_))))
      obtain ⟨v39, h40, hF⟩ := bnd hF
      refine r_op (t_add rfl h40) ⟨rfl, k_I _ _, trivial⟩ ?_
      refine r_as ?_
      refine r_nil ?_
      exact r_round (fun a w hh => ⟨x32, v39, b34, c35, (n15 + [v30].length), hF, (apL_len h33 q16), hs_back [0] rfl (by decide) (by exact ⟨rfl, rfl, rfl, rfl, trivial⟩) hh⟩)
    · have hF := cnd_f h27 hF
      refine r_brk ?_
      obtain rfl := sm1 hF
      exact r_backJ Jj26 ⟨x12, b13, c14, n15, hRl25, q16, rfl, rfl⟩ [0] rfl ⟨rfl, trivial⟩
def F_gantrylaw09_MatrixProducts (K : Nat) (a0 : List Int) (a1 : List Int) (a2 : Int) (a3 : Int) (a4 : Int) : Option Bool :=
  (F_gantrylaw09_sizes a2).bind fun v1 => (F_gantrylaw09_sizes a3).bind fun v3 => (F_gantryref09_Matrix K a0 0 v1.1 v1.2).bind fun v5 => (F_gantryref09_Matrix K a1 0 v3.1 v3.2).bind fun v7 => (F_gantryref09_Row K a1 3 v3.1).bind fun v9 => (F_gantrylaw09_ragged v5 a4).bind fun v11 => (F_matrix_Mul K v5 v7).bind fun v13 => (F_matrix_Apply K v5 v9).bind fun v15 => (F_matrix_Turn K v5).bind fun v17 => (F_matrix_Turn K v11).bind fun v19 => (F_matrix_Mul K v11 v7).bind fun v21 => (F_matrix_Mul K v7 v11).bind fun v23 => (F_matrix_Apply K v11 v9).bind fun v25 => bif (v19.2 != 1) then (some false) else (bif (v21.2 != 1) then (some false) else (bif (v23.2 != 1) then (some false) else (bif (v25.2 != 1) then (some false) else ((F_matrix_Valid K v11).bind fun v31 => bif v31 then (some false) else ((F_matrix_Valid K v5).bind fun v34 => bif (!v34) then (some false) else (bif (v17.2 != 0) then (some false) else ((F_gantryref09_Turn K v5).bind fun v38 => (F_gantryref09_Same K v17.1 v38).bind fun v40 => bif (!v40) then (some false) else (bif (v1.2 != v3.1) then (bif (v13.2 == 1) then (bif (v15.2 == 1) then ((chk ((v13.1.length : Int) + (v15.1.length : Int))).bind fun v46 => bif (v46 == 0) then ((F_gantrylaw09_lives K ).bind fun v49 => some v49) else (some false)) else (some false)) else (some false)) else (bif (v13.2 == 0) then (bif (v15.2 == 0) then ((F_gantryref09_Mul K v5 v7).bind fun v53 => (F_gantryref09_Same K v13.1 v53).bind fun v55 => bif v55 then ((F_gantryref09_Apply K v5 v9).bind fun v58 => (F_gantryref09_SameRow K v15.1 v58).bind fun v60 => bif v60 then ((F_gantrylaw09_lives K ).bind fun v63 => some v63) else (some false)) else (some false)) else (some false)) else (some false))))))))))
set_option maxRecDepth 100000 in
theorem ct_gantrylaw09_MatrixProducts {K : Nat} {a0 : List Int} {a1 : List Int} {a2 : Int} {a3 : Int} {a4 : Int} {r : Bool} (hF : F_gantrylaw09_MatrixProducts K a0 a1 a2 a3 a4 = some r) : Ct Tryz.prog 9 [.vc (pS cI a0), .vc (pS cI a1), .vc (pI .i64 a2), .vc (pI .i64 a3), .vc (pI .i64 a4)] (.vc (pB r)) := by
  unfold F_gantrylaw09_MatrixProducts at hF
  refine ctO_intro Tryz.func9 rfl (by kernel_rfl) Tryz.ntmps9 rfl (fun w0 M0 => ?_)
  refine r_seq (r_reg (r_op (t_mv (.inr rfl)) ⟨k_B _, trivial⟩ ?_))
  refine r_nil (r_next (r_seq (r_reg (r_mv ?_))))
  obtain ⟨v1, h2, hF⟩ := bnd hF
  refine r_op (t_call rfl (ct_gantrylaw09_sizes h2) rfl) ⟨rfl, trivial⟩ ?_
  refine r_mv ?_
  refine r_op (t_ext2a rfl) ⟨rfl, trivial⟩ ?_
  refine r_op (t_ext2b rfl) ⟨rfl, trivial⟩ ?_
  refine r_as ?_
  refine r_as ?_
  refine r_nil (r_next (r_seq (r_reg (r_mv ?_))))
  obtain ⟨v3, h4, hF⟩ := bnd hF
  refine r_op (t_call rfl (ct_gantrylaw09_sizes h4) rfl) ⟨rfl, trivial⟩ ?_
  refine r_mv ?_
  refine r_op (t_ext2a rfl) ⟨rfl, trivial⟩ ?_
  refine r_op (t_ext2b rfl) ⟨rfl, trivial⟩ ?_
  refine r_as ?_
  refine r_as ?_
  refine r_nil (r_next (r_seq (r_reg (r_mv ?_))))
  refine r_mv ?_
  refine r_mv ?_
  obtain ⟨v5, h6, hF⟩ := bnd hF
  refine r_op (t_call rfl (ct_gantryref09_Matrix h6) rfl) ⟨rfl, k_I _ _, rfl, rfl, trivial⟩ ?_
  refine r_as ?_
  refine r_nil (r_next (r_seq (r_reg (r_mv ?_))))
  refine r_mv ?_
  refine r_mv ?_
  obtain ⟨v7, h8, hF⟩ := bnd hF
  refine r_op (t_call rfl (ct_gantryref09_Matrix h8) rfl) ⟨rfl, k_I _ _, rfl, rfl, trivial⟩ ?_
  refine r_as ?_
  refine r_nil (r_next (r_seq (r_reg (r_mv ?_))))
  refine r_mv ?_
  obtain ⟨v9, h10, hF⟩ := bnd hF
  refine r_op (t_call rfl (ct_gantryref09_Row h10) rfl) ⟨rfl, k_I _ _, rfl, trivial⟩ ?_
  refine r_as ?_
  refine r_nil (r_next (r_seq (r_reg (r_mv ?_))))
  refine r_mv ?_
  obtain ⟨v11, h12, hF⟩ := bnd hF
  refine r_op (t_call rfl (ct_gantrylaw09_ragged h12) rfl) ⟨rfl, rfl, trivial⟩ ?_
  refine r_as ?_
  refine r_nil (r_next (r_seq (r_reg (r_mv ?_))))
  refine r_mv ?_
  obtain ⟨v13, h14, hF⟩ := bnd hF
  refine r_op (t_call rfl (ct_matrix_Mul h14) rfl) ⟨rfl, rfl, trivial⟩ ?_
  refine r_mv ?_
  refine r_op (t_ext2a rfl) ⟨rfl, trivial⟩ ?_
  refine r_op (t_ext2b rfl) ⟨rfl, trivial⟩ ?_
  refine r_as ?_
  refine r_as ?_
  refine r_nil (r_next (r_seq (r_reg (r_mv ?_))))
  refine r_mv ?_
  obtain ⟨v15, h16, hF⟩ := bnd hF
  refine r_op (t_call rfl (ct_matrix_Apply h16) rfl) ⟨rfl, rfl, trivial⟩ ?_
  refine r_mv ?_
  refine r_op (t_ext2a rfl) ⟨rfl, trivial⟩ ?_
  refine r_op (t_ext2b rfl) ⟨rfl, trivial⟩ ?_
  refine r_as ?_
  refine r_as ?_
  refine r_nil (r_next (r_seq (r_reg (r_mv ?_))))
  obtain ⟨v17, h18, hF⟩ := bnd hF
  refine r_op (t_call rfl (ct_matrix_Turn h18) rfl) ⟨rfl, trivial⟩ ?_
  refine r_mv ?_
  refine r_op (t_ext2a rfl) ⟨rfl, trivial⟩ ?_
  refine r_op (t_ext2b rfl) ⟨rfl, trivial⟩ ?_
  refine r_as ?_
  refine r_as ?_
  refine r_nil (r_next (r_seq (r_reg (r_mv ?_))))
  obtain ⟨v19, h20, hF⟩ := bnd hF
  refine r_op (t_call rfl (ct_matrix_Turn h20) rfl) ⟨rfl, trivial⟩ ?_
  refine r_mv ?_
  refine r_op (t_ext2a rfl) ⟨rfl, trivial⟩ ?_
  refine r_op (t_ext2b rfl) ⟨rfl, trivial⟩ ?_
  refine r_as ?_
  refine r_as ?_
  refine r_nil (r_next (r_seq (r_reg (r_mv ?_))))
  refine r_mv ?_
  obtain ⟨v21, h22, hF⟩ := bnd hF
  refine r_op (t_call rfl (ct_matrix_Mul h22) rfl) ⟨rfl, rfl, trivial⟩ ?_
  refine r_mv ?_
  refine r_op (t_ext2a rfl) ⟨rfl, trivial⟩ ?_
  refine r_op (t_ext2b rfl) ⟨rfl, trivial⟩ ?_
  refine r_as ?_
  refine r_as ?_
  refine r_nil (r_next (r_seq (r_reg (r_mv ?_))))
  refine r_mv ?_
  obtain ⟨v23, h24, hF⟩ := bnd hF
  refine r_op (t_call rfl (ct_matrix_Mul h24) rfl) ⟨rfl, rfl, trivial⟩ ?_
  refine r_mv ?_
  refine r_op (t_ext2a rfl) ⟨rfl, trivial⟩ ?_
  refine r_op (t_ext2b rfl) ⟨rfl, trivial⟩ ?_
  refine r_as ?_
  refine r_as ?_
  refine r_nil (r_next (r_seq (r_reg (r_mv ?_))))
  refine r_mv ?_
  obtain ⟨v25, h26, hF⟩ := bnd hF
  refine r_op (t_call rfl (ct_matrix_Apply h26) rfl) ⟨rfl, rfl, trivial⟩ ?_
  refine r_mv ?_
  refine r_op (t_ext2a rfl) ⟨rfl, trivial⟩ ?_
  refine r_op (t_ext2b rfl) ⟨rfl, trivial⟩ ?_
  refine r_as ?_
  refine r_as ?_
  refine r_nil (r_next (r_seq (r_seq (r_reg (r_mv ?_)))))
  refine r_op (t_ne rfl) ⟨rfl, k_I _ _, trivial⟩ ?_
  refine r_mv ?_
  refine r_bool (fun h27 => ?_) (fun h27 => ?_)
  · have hF := cnd_t h27 hF
    refine r_opn ?_
    refine r_opn ?_
    refine r_op (t_pickT rfl) ⟨rfl, k_B _, trivial⟩ ?_
    refine r_mv ?_
    refine r_opn ?_
    refine r_opn ?_
    refine r_op (t_pickT rfl) ⟨rfl, k_B _, trivial⟩ ?_
    refine r_mv ?_
    refine r_opn ?_
    refine r_opn ?_
    refine r_op (t_pickT rfl) ⟨rfl, k_B _, trivial⟩ ?_
    refine r_mv ?_
    refine r_opn ?_
    refine r_opn ?_
    refine r_op (t_pickT rfl) ⟨rfl, k_B _, trivial⟩ ?_
    refine r_mv ?_
    refine r_opn ?_
    refine r_opn ?_
    refine r_opn ?_
    refine r_op (t_pickT rfl) ⟨rfl, k_B _, trivial⟩ ?_
    refine r_nil (r_next (r_ifT rfl ?_))
    refine r_seq (r_reg (r_op (t_mv (.inr rfl)) ⟨k_B _, trivial⟩ ?_))
    refine r_nil (r_next (r_ret (r_toR ?_)))
    obtain rfl := sm1 hF
    exact r_done1 (.inl rfl) Tryz.results9 (.tmp rfl .nil) rfl rfl
  · have hF := cnd_f h27 hF
    refine r_opg (t_mv (.inl rfl)) ⟨rfl, trivial⟩ ?_
    refine r_opg (t_ne rfl) ⟨rfl, k_I _ _, trivial⟩ ?_
    refine r_op (t_pickF rfl) ⟨rfl, rfl, trivial⟩ ?_
    refine r_mv ?_
    refine r_bool (fun h28 => ?_) (fun h28 => ?_)
    · have hF := cnd_t h28 hF
      refine r_opn ?_
      refine r_opn ?_
      refine r_op (t_pickT rfl) ⟨rfl, k_B _, trivial⟩ ?_
      refine r_mv ?_
      refine r_opn ?_
      refine r_opn ?_
      refine r_op (t_pickT rfl) ⟨rfl, k_B _, trivial⟩ ?_
      refine r_mv ?_
      refine r_opn ?_
      refine r_opn ?_
      refine r_op (t_pickT rfl) ⟨rfl, k_B _, trivial⟩ ?_
      refine r_mv ?_
      refine r_opn ?_
      refine r_opn ?_
      refine r_opn ?_
      refine r_op (t_pickT rfl) ⟨rfl, k_B _, trivial⟩ ?_
      refine r_nil (r_next (r_ifT rfl ?_))
      refine r_seq (r_reg (r_op (t_mv (.inr rfl)) ⟨k_B _, trivial⟩ ?_))
      refine r_nil (r_next (r_ret (r_toR ?_)))
      obtain rfl := sm1 hF
      exact r_done1 (.inl rfl) Tryz.results9 (.tmp rfl .nil) rfl rfl
    · have hF := cnd_f h28 hF
      refine r_opg (t_mv (.inl rfl)) ⟨rfl, trivial⟩ ?_
      refine r_opg (t_ne rfl) ⟨rfl, k_I _ _, trivial⟩ ?_
      refine r_op (t_pickF rfl) ⟨rfl, rfl, trivial⟩ ?_
      refine r_mv ?_
      refine r_bool (fun h29 => ?_) (fun h29 => ?_)
      · have hF := cnd_t h29 hF
        refine r_opn ?_
        refine r_opn ?_
        refine r_op (t_pickT rfl) ⟨rfl, k_B _, trivial⟩ ?_
        refine r_mv ?_
        refine r_opn ?_
        refine r_opn ?_
        refine r_op (t_pickT rfl) ⟨rfl, k_B _, trivial⟩ ?_
        refine r_mv ?_
        refine r_opn ?_
        refine r_opn ?_
        refine r_opn ?_
        refine r_op (t_pickT rfl) ⟨rfl, k_B _, trivial⟩ ?_
        refine r_nil (r_next (r_ifT rfl ?_))
        refine r_seq (r_reg (r_op (t_mv (.inr rfl)) ⟨k_B _, trivial⟩ ?_))
        refine r_nil (r_next (r_ret (r_toR ?_)))
        obtain rfl := sm1 hF
        exact r_done1 (.inl rfl) Tryz.results9 (.tmp rfl .nil) rfl rfl
      · have hF := cnd_f h29 hF
        refine r_opg (t_mv (.inl rfl)) ⟨rfl, trivial⟩ ?_
        refine r_opg (t_ne rfl) ⟨rfl, k_I _ _, trivial⟩ ?_
        refine r_op (t_pickF rfl) ⟨rfl, rfl, trivial⟩ ?_
        refine r_mv ?_
        refine r_bool (fun h30 => ?_) (fun h30 => ?_)
        · have hF := cnd_t h30 hF
          refine r_opn ?_
          refine r_opn ?_
          refine r_op (t_pickT rfl) ⟨rfl, k_B _, trivial⟩ ?_
          refine r_mv ?_
          refine r_opn ?_
          refine r_opn ?_
          refine r_opn ?_
          refine r_op (t_pickT rfl) ⟨rfl, k_B _, trivial⟩ ?_
          refine r_nil (r_next (r_ifT rfl ?_))
          refine r_seq (r_reg (r_op (t_mv (.inr rfl)) ⟨k_B _, trivial⟩ ?_))
          refine r_nil (r_next (r_ret (r_toR ?_)))
          obtain rfl := sm1 hF
          exact r_done1 (.inl rfl) Tryz.results9 (.tmp rfl .nil) rfl rfl
        · have hF := cnd_f h30 hF
          refine r_opg (t_mv (.inl rfl)) ⟨rfl, trivial⟩ ?_
          obtain ⟨v31, h32, hF⟩ := bnd hF
          refine r_opg (t_call rfl (ct_matrix_Valid h32) rfl) ⟨rfl, trivial⟩ ?_
          refine r_op (t_pickF rfl) ⟨rfl, rfl, trivial⟩ ?_
          refine r_mv ?_
          refine r_bool (fun h33 => ?_) (fun h33 => ?_)
          · have hF := cnd_t h33 hF
            refine r_opn ?_
            refine r_opn ?_
            refine r_opn ?_
            refine r_op (t_pickT rfl) ⟨rfl, k_B _, trivial⟩ ?_
            refine r_nil (r_next (r_ifT rfl ?_))
            refine r_seq (r_reg (r_op (t_mv (.inr rfl)) ⟨k_B _, trivial⟩ ?_))
            refine r_nil (r_next (r_ret (r_toR ?_)))
            obtain rfl := sm1 hF
            exact r_done1 (.inl rfl) Tryz.results9 (.tmp rfl .nil) rfl rfl
          · have hF := cnd_f h33 hF
            refine r_opg (t_mv (.inl rfl)) ⟨rfl, trivial⟩ ?_
            obtain ⟨v34, h35, hF⟩ := bnd hF
            refine r_opg (t_call rfl (ct_matrix_Valid h35) rfl) ⟨rfl, trivial⟩ ?_
            refine r_opg (t_not rfl) ⟨rfl, trivial⟩ ?_
            refine r_op (t_pickF rfl) ⟨rfl, rfl, trivial⟩ ?_
            refine r_nil (r_next (r_if rfl (fun h36 => ?_) (fun h36 => ?_)))
            · have hF := cnd_t h36 hF
              refine r_seq (r_reg (r_op (t_mv (.inr rfl)) ⟨k_B _, trivial⟩ ?_))
              refine r_nil (r_next (r_ret (r_toR ?_)))
              obtain rfl := sm1 hF
              exact r_done1 (.inl rfl) Tryz.results9 (.tmp rfl .nil) rfl rfl
            · have hF := cnd_f h36 hF
              refine r_skip (r_next (r_seq (r_seq (r_reg (r_mv ?_)))))
              refine r_op (t_ne rfl) ⟨rfl, k_I _ _, trivial⟩ ?_
              refine r_mv ?_
              refine r_bool (fun h37 => ?_) (fun h37 => ?_)
              · have hF := cnd_t h37 hF
                refine r_opn ?_
                refine r_opn ?_
                refine r_opn ?_
                refine r_opn ?_
                refine r_opn ?_
                refine r_op (t_pickT rfl) ⟨rfl, k_B _, trivial⟩ ?_
                refine r_nil (r_next (r_ifT rfl ?_))
                refine r_seq (r_reg (r_op (t_mv (.inr rfl)) ⟨k_B _, trivial⟩ ?_))
                refine r_nil (r_next (r_ret (r_toR ?_)))
                obtain rfl := sm1 hF
                exact r_done1 (.inl rfl) Tryz.results9 (.tmp rfl .nil) rfl rfl
              · have hF := cnd_f h37 hF
                refine r_opg (t_mv (.inl rfl)) ⟨rfl, trivial⟩ ?_
                refine r_opg (t_mv (.inl rfl)) ⟨rfl, trivial⟩ ?_
                obtain ⟨v38, h39, hF⟩ := bnd hF
                refine r_opg (t_call rfl (ct_gantryref09_Turn h39) rfl) ⟨rfl, trivial⟩ ?_
                obtain ⟨v40, h41, hF⟩ := bnd hF
                refine r_opg (t_call rfl (ct_gantryref09_Same h41) rfl) ⟨rfl, rfl, trivial⟩ ?_
                refine r_opg (t_not rfl) ⟨rfl, trivial⟩ ?_
                refine r_op (t_pickF rfl) ⟨rfl, rfl, trivial⟩ ?_
                refine r_nil (r_next (r_if rfl (fun h42 => ?_) (fun h42 => ?_)))
                · have hF := cnd_t h42 hF
                  refine r_seq (r_reg (r_op (t_mv (.inr rfl)) ⟨k_B _, trivial⟩ ?_))
                  refine r_nil (r_next (r_ret (r_toR ?_)))
                  obtain rfl := sm1 hF
                  exact r_done1 (.inl rfl) Tryz.results9 (.tmp rfl .nil) rfl rfl
                · have hF := cnd_f h42 hF
                  refine r_skip (r_next (r_seq (r_seq (r_reg (r_mv ?_)))))
                  refine r_mv ?_
                  refine r_op (t_ne rfl) ⟨rfl, rfl, trivial⟩ ?_
                  refine r_nil (r_next (r_if rfl (fun h43 => ?_) (fun h43 => ?_)))
                  · have hF := cnd_t h43 hF
                    refine r_seq (r_reg (r_mv ?_))
                    refine r_op (t_eq rfl) ⟨rfl, k_I _ _, trivial⟩ ?_
                    refine r_mv ?_
                    refine r_bool (fun h44 => ?_) (fun h44 => ?_)
                    · have hF := cnd_t h44 hF
                      refine r_opg (t_mv (.inl rfl)) ⟨rfl, trivial⟩ ?_
                      refine r_opg (t_eq rfl) ⟨rfl, k_I _ _, trivial⟩ ?_
                      refine r_op (t_pickT rfl) ⟨rfl, rfl, trivial⟩ ?_
                      refine r_mv ?_
                      refine r_bool (fun h45 => ?_) (fun h45 => ?_)
                      · have hF := cnd_t h45 hF
                        refine r_opg (t_mv (.inl rfl)) ⟨rfl, trivial⟩ ?_
                        refine r_opg (t_ln rfl tyS47) ⟨rfl, trivial⟩ ?_
                        refine r_opg (t_mv (.inl rfl)) ⟨rfl, trivial⟩ ?_
                        refine r_opg (t_ln rfl tyS24) ⟨rfl, trivial⟩ ?_
                        obtain ⟨v46, h47, hF⟩ := bnd hF
                        refine r_opg (t_add rfl h47) ⟨rfl, rfl, trivial⟩ ?_
                        refine r_opg (t_eq rfl) ⟨rfl, k_I _ _, trivial⟩ ?_
                        refine r_op (t_pickT rfl) ⟨rfl, rfl, trivial⟩ ?_
                        refine r_mv ?_
                        refine r_bool (fun h48 => ?_) (fun h48 => ?_)
                        · have hF := cnd_t h48 hF
                          obtain ⟨v49, h50, hF⟩ := bnd hF
                          refine r_opg (t_call rfl (ct_gantrylaw09_lives h50) rfl) trivial ?_
                          refine r_op (t_pickT rfl) ⟨rfl, rfl, trivial⟩ ?_
                          refine r_as ?_
                          refine r_nil (r_next (r_ret (r_toR ?_)))
                          obtain rfl := sm1 hF
                          exact r_done1 (.inl rfl) Tryz.results9 (.tmp rfl .nil) rfl rfl
                        · have hF := cnd_f h48 hF
                          refine r_opn ?_
                          refine r_op (t_pickF rfl) ⟨rfl, k_B _, trivial⟩ ?_
                          refine r_as ?_
                          refine r_nil (r_next (r_ret (r_toR ?_)))
                          obtain rfl := sm1 hF
                          exact r_done1 (.inl rfl) Tryz.results9 (.tmp rfl .nil) rfl rfl
                      · have hF := cnd_f h45 hF
                        refine r_opn ?_
                        refine r_opn ?_
                        refine r_opn ?_
                        refine r_opn ?_
                        refine r_opn ?_
                        refine r_opn ?_
                        refine r_op (t_pickF rfl) ⟨rfl, k_B _, trivial⟩ ?_
                        refine r_mv ?_
                        refine r_opn ?_
                        refine r_op (t_pickF rfl) ⟨rfl, k_B _, trivial⟩ ?_
                        refine r_as ?_
                        refine r_nil (r_next (r_ret (r_toR ?_)))
                        obtain rfl := sm1 hF
                        exact r_done1 (.inl rfl) Tryz.results9 (.tmp rfl .nil) rfl rfl
                    · have hF := cnd_f h44 hF
                      refine r_opn ?_
                      refine r_opn ?_
                      refine r_op (t_pickF rfl) ⟨rfl, k_B _, trivial⟩ ?_
                      refine r_mv ?_
                      refine r_opn ?_
                      refine r_opn ?_
                      refine r_opn ?_
                      refine r_opn ?_
                      refine r_opn ?_
                      refine r_opn ?_
                      refine r_op (t_pickF rfl) ⟨rfl, k_B _, trivial⟩ ?_
                      refine r_mv ?_
                      refine r_opn ?_
                      refine r_op (t_pickF rfl) ⟨rfl, k_B _, trivial⟩ ?_
                      refine r_as ?_
                      refine r_nil (r_next (r_ret (r_toR ?_)))
                      obtain rfl := sm1 hF
                      exact r_done1 (.inl rfl) Tryz.results9 (.tmp rfl .nil) rfl rfl
                  · have hF := cnd_f h43 hF
                    refine r_skip (r_next (r_seq (r_reg (r_mv ?_))))
                    refine r_op (t_eq rfl) ⟨rfl, k_I _ _, trivial⟩ ?_
                    refine r_mv ?_
                    refine r_bool (fun h51 => ?_) (fun h51 => ?_)
                    · have hF := cnd_t h51 hF
                      refine r_opg (t_mv (.inl rfl)) ⟨rfl, trivial⟩ ?_
                      refine r_opg (t_eq rfl) ⟨rfl, k_I _ _, trivial⟩ ?_
                      refine r_op (t_pickT rfl) ⟨rfl, rfl, trivial⟩ ?_
                      refine r_mv ?_
                      refine r_bool (fun h52 => ?_) (fun h52 => ?_)
                      · have hF := cnd_t h52 hF
                        refine r_opg (t_mv (.inl rfl)) ⟨rfl, trivial⟩ ?_
                        refine r_opg (t_mv (.inl rfl)) ⟨rfl, trivial⟩ ?_
                        refine r_opg (t_mv (.inl rfl)) ⟨rfl, trivial⟩ ?_
                        obtain ⟨v53, h54, hF⟩ := bnd hF
                        refine r_opg (t_call rfl (ct_gantryref09_Mul h54) rfl) ⟨rfl, rfl, trivial⟩ ?_
                        obtain ⟨v55, h56, hF⟩ := bnd hF
                        refine r_opg (t_call rfl (ct_gantryref09_Same h56) rfl) ⟨rfl, rfl, trivial⟩ ?_
                        refine r_op (t_pickT rfl) ⟨rfl, rfl, trivial⟩ ?_
                        refine r_mv ?_
                        refine r_bool (fun h57 => ?_) (fun h57 => ?_)
                        · have hF := cnd_t h57 hF
                          refine r_opg (t_mv (.inl rfl)) ⟨rfl, trivial⟩ ?_
                          refine r_opg (t_mv (.inl rfl)) ⟨rfl, trivial⟩ ?_
                          refine r_opg (t_mv (.inl rfl)) ⟨rfl, trivial⟩ ?_
                          obtain ⟨v58, h59, hF⟩ := bnd hF
                          refine r_opg (t_call rfl (ct_gantryref09_Apply h59) rfl) ⟨rfl, rfl, trivial⟩ ?_
                          obtain ⟨v60, h61, hF⟩ := bnd hF
                          refine r_opg (t_call rfl (ct_gantryref09_SameRow h61) rfl) ⟨rfl, rfl, trivial⟩ ?_
                          refine r_op (t_pickT rfl) ⟨rfl, rfl, trivial⟩ ?_
                          refine r_mv ?_
                          refine r_bool (fun h62 => ?_) (fun h62 => ?_)
                          · have hF := cnd_t h62 hF
                            obtain ⟨v63, h64, hF⟩ := bnd hF
                            refine r_opg (t_call rfl (ct_gantrylaw09_lives h64) rfl) trivial ?_
                            refine r_op (t_pickT rfl) ⟨rfl, rfl, trivial⟩ ?_
                            refine r_as ?_
                            refine r_nil (r_next (r_ret (r_toR ?_)))
                            obtain rfl := sm1 hF
                            exact r_done1 (.inl rfl) Tryz.results9 (.tmp rfl .nil) rfl rfl
                          · have hF := cnd_f h62 hF
                            refine r_opn ?_
                            refine r_op (t_pickF rfl) ⟨rfl, k_B _, trivial⟩ ?_
                            refine r_as ?_
                            refine r_nil (r_next (r_ret (r_toR ?_)))
                            obtain rfl := sm1 hF
                            exact r_done1 (.inl rfl) Tryz.results9 (.tmp rfl .nil) rfl rfl
                        · have hF := cnd_f h57 hF
                          refine r_opn ?_
                          refine r_opn ?_
                          refine r_opn ?_
                          refine r_opn ?_
                          refine r_opn ?_
                          refine r_op (t_pickF rfl) ⟨rfl, k_B _, trivial⟩ ?_
                          refine r_mv ?_
                          refine r_opn ?_
                          refine r_op (t_pickF rfl) ⟨rfl, k_B _, trivial⟩ ?_
                          refine r_as ?_
                          refine r_nil (r_next (r_ret (r_toR ?_)))
                          obtain rfl := sm1 hF
                          exact r_done1 (.inl rfl) Tryz.results9 (.tmp rfl .nil) rfl rfl
                      · have hF := cnd_f h52 hF
                        refine r_opn ?_
                        refine r_opn ?_
                        refine r_opn ?_
                        refine r_opn ?_
                        refine r_opn ?_
                        refine r_op (t_pickF rfl) ⟨rfl, k_B _, trivial⟩ ?_
                        refine r_mv ?_
                        refine r_opn ?_
                        refine r_opn ?_
                        refine r_opn ?_
                        refine r_opn ?_
                        refine r_opn ?_
                        refine r_op (t_pickF rfl) ⟨rfl, k_B _, trivial⟩ ?_
                        refine r_mv ?_
                        refine r_opn ?_
                        refine r_op (t_pickF rfl) ⟨rfl, k_B _, trivial⟩ ?_
                        refine r_as ?_
                        refine r_nil (r_next (r_ret (r_toR ?_)))
                        obtain rfl := sm1 hF
                        exact r_done1 (.inl rfl) Tryz.results9 (.tmp rfl .nil) rfl rfl
                    · have hF := cnd_f h51 hF
                      refine r_opn ?_
                      refine r_opn ?_
                      refine r_op (t_pickF rfl) ⟨rfl, k_B _, trivial⟩ ?_
                      refine r_mv ?_
                      refine r_opn ?_
                      refine r_opn ?_
                      refine r_opn ?_
                      refine r_opn ?_
                      refine r_opn ?_
                      refine r_op (t_pickF rfl) ⟨rfl, k_B _, trivial⟩ ?_
                      refine r_mv ?_
                      refine r_opn ?_
                      refine r_opn ?_
                      refine r_opn ?_
                      refine r_opn ?_
                      refine r_opn ?_
                      refine r_op (t_pickF rfl) ⟨rfl, k_B _, trivial⟩ ?_
                      refine r_mv ?_
                      refine r_opn ?_
                      refine r_op (t_pickF rfl) ⟨rfl, k_B _, trivial⟩ ?_
                      refine r_as ?_
                      refine r_nil (r_next (r_ret (r_toR ?_)))
                      obtain rfl := sm1 hF
                      exact r_done1 (.inl rfl) Tryz.results9 (.tmp rfl .nil) rfl rfl
end Go.Proofs.YtkjnngaceacmdaaGreat
