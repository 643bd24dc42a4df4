import Derived.Test.YtkjnngaceacmdaaQ1
set_option linter.unusedVariables false
namespace Go.Proofs.Ytkjnngaceacmdaa
def F_gantrylaw09_lives (K : Nat) : Option Bool :=
  (F_gantrylaw09_whole K [1, 2, 3]).bind fun v1 => (F_gantrylaw09_whole K [2, 4, 7]).bind fun v3 => (F_gantrylaw09_whole K [2, 1]).bind fun v5 => (F_gantrylaw09_whole K [1, 2]).bind fun v7 => (F_matrix_Rank K [v1, v3]).bind fun v9 => (F_gantrylaw09_whole K [1, 3]).bind fun v11 => (F_matrix_Solve K [v1, v3] v11).bind fun v13 => (F_matrix_Kernel K [v1, v3]).bind fun v15 => (F_gantrylaw09_whole K [2, 4]).bind fun v17 => (F_gantrylaw09_whole K [1, 2]).bind fun v19 => (F_gantrylaw09_whole K [1, 1]).bind fun v21 => (F_matrix_Solve K [v17, v19] v21).bind fun v23 => (F_matrix_Det K [v5, v7]).bind fun v25 => (F_matrix_Inverse K [v5, v7]).bind fun v28 => bif (v9.2 != 0) then (some false) else (bif (v13.2 != 0) then (some false) else (bif (v15.2 != 0) then (some false) else (bif (v25.2 != 0) then (some false) else (bif (v28.2 != 0) then (some false) else (bif (v23.2 != 6) then (some false) else (bif ((v15.1.length : Int) != 1) then (some false) else ((qof (-1) 3).bind fun v37 => (qof 2 3).bind fun v40 => bif (v9.1 == 2) then ((F_gantrylaw09_whole K [(-2), 0, 1]).bind fun v46 => (F_gantryref09_SameRow K v13.1 v46).bind fun v48 => bif v48 then ((rdL v15.1 0).bind fun v51 => (F_gantrylaw09_whole K [(-2), 1, 0]).bind fun v53 => (F_gantryref09_SameRow K v51 v53).bind fun v55 => bif v55 then ((qof 3 1).bind fun v58 => (qsame v25.1 v58).bind fun v60 => bif v60 then ((F_gantryref09_Same K v28.1 [[v40, v37], [v37, v40]]).bind fun v63 => bif v63 then ((F_matrix_Positive K [v5, v7]).bind fun v66 => bif v66 then ((F_gantrylaw09_whole K [1, 2]).bind fun v69 => (F_gantrylaw09_whole K [2, 1]).bind fun v71 => (F_matrix_Positive K [v69, v71]).bind fun v73 => some (!v73)) else (some false)) else (some false)) else (some false)) else (some false)) else (some false)) else (some false))))))))
set_option maxRecDepth 100000 in
theorem ct_gantrylaw09_lives {K : Nat} {r : Bool} (hF : F_gantrylaw09_lives K = some r) : Ct Try.prog 17 [] (.vc (pB r)) := by
  unfold F_gantrylaw09_lives at hF
  refine ctO_intro Try.func17 rfl (by kernel_rfl) Try.ntmps17 rfl (fun w0 M0 => ?_)
  refine r_seq (r_reg (r_op (t_mv (.inr rfl)) ⟨k_B _, trivial⟩ ?_))
  refine r_nil (r_next (r_seq (r_reg (r_op (t_bs (C := cI) (xs := [.const (.int .i64 (1)), .const (.int .i64 (2)), .const (.int .i64 (3))]) (ps := [.vc (pI .i64 1), .vc (pI .i64 2), .vc (pI .i64 3)]) (zs := [1, 2, 3]) rfl tyS22 rfl ⟨⟨trivial, rfl⟩, ⟨trivial, rfl⟩, ⟨trivial, rfl⟩, trivial⟩ rfl) ⟨k_I _ _, k_I _ _, k_I _ _, trivial⟩ ?_))))
  obtain ⟨v1, h2, hF⟩ := bnd hF
  refine r_op (t_call rfl (ct_gantrylaw09_whole h2) rfl) ⟨rfl, trivial⟩ ?_
  refine r_op (t_bs (C := cI) (xs := [.const (.int .i64 (2)), .const (.int .i64 (4)), .const (.int .i64 (7))]) (ps := [.vc (pI .i64 2), .vc (pI .i64 4), .vc (pI .i64 7)]) (zs := [2, 4, 7]) rfl tyS22 rfl ⟨⟨trivial, rfl⟩, ⟨trivial, rfl⟩, ⟨trivial, rfl⟩, trivial⟩ rfl) ⟨k_I _ _, k_I _ _, k_I _ _, trivial⟩ ?_
  obtain ⟨v3, h4, hF⟩ := bnd hF
  refine r_op (t_call rfl (ct_gantrylaw09_whole h4) rfl) ⟨rfl, trivial⟩ ?_
  refine r_op (t_bs (C := (cSl cQ)) (xs := [.tmp 19, .tmp 21]) (ps := [.vc (pS cQ v1), .vc (pS cQ v3)]) (zs := [v1, v3]) rfl tyS25 rfl ⟨⟨trivial, rfl⟩, ⟨trivial, rfl⟩, trivial⟩ rfl) ⟨rfl, rfl, trivial⟩ ?_
  refine r_as ?_
  refine r_nil (r_next (r_seq (r_reg (r_op (t_bs (C := cI) (xs := [.const (.int .i64 (2)), .const (.int .i64 (1))]) (ps := [.vc (pI .i64 2), .vc (pI .i64 1)]) (zs := [2, 1]) rfl tyS22 rfl ⟨⟨trivial, rfl⟩, ⟨trivial, rfl⟩, trivial⟩ rfl) ⟨k_I _ _, k_I _ _, trivial⟩ ?_))))
  obtain ⟨v5, h6, hF⟩ := bnd hF
  refine r_op (t_call rfl (ct_gantrylaw09_whole h6) rfl) ⟨rfl, trivial⟩ ?_
  refine r_op (t_bs (C := cI) (xs := [.const (.int .i64 (1)), .const (.int .i64 (2))]) (ps := [.vc (pI .i64 1), .vc (pI .i64 2)]) (zs := [1, 2]) rfl tyS22 rfl ⟨⟨trivial, rfl⟩, ⟨trivial, rfl⟩, trivial⟩ rfl) ⟨k_I _ _, k_I _ _, trivial⟩ ?_
  obtain ⟨v7, h8, hF⟩ := bnd hF
  refine r_op (t_call rfl (ct_gantrylaw09_whole h8) rfl) ⟨rfl, trivial⟩ ?_
  refine r_op (t_bs (C := (cSl cQ)) (xs := [.tmp 24, .tmp 26]) (ps := [.vc (pS cQ v5), .vc (pS cQ v7)]) (zs := [v5, v7]) rfl tyS25 rfl ⟨⟨trivial, rfl⟩, ⟨trivial, rfl⟩, trivial⟩ rfl) ⟨rfl, rfl, trivial⟩ ?_
  refine r_as ?_
  refine r_nil (r_next (r_seq (r_reg (r_mv ?_))))
  obtain ⟨v9, h10, hF⟩ := bnd hF
  refine r_op (t_call rfl (ct_matrix_Rank h10) rfl) ⟨rfl, trivial⟩ ?_
  refine r_mv ?_
  refine r_op (t_ext2a rfl) ⟨rfl, trivial⟩ ?_
  refine r_op (t_ext2b rfl) ⟨rfl, trivial⟩ ?_
  refine r_as ?_
  refine r_as ?_
  refine r_nil (r_next (r_seq (r_reg (r_mv ?_))))
  refine r_op (t_bs (C := cI) (xs := [.const (.int .i64 (1)), .const (.int .i64 (3))]) (ps := [.vc (pI .i64 1), .vc (pI .i64 3)]) (zs := [1, 3]) rfl tyS22 rfl ⟨⟨trivial, rfl⟩, ⟨trivial, rfl⟩, trivial⟩ rfl) ⟨k_I _ _, k_I _ _, trivial⟩ ?_
  obtain ⟨v11, h12, hF⟩ := bnd hF
  refine r_op (t_call rfl (ct_gantrylaw09_whole h12) rfl) ⟨rfl, trivial⟩ ?_
  obtain ⟨v13, h14, hF⟩ := bnd hF
  refine r_op (t_call rfl (ct_matrix_Solve h14) rfl) ⟨rfl, rfl, trivial⟩ ?_
  refine r_mv ?_
  refine r_op (t_ext2a rfl) ⟨rfl, trivial⟩ ?_
  refine r_op (t_ext2b rfl) ⟨rfl, trivial⟩ ?_
  refine r_as ?_
  refine r_as ?_
  refine r_nil (r_next (r_seq (r_reg (r_mv ?_))))
  obtain ⟨v15, h16, hF⟩ := bnd hF
  refine r_op (t_call rfl (ct_matrix_Kernel h16) rfl) ⟨rfl, trivial⟩ ?_
  refine r_mv ?_
  refine r_op (t_ext2a rfl) ⟨rfl, trivial⟩ ?_
  refine r_op (t_ext2b rfl) ⟨rfl, trivial⟩ ?_
  refine r_as ?_
  refine r_as ?_
  refine r_nil (r_next (r_seq (r_reg (r_op (t_bs (C := cI) (xs := [.const (.int .i64 (2)), .const (.int .i64 (4))]) (ps := [.vc (pI .i64 2), .vc (pI .i64 4)]) (zs := [2, 4]) rfl tyS22 rfl ⟨⟨trivial, rfl⟩, ⟨trivial, rfl⟩, trivial⟩ rfl) ⟨k_I _ _, k_I _ _, trivial⟩ ?_))))
  obtain ⟨v17, h18, hF⟩ := bnd hF
  refine r_op (t_call rfl (ct_gantrylaw09_whole h18) rfl) ⟨rfl, trivial⟩ ?_
  refine r_op (t_bs (C := cI) (xs := [.const (.int .i64 (1)), .const (.int .i64 (2))]) (ps := [.vc (pI .i64 1), .vc (pI .i64 2)]) (zs := [1, 2]) rfl tyS22 rfl ⟨⟨trivial, rfl⟩, ⟨trivial, rfl⟩, trivial⟩ rfl) ⟨k_I _ _, k_I _ _, trivial⟩ ?_
  obtain ⟨v19, h20, hF⟩ := bnd hF
  refine r_op (t_call rfl (ct_gantrylaw09_whole h20) rfl) ⟨rfl, trivial⟩ ?_
  refine r_op (t_bs (C := (cSl cQ)) (xs := [.tmp 47, .tmp 49]) (ps := [.vc (pS cQ v17), .vc (pS cQ v19)]) (zs := [v17, v19]) rfl tyS25 rfl ⟨⟨trivial, rfl⟩, ⟨trivial, rfl⟩, trivial⟩ rfl) ⟨rfl, rfl, trivial⟩ ?_
  refine r_op (t_bs (C := cI) (xs := [.const (.int .i64 (1)), .const (.int .i64 (1))]) (ps := [.vc (pI .i64 1), .vc (pI .i64 1)]) (zs := [1, 1]) rfl tyS22 rfl ⟨⟨trivial, rfl⟩, ⟨trivial, rfl⟩, trivial⟩ rfl) ⟨k_I _ _, k_I _ _, trivial⟩ ?_
  obtain ⟨v21, h22, hF⟩ := bnd hF
  refine r_op (t_call rfl (ct_gantrylaw09_whole h22) rfl) ⟨rfl, trivial⟩ ?_
  obtain ⟨v23, h24, hF⟩ := bnd hF
  refine r_op (t_call rfl (ct_matrix_Solve h24) rfl) ⟨rfl, rfl, trivial⟩ ?_
  refine r_mv ?_
  refine r_op (t_ext2a rfl) ⟨rfl, trivial⟩ ?_
  refine r_op (t_ext2b rfl) ⟨rfl, trivial⟩ ?_
  refine r_as ?_
  refine r_as ?_
  refine r_nil (r_next (r_seq (r_reg (r_mv ?_))))
  obtain ⟨v25, h26, hF⟩ := bnd hF
  refine r_op (t_call rfl (ct_matrix_Det h26) rfl) ⟨rfl, trivial⟩ ?_
  refine r_mv ?_
  refine r_op (t_ext2a rfl) ⟨rfl, trivial⟩ ?_
  refine r_op (t_ext2b rfl) ⟨rfl, trivial⟩ ?_
  refine r_alloc rfl tyZ39q (fun b27 => ?_)
  refine r_op0 (t_s 0 rfl rfl rfl tyA39.s) ⟨rfl, rfl, trivial⟩ ?_
  refine r_as ?_
  refine r_nil (r_next (r_seq (r_reg (r_mv ?_))))
  obtain ⟨v28, h29, hF⟩ := bnd hF
  refine r_op (t_call rfl (ct_matrix_Inverse h29) rfl) ⟨rfl, trivial⟩ ?_
  refine r_mv ?_
  refine r_op (t_ext2a rfl) ⟨rfl, trivial⟩ ?_
  refine r_op (t_ext2b rfl) ⟨rfl, trivial⟩ ?_
  refine r_as ?_
  refine r_as ?_
  refine r_nil (r_next (r_seq (r_seq (r_reg (r_mv ?_)))))
  refine r_op (t_ne rfl) ⟨rfl, k_I _ _, trivial⟩ ?_
  refine r_mv ?_
  refine r_bool (fun h30 => ?_) (fun h30 => ?_)
  · have hF := cnd_t h30 hF
    refine r_opn ?_
    refine r_opn ?_
    refine r_op (t_pickT rfl) ⟨rfl, k_B _, trivial⟩ ?_
    refine r_mv ?_
    refine r_opn ?_
    refine r_opn ?_
    refine r_op (t_pickT rfl) ⟨rfl, k_B _, trivial⟩ ?_
    refine r_mv ?_
    refine r_opn ?_
    refine r_opn ?_
    refine r_op (t_pickT rfl) ⟨rfl, k_B _, trivial⟩ ?_
    refine r_mv ?_
    refine r_opn ?_
    refine r_opn ?_
    refine r_op (t_pickT rfl) ⟨rfl, k_B _, trivial⟩ ?_
    refine r_mv ?_
    refine r_opn ?_
    refine r_opn ?_
    refine r_op (t_pickT rfl) ⟨rfl, k_B _, trivial⟩ ?_
    refine r_mv ?_
    refine r_opn ?_
    refine r_opn ?_
    refine r_opn ?_
    refine r_op (t_pickT rfl) ⟨rfl, k_B _, trivial⟩ ?_
    refine r_nil (r_next (r_ifT rfl ?_))
    refine r_seq (r_reg (r_op (t_mv (.inr rfl)) ⟨k_B _, trivial⟩ ?_))
    refine r_nil (r_next (r_ret (r_toR ?_)))
    obtain rfl := sm1 hF
    exact r_done1 (.inl rfl) Try.results17 (.tmp rfl .nil) rfl rfl
  · have hF := cnd_f h30 hF
    refine r_opg (t_mv (.inl rfl)) ⟨rfl, trivial⟩ ?_
    refine r_opg (t_ne rfl) ⟨rfl, k_I _ _, trivial⟩ ?_
    refine r_op (t_pickF rfl) ⟨rfl, rfl, trivial⟩ ?_
    refine r_mv ?_
    refine r_bool (fun h31 => ?_) (fun h31 => ?_)
    · have hF := cnd_t h31 hF
      refine r_opn ?_
      refine r_opn ?_
      refine r_op (t_pickT rfl) ⟨rfl, k_B _, trivial⟩ ?_
      refine r_mv ?_
      refine r_opn ?_
      refine r_opn ?_
      refine r_op (t_pickT rfl) ⟨rfl, k_B _, trivial⟩ ?_
      refine r_mv ?_
      refine r_opn ?_
      refine r_opn ?_
      refine r_op (t_pickT rfl) ⟨rfl, k_B _, trivial⟩ ?_
      refine r_mv ?_
      refine r_opn ?_
      refine r_opn ?_
      refine r_op (t_pickT rfl) ⟨rfl, k_B _, trivial⟩ ?_
      refine r_mv ?_
      refine r_opn ?_
      refine r_opn ?_
      refine r_opn ?_
      refine r_op (t_pickT rfl) ⟨rfl, k_B _, trivial⟩ ?_
      refine r_nil (r_next (r_ifT rfl ?_))
      refine r_seq (r_reg (r_op (t_mv (.inr rfl)) ⟨k_B _, trivial⟩ ?_))
      refine r_nil (r_next (r_ret (r_toR ?_)))
      obtain rfl := sm1 hF
      exact r_done1 (.inl rfl) Try.results17 (.tmp rfl .nil) rfl rfl
    · have hF := cnd_f h31 hF
      refine r_opg (t_mv (.inl rfl)) ⟨rfl, trivial⟩ ?_
      refine r_opg (t_ne rfl) ⟨rfl, k_I _ _, trivial⟩ ?_
      refine r_op (t_pickF rfl) ⟨rfl, rfl, trivial⟩ ?_
      refine r_mv ?_
      refine r_bool (fun h32 => ?_) (fun h32 => ?_)
      · have hF := cnd_t h32 hF
        refine r_opn ?_
        refine r_opn ?_
        refine r_op (t_pickT rfl) ⟨rfl, k_B _, trivial⟩ ?_
        refine r_mv ?_
        refine r_opn ?_
        refine r_opn ?_
        refine r_op (t_pickT rfl) ⟨rfl, k_B _, trivial⟩ ?_
        refine r_mv ?_
        refine r_opn ?_
        refine r_opn ?_
        refine r_op (t_pickT rfl) ⟨rfl, k_B _, trivial⟩ ?_
        refine r_mv ?_
        refine r_opn ?_
        refine r_opn ?_
        refine r_opn ?_
        refine r_op (t_pickT rfl) ⟨rfl, k_B _, trivial⟩ ?_
        refine r_nil (r_next (r_ifT rfl ?_))
        refine r_seq (r_reg (r_op (t_mv (.inr rfl)) ⟨k_B _, trivial⟩ ?_))
        refine r_nil (r_next (r_ret (r_toR ?_)))
        obtain rfl := sm1 hF
        exact r_done1 (.inl rfl) Try.results17 (.tmp rfl .nil) rfl rfl
      · have hF := cnd_f h32 hF
        refine r_opg (t_mv (.inl rfl)) ⟨rfl, trivial⟩ ?_
        refine r_opg (t_ne rfl) ⟨rfl, k_I _ _, trivial⟩ ?_
        refine r_op (t_pickF rfl) ⟨rfl, rfl, trivial⟩ ?_
        refine r_mv ?_
        refine r_bool (fun h33 => ?_) (fun h33 => ?_)
        · have hF := cnd_t h33 hF
          refine r_opn ?_
          refine r_opn ?_
          refine r_op (t_pickT rfl) ⟨rfl, k_B _, trivial⟩ ?_
          refine r_mv ?_
          refine r_opn ?_
          refine r_opn ?_
          refine r_op (t_pickT rfl) ⟨rfl, k_B _, trivial⟩ ?_
          refine r_mv ?_
          refine r_opn ?_
          refine r_opn ?_
          refine r_opn ?_
          refine r_op (t_pickT rfl) ⟨rfl, k_B _, trivial⟩ ?_
          refine r_nil (r_next (r_ifT rfl ?_))
          refine r_seq (r_reg (r_op (t_mv (.inr rfl)) ⟨k_B _, trivial⟩ ?_))
          refine r_nil (r_next (r_ret (r_toR ?_)))
          obtain rfl := sm1 hF
          exact r_done1 (.inl rfl) Try.results17 (.tmp rfl .nil) rfl rfl
        · have hF := cnd_f h33 hF
          refine r_opg (t_mv (.inl rfl)) ⟨rfl, trivial⟩ ?_
          refine r_opg (t_ne rfl) ⟨rfl, k_I _ _, trivial⟩ ?_
          refine r_op (t_pickF rfl) ⟨rfl, rfl, trivial⟩ ?_
          refine r_mv ?_
          refine r_bool (fun h34 => ?_) (fun h34 => ?_)
          · have hF := cnd_t h34 hF
            refine r_opn ?_
            refine r_opn ?_
            refine r_op (t_pickT rfl) ⟨rfl, k_B _, trivial⟩ ?_
            refine r_mv ?_
            refine r_opn ?_
            refine r_opn ?_
            refine r_opn ?_
            refine r_op (t_pickT rfl) ⟨rfl, k_B _, trivial⟩ ?_
            refine r_nil (r_next (r_ifT rfl ?_))
            refine r_seq (r_reg (r_op (t_mv (.inr rfl)) ⟨k_B _, trivial⟩ ?_))
            refine r_nil (r_next (r_ret (r_toR ?_)))
            obtain rfl := sm1 hF
            exact r_done1 (.inl rfl) Try.results17 (.tmp rfl .nil) rfl rfl
          · have hF := cnd_f h34 hF
            refine r_opg (t_mv (.inl rfl)) ⟨rfl, trivial⟩ ?_
            refine r_opg (t_ne rfl) ⟨rfl, k_I _ _, trivial⟩ ?_
            refine r_op (t_pickF rfl) ⟨rfl, rfl, trivial⟩ ?_
            refine r_mv ?_
            refine r_bool (fun h35 => ?_) (fun h35 => ?_)
            · have hF := cnd_t h35 hF
              refine r_opn ?_
              refine r_opn ?_
              refine r_opn ?_
              refine r_op (t_pickT rfl) ⟨rfl, k_B _, trivial⟩ ?_
              refine r_nil (r_next (r_ifT rfl ?_))
              refine r_seq (r_reg (r_op (t_mv (.inr rfl)) ⟨k_B _, trivial⟩ ?_))
              refine r_nil (r_next (r_ret (r_toR ?_)))
              obtain rfl := sm1 hF
              exact r_done1 (.inl rfl) Try.results17 (.tmp rfl .nil) rfl rfl
            · have hF := cnd_f h35 hF
              refine r_opg (t_mv (.inl rfl)) ⟨rfl, trivial⟩ ?_
              refine r_opg (t_ln rfl tyS25) ⟨rfl, trivial⟩ ?_
              refine r_opg (t_ne rfl) ⟨rfl, k_I _ _, trivial⟩ ?_
              refine r_op (t_pickF rfl) ⟨rfl, rfl, trivial⟩ ?_
              refine r_nil (r_next (r_if rfl (fun h36 => ?_) (fun h36 => ?_)))
              · have hF := cnd_t h36 hF
                refine r_seq (r_reg (r_op (t_mv (.inr rfl)) ⟨k_B _, trivial⟩ ?_))
                refine r_nil (r_next (r_ret (r_toR ?_)))
                obtain rfl := sm1 hF
                exact r_done1 (.inl rfl) Try.results17 (.tmp rfl .nil) rfl rfl
              · have hF := cnd_f h36 hF
                refine r_skip (r_next (r_seq (r_reg ?_)))
                obtain ⟨v37, h38, hF⟩ := bnd hF
                refine r_op (t_call rfl (qc_gantryref05_Of h38) rfl) ⟨k_I _ _, k_I _ _, trivial⟩ ?_
                refine r_alloc rfl tyZ39q (fun b39 => ?_)
                refine r_op0 (t_s 0 rfl rfl rfl tyA39.s) ⟨rfl, rfl, trivial⟩ ?_
                refine r_nil (r_next (r_seq (r_reg ?_)))
                obtain ⟨v40, h41, hF⟩ := bnd hF
                refine r_op (t_call rfl (qc_gantryref05_Of h41) rfl) ⟨k_I _ _, k_I _ _, trivial⟩ ?_
                refine r_alloc rfl tyZ39q (fun b42 => ?_)
                refine r_op0 (t_s 0 rfl rfl rfl tyA39.s) ⟨rfl, rfl, trivial⟩ ?_
                refine r_nil (r_next (r_seq ?_))
                rcases Bool.eq_false_or_eq_true (v9.1 == 2) with h45 | h45
                · have hF := cnd_t h45 hF
                  obtain ⟨v46, h47, hF⟩ := bnd hF
                  obtain ⟨v48, h49, hF⟩ := bnd hF
                  rcases Bool.eq_false_or_eq_true v48 with h50 | h50
                  · have hF := cnd_t h50 hF
                    obtain ⟨v51, h52, hF⟩ := bnd hF
                    obtain ⟨v53, h54, hF⟩ := bnd hF
                    obtain ⟨v55, h56, hF⟩ := bnd hF
                    rcases Bool.eq_false_or_eq_true v55 with h57 | h57
                    · have hF := cnd_t h57 hF
                      obtain ⟨v58, h59, hF⟩ := bnd hF
                      obtain ⟨v60, h61, hF⟩ := bnd hF
                      refine r_draw [0, 1, 3, 7, 7, 23, 63, 127, 255, 511, 1023, 2047, 511, 4607, 16383, 32767, 65535, 131071, 131071, 524287, 1048575, 2097151] 22 0 [.v (.vc (pI .i64 v9.1)), .v (.vc (pB (v9.1 == 2))), .v (.vc (pB true)), .v (.vc (pS cQ v13.1)), .v (.vc (pS cI [(-2), 0, 1])), .v (.vc (pS cQ v46)), .v (.vc (pB v48)), .v (.vc (pB v48)), .v (.vc (pB true)), .v (.vc (pS (cSl cQ) v15.1)), .v (.vc (pM ((cSl cQ).e v51))), .v (.vc (pS cQ v51)), .v (.vc (pS cI [(-2), 1, 0])), .v (.vc (pS cQ v53)), .v (.vc (pB v55)), .v (.vc (pB v55)), .v (.vc (pB true)), .v (.va (eQ v25.1)), .v (.va (eQ v58)), .v (.vc (pB v60)), .v (.vc (pB v60)), .v (.vc (pB v60))] Try_mixed ⟨⟨rfl, .run (lo := 0) (n := 1) ⟨fun G43 A => t_mv (.inl rfl), trivial⟩ (fun G43 => ⟨rfl, trivial⟩)⟩, ⟨rfl, .run (lo := 0) (n := 1) ⟨fun G43 A => t_eq rfl, trivial⟩ (fun G43 => ⟨rfl, k_I _ _, trivial⟩)⟩, ⟨rfl, .run (lo := 0) (n := 1) ⟨fun G43 A => tr_bool (t_mv (.inl rfl)) h45, trivial⟩ (fun G43 => ⟨rfl, trivial⟩)⟩, ⟨rfl, .runG (lo := 0) (n := 1) ⟨fun G43 A => t_mv (.inl rfl), trivial⟩ (fun G43 => ⟨rfl, trivial⟩)⟩, ⟨rfl, .runG (lo := 0) (n := 1) ⟨fun G43 A => t_bs (C := cI) (xs := [.const (.int .i64 (-2)), .const (.int .i64 (0)), .const (.int .i64 (1))]) (ps := [.vc (pI .i64 (-2)), .vc (pI .i64 0), .vc (pI .i64 1)]) (zs := [(-2), 0, 1]) rfl tyS22 rfl ⟨⟨trivial, rfl⟩, ⟨trivial, rfl⟩, ⟨trivial, rfl⟩, trivial⟩ rfl, trivial⟩ (fun G43 => ⟨k_I _ _, k_I _ _, k_I _ _, trivial⟩)⟩, ⟨rfl, .runG (lo := 0) (n := 1) ⟨fun G43 A => t_call rfl (ct_gantrylaw09_whole h47) rfl, trivial⟩ (fun G43 => ⟨rfl, trivial⟩)⟩, ⟨rfl, .runG (lo := 0) (n := 1) ⟨fun G43 A => t_call rfl (ct_gantryref09_SameRow h49) rfl, trivial⟩ (fun G43 => ⟨rfl, rfl, trivial⟩)⟩, ⟨rfl, .run (lo := 0) (n := 1) ⟨fun G43 A => t_pickT rfl, trivial⟩ (fun G43 => ⟨rfl, rfl, trivial⟩)⟩, ⟨rfl, .run (lo := 0) (n := 1) ⟨fun G43 A => tr_bool (t_mv (.inl rfl)) h50, trivial⟩ (fun G43 => ⟨rfl, trivial⟩)⟩, ⟨rfl, .runG (lo := 0) (n := 1) ⟨fun G43 A => t_mv (.inl rfl), trivial⟩ (fun G43 => ⟨rfl, trivial⟩)⟩, ⟨rfl, .runG (lo := 0) (n := 1) ⟨fun G43 A => t_ix rfl tyS25 h52, trivial⟩ (fun G43 => ⟨rfl, k_I _ _, trivial⟩)⟩, ⟨rfl, .runG (lo := 0) (n := 1) ⟨fun G43 A => t_lM 1 rfl rfl (.one tyO27), trivial⟩ (fun G43 => ⟨rfl, trivial⟩)⟩, ⟨rfl, .runG (lo := 0) (n := 1) ⟨fun G43 A => t_bs (C := cI) (xs := [.const (.int .i64 (-2)), .const (.int .i64 (1)), .const (.int .i64 (0))]) (ps := [.vc (pI .i64 (-2)), .vc (pI .i64 1), .vc (pI .i64 0)]) (zs := [(-2), 1, 0]) rfl tyS22 rfl ⟨⟨trivial, rfl⟩, ⟨trivial, rfl⟩, ⟨trivial, rfl⟩, trivial⟩ rfl, trivial⟩ (fun G43 => ⟨k_I _ _, k_I _ _, k_I _ _, trivial⟩)⟩, ⟨rfl, .runG (lo := 0) (n := 1) ⟨fun G43 A => t_call rfl (ct_gantrylaw09_whole h54) rfl, trivial⟩ (fun G43 => ⟨rfl, trivial⟩)⟩, ⟨rfl, .runG (lo := 0) (n := 1) ⟨fun G43 A => t_call rfl (ct_gantryref09_SameRow h56) rfl, trivial⟩ (fun G43 => ⟨rfl, rfl, trivial⟩)⟩, ⟨rfl, .run (lo := 0) (n := 1) ⟨fun G43 A => t_pickT rfl, trivial⟩ (fun G43 => ⟨rfl, rfl, trivial⟩)⟩, ⟨rfl, .run (lo := 0) (n := 1) ⟨fun G43 A => tr_bool (t_mv (.inl rfl)) h57, trivial⟩ (fun G43 => ⟨rfl, trivial⟩)⟩, ⟨rfl, .runG (lo := 0) (n := 1) ⟨fun G43 A => t_l 2 4 rfl rfl rfl rfl (.agg tyA39), trivial⟩ (fun G43 => ⟨rfl, trivial⟩)⟩, ⟨rfl, .runG (lo := 0) (n := 1) ⟨fun G43 A => t_call rfl (qc_gantryref05_Of h59) rfl, trivial⟩ (fun G43 => ⟨k_I _ _, k_I _ _, trivial⟩)⟩, ⟨rfl, .runG (lo := 0) (n := 1) ⟨fun G43 A => t_call rfl (qc_rat_Same h61) rfl, trivial⟩ (fun G43 => ⟨rfl, rfl, trivial⟩)⟩, ⟨rfl, .run (lo := 0) (n := 1) ⟨fun G43 A => t_pickT rfl, trivial⟩ (fun G43 => ⟨rfl, rfl, trivial⟩)⟩, ⟨rfl, .run (lo := 0) (n := 1) ⟨fun G43 A => t_mv (.inr rfl), trivial⟩ (fun G43 => ⟨rfl, trivial⟩)⟩, trivial⟩ (fun bs44 G43 => ?_)
                      refine r_nil (r_next (r_seq (r_reg (r_mv ?_))))
                      refine r_mv ?_
                      refine r_bool (fun h62 => ?_) (fun h62 => ?_)
                      · have hF := cnd_t h62 hF
                        refine r_opg (t_mv (.inl rfl)) ⟨rfl, trivial⟩ ?_
                        refine r_opg (t_l 0 4 rfl rfl rfl rfl (.agg tyA39)) ⟨rfl, trivial⟩ ?_
                        refine r_opg (t_l 1 4 rfl rfl rfl rfl (.agg tyA39)) ⟨rfl, trivial⟩ ?_
                        refine r_opg (t_bs (C := cQ) (xs := [.tmp 119, .tmp 120]) (ps := [.va (eQ v40), .va (eQ v37)]) (zs := [v40, v37]) rfl tyS27 rfl ⟨⟨trivial, rfl⟩, ⟨trivial, rfl⟩, trivial⟩ rfl) ⟨rfl, rfl, trivial⟩ ?_
                        refine r_opg (t_l 1 4 rfl rfl rfl rfl (.agg tyA39)) ⟨rfl, trivial⟩ ?_
                        refine r_opg (t_l 0 4 rfl rfl rfl rfl (.agg tyA39)) ⟨rfl, trivial⟩ ?_
                        refine r_opg (t_bs (C := cQ) (xs := [.tmp 122, .tmp 123]) (ps := [.va (eQ v37), .va (eQ v40)]) (zs := [v37, v40]) rfl tyS27 rfl ⟨⟨trivial, rfl⟩, ⟨trivial, rfl⟩, trivial⟩ rfl) ⟨rfl, rfl, trivial⟩ ?_
                        refine r_opg (t_bs (C := (cSl cQ)) (xs := [.tmp 121, .tmp 124]) (ps := [.vc (pS cQ [v40, v37]), .vc (pS cQ [v37, v40])]) (zs := [[v40, v37], [v37, v40]]) rfl tyS25 rfl ⟨⟨trivial, rfl⟩, ⟨trivial, rfl⟩, trivial⟩ rfl) ⟨rfl, rfl, trivial⟩ ?_
                        obtain ⟨v63, h64, hF⟩ := bnd hF
                        refine r_opg (t_call rfl (ct_gantryref09_Same h64) rfl) ⟨rfl, rfl, trivial⟩ ?_
                        refine r_op (t_pickT rfl) ⟨rfl, rfl, trivial⟩ ?_
                        refine r_mv ?_
                        refine r_bool (fun h65 => ?_) (fun h65 => ?_)
                        · have hF := cnd_t h65 hF
                          refine r_opg (t_mv (.inl rfl)) ⟨rfl, trivial⟩ ?_
                          obtain ⟨v66, h67, hF⟩ := bnd hF
                          refine r_opg (t_call rfl (ct_matrix_Positive h67) rfl) ⟨rfl, trivial⟩ ?_
                          refine r_op (t_pickT rfl) ⟨rfl, rfl, trivial⟩ ?_
                          refine r_mv ?_
                          refine r_bool (fun h68 => ?_) (fun h68 => ?_)
                          · have hF := cnd_t h68 hF
                            refine r_opg (t_bs (C := cI) (xs := [.const (.int .i64 (1)), .const (.int .i64 (2))]) (ps := [.vc (pI .i64 1), .vc (pI .i64 2)]) (zs := [1, 2]) rfl tyS22 rfl ⟨⟨trivial, rfl⟩, ⟨trivial, rfl⟩, trivial⟩ rfl) ⟨k_I _ _, k_I _ _, trivial⟩ ?_
                            obtain ⟨v69, h70, hF⟩ := bnd hF
                            refine r_opg (t_call rfl (ct_gantrylaw09_whole h70) rfl) ⟨rfl, trivial⟩ ?_
                            refine r_opg (t_bs (C := cI) (xs := [.const (.int .i64 (2)), .const (.int .i64 (1))]) (ps := [.vc (pI .i64 2), .vc (pI .i64 1)]) (zs := [2, 1]) rfl tyS22 rfl ⟨⟨trivial, rfl⟩, ⟨trivial, rfl⟩, trivial⟩ rfl) ⟨k_I _ _, k_I _ _, trivial⟩ ?_
                            obtain ⟨v71, h72, hF⟩ := bnd hF
                            refine r_opg (t_call rfl (ct_gantrylaw09_whole h72) rfl) ⟨rfl, trivial⟩ ?_
                            refine r_opg (t_bs (C := (cSl cQ)) (xs := [.tmp 134, .tmp 136]) (ps := [.vc (pS cQ v69), .vc (pS cQ v71)]) (zs := [v69, v71]) rfl tyS25 rfl ⟨⟨trivial, rfl⟩, ⟨trivial, rfl⟩, trivial⟩ rfl) ⟨rfl, rfl, trivial⟩ ?_
                            obtain ⟨v73, h74, hF⟩ := bnd hF
                            refine r_opg (t_call rfl (ct_matrix_Positive h74) rfl) ⟨rfl, trivial⟩ ?_
                            refine r_opg (t_not rfl) ⟨rfl, trivial⟩ ?_
                            refine r_op (t_pickT rfl) ⟨rfl, rfl, trivial⟩ ?_
                            refine r_as ?_
                            refine r_nil (r_next (r_ret (r_toR ?_)))
                            obtain rfl := sm1 hF
                            exact r_done1 (.inl rfl) Try.results17 (.tmp rfl .nil) rfl rfl
                          · have hF := cnd_f h68 hF
                            refine r_opn ?_
                            refine r_opn ?_
                            refine r_opn ?_
                            refine r_opn ?_
                            refine r_opn ?_
                            refine r_opn ?_
                            refine r_opn ?_
                            refine r_op (t_pickF rfl) ⟨rfl, k_B _, trivial⟩ ?_
                            refine r_as ?_
                            refine r_nil (r_next (r_ret (r_toR ?_)))
                            obtain rfl := sm1 hF
                            exact r_done1 (.inl rfl) Try.results17 (.tmp rfl .nil) rfl rfl
                        · have hF := cnd_f h65 hF
                          refine r_opn ?_
                          refine r_opn ?_
                          refine r_op (t_pickF rfl) ⟨rfl, k_B _, trivial⟩ ?_
                          refine r_mv ?_
                          refine r_opn ?_
                          refine r_opn ?_
                          refine r_opn ?_
                          refine r_opn ?_
                          refine r_opn ?_
                          refine r_opn ?_
                          refine r_opn ?_
                          refine r_op (t_pickF rfl) ⟨rfl, k_B _, trivial⟩ ?_
                          refine r_as ?_
                          refine r_nil (r_next (r_ret (r_toR ?_)))
                          obtain rfl := sm1 hF
                          exact r_done1 (.inl rfl) Try.results17 (.tmp rfl .nil) rfl rfl
                      · have hF := cnd_f h62 hF
                        refine r_opn ?_
                        refine r_opn ?_
                        refine r_opn ?_
                        refine r_opn ?_
                        refine r_opn ?_
                        refine r_opn ?_
                        refine r_opn ?_
                        refine r_opn ?_
                        refine r_opn ?_
                        refine r_op (t_pickF rfl) ⟨rfl, k_B _, trivial⟩ ?_
                        refine r_mv ?_
                        refine r_opn ?_
                        refine r_opn ?_
                        refine r_op (t_pickF rfl) ⟨rfl, k_B _, trivial⟩ ?_
                        refine r_mv ?_
                        refine r_opn ?_
                        refine r_opn ?_
                        refine r_opn ?_
                        refine r_opn ?_
                        refine r_opn ?_
                        refine r_opn ?_
                        refine r_opn ?_
                        refine r_op (t_pickF rfl) ⟨rfl, k_B _, trivial⟩ ?_
                        refine r_as ?_
                        refine r_nil (r_next (r_ret (r_toR ?_)))
                        obtain rfl := sm1 hF
                        exact r_done1 (.inl rfl) Try.results17 (.tmp rfl .nil) rfl rfl
                    · have hF := cnd_f h57 hF
                      refine r_draw [0, 1, 3, 7, 7, 23, 63, 127, 255, 511, 1023, 2047, 511, 4607, 16383, 32767, 65535, 131071, 131071, 524287, 1048575, 2097151] 22 0 [.v (.vc (pI .i64 v9.1)), .v (.vc (pB (v9.1 == 2))), .v (.vc (pB true)), .v (.vc (pS cQ v13.1)), .v (.vc (pS cI [(-2), 0, 1])), .v (.vc (pS cQ v46)), .v (.vc (pB v48)), .v (.vc (pB v48)), .v (.vc (pB true)), .v (.vc (pS (cSl cQ) v15.1)), .v (.vc (pM ((cSl cQ).e v51))), .v (.vc (pS cQ v51)), .v (.vc (pS cI [(-2), 1, 0])), .v (.vc (pS cQ v53)), .v (.vc (pB v55)), .v (.vc (pB v55)), .v (.vc (pB false)), .v .any, .v .any, .v .any, .v (.vc (pB false)), .v (.vc (pB false))] Try_mixed ⟨⟨rfl, .run (lo := 0) (n := 1) ⟨fun G43 A => t_mv (.inl rfl), trivial⟩ (fun G43 => ⟨rfl, trivial⟩)⟩, ⟨rfl, .run (lo := 0) (n := 1) ⟨fun G43 A => t_eq rfl, trivial⟩ (fun G43 => ⟨rfl, k_I _ _, trivial⟩)⟩, ⟨rfl, .run (lo := 0) (n := 1) ⟨fun G43 A => tr_bool (t_mv (.inl rfl)) h45, trivial⟩ (fun G43 => ⟨rfl, trivial⟩)⟩, ⟨rfl, .runG (lo := 0) (n := 1) ⟨fun G43 A => t_mv (.inl rfl), trivial⟩ (fun G43 => ⟨rfl, trivial⟩)⟩, ⟨rfl, .runG (lo := 0) (n := 1) ⟨fun G43 A => t_bs (C := cI) (xs := [.const (.int .i64 (-2)), .const (.int .i64 (0)), .const (.int .i64 (1))]) (ps := [.vc (pI .i64 (-2)), .vc (pI .i64 0), .vc (pI .i64 1)]) (zs := [(-2), 0, 1]) rfl tyS22 rfl ⟨⟨trivial, rfl⟩, ⟨trivial, rfl⟩, ⟨trivial, rfl⟩, trivial⟩ rfl, trivial⟩ (fun G43 => ⟨k_I _ _, k_I _ _, k_I _ _, trivial⟩)⟩, ⟨rfl, .runG (lo := 0) (n := 1) ⟨fun G43 A => t_call rfl (ct_gantrylaw09_whole h47) rfl, trivial⟩ (fun G43 => ⟨rfl, trivial⟩)⟩, ⟨rfl, .runG (lo := 0) (n := 1) ⟨fun G43 A => t_call rfl (ct_gantryref09_SameRow h49) rfl, trivial⟩ (fun G43 => ⟨rfl, rfl, trivial⟩)⟩, ⟨rfl, .run (lo := 0) (n := 1) ⟨fun G43 A => t_pickT rfl, trivial⟩ (fun G43 => ⟨rfl, rfl, trivial⟩)⟩, ⟨rfl, .run (lo := 0) (n := 1) ⟨fun G43 A => tr_bool (t_mv (.inl rfl)) h50, trivial⟩ (fun G43 => ⟨rfl, trivial⟩)⟩, ⟨rfl, .runG (lo := 0) (n := 1) ⟨fun G43 A => t_mv (.inl rfl), trivial⟩ (fun G43 => ⟨rfl, trivial⟩)⟩, ⟨rfl, .runG (lo := 0) (n := 1) ⟨fun G43 A => t_ix rfl tyS25 h52, trivial⟩ (fun G43 => ⟨rfl, k_I _ _, trivial⟩)⟩, ⟨rfl, .runG (lo := 0) (n := 1) ⟨fun G43 A => t_lM 1 rfl rfl (.one tyO27), trivial⟩ (fun G43 => ⟨rfl, trivial⟩)⟩, ⟨rfl, .runG (lo := 0) (n := 1) ⟨fun G43 A => t_bs (C := cI) (xs := [.const (.int .i64 (-2)), .const (.int .i64 (1)), .const (.int .i64 (0))]) (ps := [.vc (pI .i64 (-2)), .vc (pI .i64 1), .vc (pI .i64 0)]) (zs := [(-2), 1, 0]) rfl tyS22 rfl ⟨⟨trivial, rfl⟩, ⟨trivial, rfl⟩, ⟨trivial, rfl⟩, trivial⟩ rfl, trivial⟩ (fun G43 => ⟨k_I _ _, k_I _ _, k_I _ _, trivial⟩)⟩, ⟨rfl, .runG (lo := 0) (n := 1) ⟨fun G43 A => t_call rfl (ct_gantrylaw09_whole h54) rfl, trivial⟩ (fun G43 => ⟨rfl, trivial⟩)⟩, ⟨rfl, .runG (lo := 0) (n := 1) ⟨fun G43 A => t_call rfl (ct_gantryref09_SameRow h56) rfl, trivial⟩ (fun G43 => ⟨rfl, rfl, trivial⟩)⟩, ⟨rfl, .run (lo := 0) (n := 1) ⟨fun G43 A => t_pickT rfl, trivial⟩ (fun G43 => ⟨rfl, rfl, trivial⟩)⟩, ⟨rfl, .run (lo := 0) (n := 1) ⟨fun G43 A => tr_bool (t_mv (.inl rfl)) h57, trivial⟩ (fun G43 => ⟨rfl, trivial⟩)⟩, ⟨rfl, .skip⟩, ⟨rfl, .skip⟩, ⟨rfl, .skip⟩, ⟨rfl, .run (lo := 0) (n := 1) ⟨fun G43 A => t_pickF rfl, trivial⟩ (fun G43 => ⟨rfl, k_B _, trivial⟩)⟩, ⟨rfl, .run (lo := 0) (n := 1) ⟨fun G43 A => t_mv (.inr rfl), trivial⟩ (fun G43 => ⟨rfl, trivial⟩)⟩, trivial⟩ (fun bs44 G43 => ?_)
                      refine r_nil (r_next (r_seq (r_reg (r_mv ?_))))
                      refine r_mv ?_
                      refine r_opn ?_
                      refine r_opn ?_
                      refine r_opn ?_
                      refine r_opn ?_
                      refine r_opn ?_
                      refine r_opn ?_
                      refine r_opn ?_
                      refine r_opn ?_
                      refine r_opn ?_
                      refine r_op (t_pickF rfl) ⟨rfl, k_B _, trivial⟩ ?_
                      refine r_mv ?_
                      refine r_opn ?_
                      refine r_opn ?_
                      refine r_op (t_pickF rfl) ⟨rfl, k_B _, trivial⟩ ?_
                      refine r_mv ?_
                      refine r_opn ?_
                      refine r_opn ?_
                      refine r_opn ?_
                      refine r_opn ?_
                      refine r_opn ?_
                      refine r_opn ?_
                      refine r_opn ?_
                      refine r_op (t_pickF rfl) ⟨rfl, k_B _, trivial⟩ ?_
                      refine r_as ?_
                      refine r_nil (r_next (r_ret (r_toR ?_)))
                      obtain rfl := sm1 hF
                      exact r_done1 (.inl rfl) Try.results17 (.tmp rfl .nil) rfl rfl
                  · have hF := cnd_f h50 hF
                    refine r_draw [0, 1, 3, 7, 7, 23, 63, 127, 255, 511, 1023, 2047, 511, 4607, 16383, 32767, 65535, 131071, 131071, 524287, 1048575, 2097151] 22 0 [.v (.vc (pI .i64 v9.1)), .v (.vc (pB (v9.1 == 2))), .v (.vc (pB true)), .v (.vc (pS cQ v13.1)), .v (.vc (pS cI [(-2), 0, 1])), .v (.vc (pS cQ v46)), .v (.vc (pB v48)), .v (.vc (pB v48)), .v (.vc (pB false)), .v .any, .v .any, .v .any, .v .any, .v .any, .v .any, .v (.vc (pB false)), .v (.vc (pB false)), .v .any, .v .any, .v .any, .v (.vc (pB false)), .v (.vc (pB false))] Try_mixed ⟨⟨rfl, .run (lo := 0) (n := 1) ⟨fun G43 A => t_mv (.inl rfl), trivial⟩ (fun G43 => ⟨rfl, trivial⟩)⟩, ⟨rfl, .run (lo := 0) (n := 1) ⟨fun G43 A => t_eq rfl, trivial⟩ (fun G43 => ⟨rfl, k_I _ _, trivial⟩)⟩, ⟨rfl, .run (lo := 0) (n := 1) ⟨fun G43 A => tr_bool (t_mv (.inl rfl)) h45, trivial⟩ (fun G43 => ⟨rfl, trivial⟩)⟩, ⟨rfl, .runG (lo := 0) (n := 1) ⟨fun G43 A => t_mv (.inl rfl), trivial⟩ (fun G43 => ⟨rfl, trivial⟩)⟩, ⟨rfl, .runG (lo := 0) (n := 1) ⟨fun G43 A => t_bs (C := cI) (xs := [.const (.int .i64 (-2)), .const (.int .i64 (0)), .const (.int .i64 (1))]) (ps := [.vc (pI .i64 (-2)), .vc (pI .i64 0), .vc (pI .i64 1)]) (zs := [(-2), 0, 1]) rfl tyS22 rfl ⟨⟨trivial, rfl⟩, ⟨trivial, rfl⟩, ⟨trivial, rfl⟩, trivial⟩ rfl, trivial⟩ (fun G43 => ⟨k_I _ _, k_I _ _, k_I _ _, trivial⟩)⟩, ⟨rfl, .runG (lo := 0) (n := 1) ⟨fun G43 A => t_call rfl (ct_gantrylaw09_whole h47) rfl, trivial⟩ (fun G43 => ⟨rfl, trivial⟩)⟩, ⟨rfl, .runG (lo := 0) (n := 1) ⟨fun G43 A => t_call rfl (ct_gantryref09_SameRow h49) rfl, trivial⟩ (fun G43 => ⟨rfl, rfl, trivial⟩)⟩, ⟨rfl, .run (lo := 0) (n := 1) ⟨fun G43 A => t_pickT rfl, trivial⟩ (fun G43 => ⟨rfl, rfl, trivial⟩)⟩, ⟨rfl, .run (lo := 0) (n := 1) ⟨fun G43 A => tr_bool (t_mv (.inl rfl)) h50, trivial⟩ (fun G43 => ⟨rfl, trivial⟩)⟩, ⟨rfl, .skip⟩, ⟨rfl, .skip⟩, ⟨rfl, .skip⟩, ⟨rfl, .skip⟩, ⟨rfl, .skip⟩, ⟨rfl, .skip⟩, ⟨rfl, .run (lo := 0) (n := 1) ⟨fun G43 A => t_pickF rfl, trivial⟩ (fun G43 => ⟨rfl, k_B _, trivial⟩)⟩, ⟨rfl, .run (lo := 0) (n := 1) ⟨fun G43 A => t_mv (.inl rfl), trivial⟩ (fun G43 => ⟨rfl, trivial⟩)⟩, ⟨rfl, .skip⟩, ⟨rfl, .skip⟩, ⟨rfl, .skip⟩, ⟨rfl, .run (lo := 0) (n := 1) ⟨fun G43 A => t_pickF rfl, trivial⟩ (fun G43 => ⟨rfl, k_B _, trivial⟩)⟩, ⟨rfl, .run (lo := 0) (n := 1) ⟨fun G43 A => t_mv (.inr rfl), trivial⟩ (fun G43 => ⟨rfl, trivial⟩)⟩, trivial⟩ (fun bs44 G43 => ?_)
                    refine r_nil (r_next (r_seq (r_reg (r_mv ?_))))
                    refine r_mv ?_
                    refine r_opn ?_
                    refine r_opn ?_
                    refine r_opn ?_
                    refine r_opn ?_
                    refine r_opn ?_
                    refine r_opn ?_
                    refine r_opn ?_
                    refine r_opn ?_
                    refine r_opn ?_
                    refine r_op (t_pickF rfl) ⟨rfl, k_B _, trivial⟩ ?_
                    refine r_mv ?_
                    refine r_opn ?_
                    refine r_opn ?_
                    refine r_op (t_pickF rfl) ⟨rfl, k_B _, trivial⟩ ?_
                    refine r_mv ?_
                    refine r_opn ?_
                    refine r_opn ?_
                    refine r_opn ?_
                    refine r_opn ?_
                    refine r_opn ?_
                    refine r_opn ?_
                    refine r_opn ?_
                    refine r_op (t_pickF rfl) ⟨rfl, k_B _, trivial⟩ ?_
                    refine r_as ?_
                    refine r_nil (r_next (r_ret (r_toR ?_)))
                    obtain rfl := sm1 hF
                    exact r_done1 (.inl rfl) Try.results17 (.tmp rfl .nil) rfl rfl
                · have hF := cnd_f h45 hF
                  refine r_draw [0, 1, 3, 7, 7, 23, 63, 127, 255, 511, 1023, 2047, 511, 4607, 16383, 32767, 65535, 131071, 131071, 524287, 1048575, 2097151] 22 0 [.v (.vc (pI .i64 v9.1)), .v (.vc (pB (v9.1 == 2))), .v (.vc (pB false)), .v .any, .v .any, .v .any, .v .any, .v (.vc (pB false)), .v (.vc (pB false)), .v .any, .v .any, .v .any, .v .any, .v .any, .v .any, .v (.vc (pB false)), .v (.vc (pB false)), .v .any, .v .any, .v .any, .v (.vc (pB false)), .v (.vc (pB false))] Try_mixed ⟨⟨rfl, .run (lo := 0) (n := 1) ⟨fun G43 A => t_mv (.inl rfl), trivial⟩ (fun G43 => ⟨rfl, trivial⟩)⟩, ⟨rfl, .run (lo := 0) (n := 1) ⟨fun G43 A => t_eq rfl, trivial⟩ (fun G43 => ⟨rfl, k_I _ _, trivial⟩)⟩, ⟨rfl, .run (lo := 0) (n := 1) ⟨fun G43 A => tr_bool (t_mv (.inl rfl)) h45, trivial⟩ (fun G43 => ⟨rfl, trivial⟩)⟩, ⟨rfl, .skip⟩, ⟨rfl, .skip⟩, ⟨rfl, .skip⟩, ⟨rfl, .skip⟩, ⟨rfl, .run (lo := 0) (n := 1) ⟨fun G43 A => t_pickF rfl, trivial⟩ (fun G43 => ⟨rfl, k_B _, trivial⟩)⟩, ⟨rfl, .run (lo := 0) (n := 1) ⟨fun G43 A => t_mv (.inl rfl), trivial⟩ (fun G43 => ⟨rfl, trivial⟩)⟩, ⟨rfl, .skip⟩, ⟨rfl, .skip⟩, ⟨rfl, .skip⟩, ⟨rfl, .skip⟩, ⟨rfl, .skip⟩, ⟨rfl, .skip⟩, ⟨rfl, .run (lo := 0) (n := 1) ⟨fun G43 A => t_pickF rfl, trivial⟩ (fun G43 => ⟨rfl, k_B _, trivial⟩)⟩, ⟨rfl, .run (lo := 0) (n := 1) ⟨fun G43 A => t_mv (.inl rfl), trivial⟩ (fun G43 => ⟨rfl, trivial⟩)⟩, ⟨rfl, .skip⟩, ⟨rfl, .skip⟩, ⟨rfl, .skip⟩, ⟨rfl, .run (lo := 0) (n := 1) ⟨fun G43 A => t_pickF rfl, trivial⟩ (fun G43 => ⟨rfl, k_B _, trivial⟩)⟩, ⟨rfl, .run (lo := 0) (n := 1) ⟨fun G43 A => t_mv (.inr rfl), trivial⟩ (fun G43 => ⟨rfl, trivial⟩)⟩, trivial⟩ (fun bs44 G43 => ?_)
                  refine r_nil (r_next (r_seq (r_reg (r_mv ?_))))
                  refine r_mv ?_
                  refine r_opn ?_
                  refine r_opn ?_
                  refine r_opn ?_
                  refine r_opn ?_
                  refine r_opn ?_
                  refine r_opn ?_
                  refine r_opn ?_
                  refine r_opn ?_
                  refine r_opn ?_
                  refine r_op (t_pickF rfl) ⟨rfl, k_B _, trivial⟩ ?_
                  refine r_mv ?_
                  refine r_opn ?_
                  refine r_opn ?_
                  refine r_op (t_pickF rfl) ⟨rfl, k_B _, trivial⟩ ?_
                  refine r_mv ?_
                  refine r_opn ?_
                  refine r_opn ?_
                  refine r_opn ?_
                  refine r_opn ?_
                  refine r_opn ?_
                  refine r_opn ?_
                  refine r_opn ?_
                  refine r_op (t_pickF rfl) ⟨rfl, k_B _, trivial⟩ ?_
                  refine r_as ?_
                  refine r_nil (r_next (r_ret (r_toR ?_)))
                  obtain rfl := sm1 hF
                  exact r_done1 (.inl rfl) Try.results17 (.tmp rfl .nil) rfl rfl
def F_matrix_turned_j26 (K : Nat) (x19 : List (List Rat)) : Option (List (List Rat)) :=
  some x19
def F_matrix_turned_j54 (K : Nat) (x12 : List (List Rat)) (x18 : Int) (recl25 : (List (List Rat)) → Int → Option (List (List Rat))) (x47 : List Rat) : Option (List (List Rat)) :=
  (apL x12 [x47]).bind fun x55 => (chk (x18 + 1)).bind fun v62 => recl25 x55 v62
def F_matrix_turned_l53 (K : Nat) (a0 : List (List Rat)) (x18 : Int) : Nat → (List Rat) → Int → Option (List Rat)
  | 0, _, _ => none
  | k + 1, x40, x46 => bif (decide (x46 < (a0.length : Int))) then ((rdL a0 x46).bind fun v65 => (rdL v65 x18).bind fun v67 => (rdL x40 x46).bind fun v69 => (stL x40 x46 v67).bind fun x71 => (chk (x46 + 1)).bind fun v74 => F_matrix_turned_l53 K a0 x18 k x71 v74) else (some x40)
def F_matrix_turned_l25 (K : Nat) (a0 : List (List Rat)) (v3 : Int) : Nat → (List (List Rat)) → Int → Option (List (List Rat))
  | 0, _, _ => none
  | k + 1, x12, x18 => bif (decide (x18 < v3)) then ((mkL (a0.length : Int) 0).bind fun x28 => (F_matrix_turned_l53 K a0 x18 K x28 0).bind fun x47 => F_matrix_turned_j54 K x12 x18 (F_matrix_turned_l25 K a0 v3 k) x47) else (some x12)
def F_matrix_turned (K : Nat) (a0 : List (List Rat)) : Option (List (List Rat)) :=
  (F_matrix_cols a0).bind fun v3 => (F_matrix_turned_l25 K a0 v3 K ([] : List (List Rat)) 0).bind fun x19 => F_matrix_turned_j26 K x19
set_option maxRecDepth 100000 in
theorem ct_matrix_turned {K : Nat} {a0 : List (List Rat)} {r : List (List Rat)} (hF : F_matrix_turned K a0 = some r) : Ct Try.prog 47 [.vc (pS (cSl cQ) a0)] (.vc (pS (cSl cQ) r)) := by
  unfold F_matrix_turned at hF
  refine ctO_intro Try.func47 rfl (by kernel_rfl) Try.ntmps47 rfl (fun w0 M0 => ?_)
  refine r_seq (r_reg (r_op (t_mv (.inr rfl)) ⟨k_nil (cSl cQ), trivial⟩ ?_))
  refine r_nil (r_next (r_seq (r_reg (r_nilO (cSl cQ) 27 rfl ?_))))
  refine r_nil (r_next (r_seq (r_seq (r_reg (r_mv ?_)))))
  obtain ⟨v3, h4, hF⟩ := bnd hF
  refine r_op (t_call rfl (ct_matrix_cols h4) rfl) ⟨rfl, trivial⟩ ?_
  refine r_op (t_mv (.inl rfl)) ⟨k_I _ _, trivial⟩ ?_
  refine r_nil (r_next (r_blk (r_cutN (fun H E => ∃ (x19 : List (List Rat)), ∃ (b20 : Option Nat), ∃ (c21 : Nat), ∃ (n22 : Nat), F_matrix_turned_j26 K x19 = some r ∧ x19.length = n22 ∧ H = [hO (cSl cQ) b20 c21 27 n22 x19] ∧ E = [(3, .vc (pO b20 n22 c21))]) ?_ (fun Jj26 => ?_))))
  · rintro _ _ ⟨x19, b20, c21, n22, hF, q23, rfl, rfl⟩
    unfold F_matrix_turned_j26 at hF
    refine r_next (r_seq (r_reg (r_mv ?_)))
    refine r_as ?_
    refine r_nil (r_next (r_ret (r_toR (r_fzX 0 [2, 3, 36] rfl q23 ⟨rfl, rfl, rfl, trivial⟩ rfl ?_))))
    obtain rfl := sm1 hF
    exact r_done1 (.inl rfl) Try.results47 (.tmp rfl .nil) rfl rfl
  · skip
    obtain ⟨x19', hL, hRl25⟩ := bnd hF
    refine r_lp (fun k a w => ∃ (x12 : List (List Rat)), ∃ (x18 : Int), ∃ (b13 : Option Nat), ∃ (c14 : Nat), ∃ (n15 : Nat), F_matrix_turned_l25 K a0 v3 k x12 x18 = some x19' ∧ x12.length = n15 ∧ hs _ [hO (cSl cQ) b13 c14 27 n15 x12] [(0, .vc (pS (cSl cQ) a0)), (3, .vc (pO b13 n15 c14)), (8, .vc (pI .i64 v3)), (9, .vc (pI .i64 x18))] a w) K (fun a w ⟨_, _, _, _, _, hF, _, _⟩ => by cases hF) (fun k a w ⟨x12, x18, b13, c14, n15, hF, q16, hh⟩ => r_at ?_ hh) (fun a w hh => ⟨([] : List (List Rat)), 0, none, 0, 0, hL, rfl, hs_back [0] rfl (by decide) (by exact ⟨rfl, rfl, rfl, rfl, trivial⟩) hh⟩)
    rw [F_matrix_turned_l25.eq_2] at hF
    refine r_seq (r_reg (r_op (t_lt rfl) ⟨rfl, rfl, trivial⟩ ?_))
    refine r_nil (r_next (r_seq (r_if rfl (fun h27 => ?_) (fun h27 => ?_))))
    · have hF := cnd_t h27 hF
      refine r_skip (r_next (r_seq (r_blk (r_seq (r_reg (r_mv ?_))))))
      refine r_as ?_
      refine r_nil (r_next (r_seq (r_reg (r_mv ?_))))
      refine r_op (t_ln rfl tyS25) ⟨rfl, trivial⟩ ?_
      obtain ⟨x28, h29, hF⟩ := bnd hF
      refine r_make (C := cQ) rfl tyS27 rfl tyZ39q rfl h29 (fun b30 => ?_)
      refine r_as ?_
      refine r_nil (r_next (r_seq (r_seq (r_reg (r_mv ?_)))))
      refine r_op (t_ln rfl tyS25) ⟨rfl, trivial⟩ ?_
      refine r_op (t_mv (.inl rfl)) ⟨k_I _ _, trivial⟩ ?_
      refine r_nil (r_next (r_blk (r_cutN (fun H E => ∃ (x47 : List Rat), ∃ (b48 : Option Nat), ∃ (c49 : Nat), ∃ (n50 : Nat), F_matrix_turned_j54 K x12 x18 (F_matrix_turned_l25 K a0 v3 k) x47 = some x19' ∧ x47.length = n50 ∧ H = [hO cQ b48 c49 39 n50 x47, hO (cSl cQ) b13 c14 27 n15 x12] ∧ E = [(0, .vc (pS (cSl cQ) a0)), (3, .vc (pO b13 n15 c14)), (5, .vc (pO b48 n50 c49)), (8, .vc (pI .i64 v3)), (9, .vc (pI .i64 x18))]) ?_ (fun Jj54 => ?_))))
      · rintro _ _ ⟨x47, b48, c49, n50, hF, q51, rfl, rfl⟩
        unfold F_matrix_turned_j54 at hF
        refine r_next (r_reg (r_mv ?_))
        refine r_mv ?_
        refine r_fzL 0 [5, 32] rfl q51 ⟨rfl, rfl, trivial⟩ rfl ?_
        refine r_op (t_bs (C := (cSl cQ)) (xs := [.tmp 32]) (ps := [.vc (pS cQ x47)]) (zs := [x47]) rfl tyS25 rfl ⟨⟨trivial, rfl⟩, trivial⟩ rfl) ⟨rfl, trivial⟩ ?_
        obtain ⟨x55, h56, hF⟩ := bnd hF
        refine r_app 0 rfl tyS25 rfl rfl q16 rfl rfl h56 (fun b57 c58 H59 e60 => ?_)
        cases e60
        refine r_as ?_
        refine r_nil (r_blkN (r_next (r_reg ?_)))
        obtain ⟨v62, h63, hF⟩ := bnd hF
        refine r_op (t_add rfl h63) ⟨rfl, k_I _ _, trivial⟩ ?_
        refine r_mv ?_
        refine r_nil ?_
        exact r_round (fun a w hh => ⟨x55, v62, b57, c58, (n15 + [x47].length), hF, (apL_len h56 q16), hs_back [0] rfl (by decide) (by exact ⟨rfl, rfl, rfl, rfl, trivial⟩) hh⟩)
      · skip
        obtain ⟨x47', hL, hRl53⟩ := bnd hF
        refine r_lp (fun k a w => ∃ (x40 : List Rat), ∃ (x46 : Int), ∃ (b41 : Option Nat), ∃ (c42 : Nat), ∃ (n43 : Nat), F_matrix_turned_l53 K a0 x18 k x40 x46 = some x47' ∧ x40.length = n43 ∧ hs _ [hO cQ b41 c42 39 n43 x40, hO (cSl cQ) b13 c14 27 n15 x12] [(0, .vc (pS (cSl cQ) a0)), (3, .vc (pO b13 n15 c14)), (4, .vc (pI .i64 x18)), (5, .vc (pO b41 n43 c42)), (8, .vc (pI .i64 v3)), (9, .vc (pI .i64 x18)), (16, .vc (pI .i64 (a0.length : Int))), (17, .vc (pI .i64 x46))] a w) K (fun a w ⟨_, _, _, _, _, hF, _, _⟩ => by cases hF) (fun k a w ⟨x40, x46, b41, c42, n43, hF, q44, hh⟩ => r_at ?_ hh) (fun a w hh => ⟨x28, 0, b30, x28.length, x28.length, hL, rfl, hs_back [0, 1] rfl (by decide) (by exact ⟨rfl, rfl, rfl, rfl, rfl, rfl, rfl, rfl, trivial⟩) hh⟩)
        rw [F_matrix_turned_l53.eq_2] at hF
        refine r_seq (r_reg (r_op (t_lt rfl) ⟨rfl, rfl, trivial⟩ ?_))
        refine r_nil (r_next (r_seq (r_if rfl (fun h64 => ?_) (fun h64 => ?_))))
        · have hF := cnd_t h64 hF
          refine r_skip (r_next (r_seq (r_blk (r_seq (r_reg (r_mv ?_))))))
          refine r_as ?_
          refine r_nil (r_next (r_reg (r_mv ?_)))
          refine r_mv ?_
          refine r_mv ?_
          refine r_mv ?_
          obtain ⟨v65, h66, hF⟩ := bnd hF
          refine r_op (t_ix rfl tyS25 h66) ⟨rfl, rfl, trivial⟩ ?_
          refine r_op (t_lM 1 rfl rfl (.one tyO27)) ⟨rfl, trivial⟩ ?_
          refine r_mv ?_
          obtain ⟨v67, h68, hF⟩ := bnd hF
          refine r_op (t_ix rfl tyS27 h68) ⟨rfl, rfl, trivial⟩ ?_
          refine r_op (t_lM 4 rfl rfl (.agg tyA39)) ⟨rfl, trivial⟩ ?_
          obtain ⟨v69, h70, hF⟩ := bnd hF
          refine r_op (t_ixE (C := cQ) 0 rfl tyS27 rfl q44 (rdL_some h70).1 (rdL_some h70).2.1) ⟨rfl, rfl, trivial⟩ ?_
          obtain ⟨x71, h72, hF⟩ := bnd hF
          refine r_op0 (t_stE 0 rfl rfl h70 h72 tyA39.s) ⟨rfl, rfl, trivial⟩ ?_
          refine r_nil (r_blkN (r_next (r_reg ?_)))
          obtain ⟨v74, h75, hF⟩ := bnd hF
          refine r_op (t_add rfl h75) ⟨rfl, k_I _ _, trivial⟩ ?_
          refine r_mv ?_
          refine r_nil ?_
          exact r_round (fun a w hh => ⟨x71, v74, b41, c42, n43, hF, (stL_len h72 q44), hs_back [0, 1] rfl (by decide) (by exact ⟨rfl, rfl, rfl, rfl, rfl, rfl, rfl, rfl, trivial⟩) hh⟩)
        · have hF := cnd_f h64 hF
          refine r_brk ?_
          obtain rfl := sm1 hF
          exact r_backJ Jj54 ⟨x40, b41, c42, n43, hRl53, q44, rfl, rfl⟩ [0, 1] rfl ⟨rfl, rfl, rfl, rfl, rfl, trivial⟩
    · have hF := cnd_f h27 hF
      refine r_brk ?_
      obtain rfl := sm1 hF
      exact r_backJ Jj26 ⟨x12, b13, c14, n15, hRl25, q16, rfl, rfl⟩ [0] rfl ⟨rfl, trivial⟩
def F_matrix_Mul_j35 (K : Nat) (x28 : List (List Rat)) : Option ((List (List Rat)) × Int) :=
  some (x28, 0)
def F_matrix_Mul_l34 (K : Nat) (a0 : List (List Rat)) (v10 : List (List Rat)) : Nat → (List (List Rat)) → Int → Option (List (List Rat))
  | 0, _, _ => none
  | k + 1, x21, x27 => bif (decide (x27 < (a0.length : Int))) then ((rdL a0 x27).bind fun v37 => (F_matrix_applied K v10 v37).bind fun v39 => (apL x21 [v39]).bind fun x41 => (chk (x27 + 1)).bind fun v48 => F_matrix_Mul_l34 K a0 v10 k x41 v48) else (some x21)
def F_matrix_Mul (K : Nat) (a0 : List (List Rat)) (a1 : List (List Rat)) : Option ((List (List Rat)) × Int) :=
  (F_matrix_Valid K a0).bind fun v1 => bif (!v1) then (some ([], 1)) else ((F_matrix_Valid K a1).bind fun v4 => bif (!v4) then (some ([], 1)) else ((F_matrix_cols a0).bind fun v7 => bif (v7 != (a1.length : Int)) then (some ([], 1)) else ((F_matrix_turned K a1).bind fun v10 => (F_matrix_Mul_l34 K a0 v10 K ([] : List (List Rat)) 0).bind fun x28 => F_matrix_Mul_j35 K x28)))
set_option maxRecDepth 100000 in
theorem ct_matrix_Mul {K : Nat} {a0 : List (List Rat)} {a1 : List (List Rat)} {r : (List (List Rat)) × Int} (hF : F_matrix_Mul K a0 a1 = some r) : Ct Try.prog 19 [.vc (pS (cSl cQ) a0), .vc (pS (cSl cQ) a1)] (.t2 (.vc (pS (cSl cQ) r.1)) (.vc (pI .i64 r.2))) := by
  unfold F_matrix_Mul at hF
  refine ctO_intro Try.func19 rfl (by kernel_rfl) Try.ntmps19 rfl (fun w0 M0 => ?_)
  refine r_seq (r_reg (r_op (t_mv (.inr rfl)) ⟨k_nil (cSl cQ), trivial⟩ ?_))
  refine r_op (t_mv (.inr rfl)) ⟨k_I _ _, trivial⟩ ?_
  refine r_nil (r_next (r_seq (r_seq (r_reg (r_mv ?_)))))
  obtain ⟨v1, h2, hF⟩ := bnd hF
  refine r_op (t_call rfl (ct_matrix_Valid h2) rfl) ⟨rfl, trivial⟩ ?_
  refine r_op (t_not rfl) ⟨rfl, trivial⟩ ?_
  refine r_mv ?_
  refine r_bool (fun h3 => ?_) (fun h3 => ?_)
  · have hF := cnd_t h3 hF
    refine r_opn ?_
    refine r_opn ?_
    refine r_opn ?_
    refine r_op (t_pickT rfl) ⟨rfl, k_B _, trivial⟩ ?_
    refine r_mv ?_
    refine r_opn ?_
    refine r_opn ?_
    refine r_opn ?_
    refine r_opn ?_
    refine r_opn ?_
    refine r_op (t_pickT rfl) ⟨rfl, k_B _, trivial⟩ ?_
    refine r_nil (r_next (r_ifT rfl ?_))
    refine r_seq (r_reg (r_op (t_mv (.inr rfl)) ⟨k_nil (cSl cQ), trivial⟩ ?_))
    refine r_op (t_mv (.inr rfl)) ⟨k_I _ _, trivial⟩ ?_
    refine r_nil (r_next (r_ret (r_toR ?_)))
    obtain rfl := sm1 hF
    exact r_done1 (.inl rfl) Try.results19 (.tmp rfl (.tmp rfl .nil)) rfl rfl
  · have hF := cnd_f h3 hF
    refine r_opg (t_mv (.inl rfl)) ⟨rfl, trivial⟩ ?_
    obtain ⟨v4, h5, hF⟩ := bnd hF
    refine r_opg (t_call rfl (ct_matrix_Valid h5) rfl) ⟨rfl, trivial⟩ ?_
    refine r_opg (t_not rfl) ⟨rfl, trivial⟩ ?_
    refine r_op (t_pickF rfl) ⟨rfl, rfl, trivial⟩ ?_
    refine r_mv ?_
    refine r_bool (fun h6 => ?_) (fun h6 => ?_)
    · have hF := cnd_t h6 hF
      refine r_opn ?_
      refine r_opn ?_
      refine r_opn ?_
      refine r_opn ?_
      refine r_opn ?_
      refine r_op (t_pickT rfl) ⟨rfl, k_B _, trivial⟩ ?_
      refine r_nil (r_next (r_ifT rfl ?_))
      refine r_seq (r_reg (r_op (t_mv (.inr rfl)) ⟨k_nil (cSl cQ), trivial⟩ ?_))
      refine r_op (t_mv (.inr rfl)) ⟨k_I _ _, trivial⟩ ?_
      refine r_nil (r_next (r_ret (r_toR ?_)))
      obtain rfl := sm1 hF
      exact r_done1 (.inl rfl) Try.results19 (.tmp rfl (.tmp rfl .nil)) rfl rfl
    · have hF := cnd_f h6 hF
      refine r_opg (t_mv (.inl rfl)) ⟨rfl, trivial⟩ ?_
      obtain ⟨v7, h8, hF⟩ := bnd hF
      refine r_opg (t_call rfl (ct_matrix_cols h8) rfl) ⟨rfl, trivial⟩ ?_
      refine r_opg (t_mv (.inl rfl)) ⟨rfl, trivial⟩ ?_
      refine r_opg (t_ln rfl tyS25) ⟨rfl, trivial⟩ ?_
      refine r_opg (t_ne rfl) ⟨rfl, rfl, trivial⟩ ?_
      refine r_op (t_pickF rfl) ⟨rfl, rfl, trivial⟩ ?_
      refine r_nil (r_next (r_if rfl (fun h9 => ?_) (fun h9 => ?_)))
      · have hF := cnd_t h9 hF
        refine r_seq (r_reg (r_op (t_mv (.inr rfl)) ⟨k_nil (cSl cQ), trivial⟩ ?_))
        refine r_op (t_mv (.inr rfl)) ⟨k_I _ _, trivial⟩ ?_
        refine r_nil (r_next (r_ret (r_toR ?_)))
        obtain rfl := sm1 hF
        exact r_done1 (.inl rfl) Try.results19 (.tmp rfl (.tmp rfl .nil)) rfl rfl
      · have hF := cnd_f h9 hF
        refine r_skip (r_next (r_seq (r_reg (r_mv ?_))))
        obtain ⟨v10, h11, hF⟩ := bnd hF
        refine r_op (t_call rfl (ct_matrix_turned h11) rfl) ⟨rfl, trivial⟩ ?_
        refine r_as ?_
        refine r_nil (r_next (r_seq (r_reg (r_nilO (cSl cQ) 27 rfl ?_))))
        refine r_nil (r_next (r_seq (r_seq (r_reg (r_mv ?_)))))
        refine r_op (t_ln rfl tyS25) ⟨rfl, trivial⟩ ?_
        refine r_op (t_mv (.inl rfl)) ⟨k_I _ _, trivial⟩ ?_
        refine r_nil (r_next (r_blk (r_cutN (fun H E => ∃ (x28 : List (List Rat)), ∃ (b29 : Option Nat), ∃ (c30 : Nat), ∃ (n31 : Nat), F_matrix_Mul_j35 K x28 = some r ∧ x28.length = n31 ∧ H = [hO (cSl cQ) b29 c30 27 n31 x28] ∧ E = [(7, .vc (pO b29 n31 c30))]) ?_ (fun Jj35 => ?_))))
        · rintro _ _ ⟨x28, b29, c30, n31, hF, q32, rfl, rfl⟩
          unfold F_matrix_Mul_j35 at hF
          refine r_next (r_seq (r_reg (r_mv ?_)))
          refine r_as ?_
          refine r_op (t_mv (.inr rfl)) ⟨k_I _ _, trivial⟩ ?_
          refine r_nil (r_next (r_ret (r_toR (r_fzX 0 [4, 7, 40] rfl q32 ⟨rfl, rfl, rfl, trivial⟩ rfl ?_))))
          obtain rfl := sm1 hF
          exact r_done1 (.inl rfl) Try.results19 (.tmp rfl (.tmp rfl .nil)) rfl rfl
        · skip
          obtain ⟨x28', hL, hRl34⟩ := bnd hF
          refine r_lp (fun k a w => ∃ (x21 : List (List Rat)), ∃ (x27 : Int), ∃ (b22 : Option Nat), ∃ (c23 : Nat), ∃ (n24 : Nat), F_matrix_Mul_l34 K a0 v10 k x21 x27 = some x28' ∧ x21.length = n24 ∧ hs _ [hO (cSl cQ) b22 c23 27 n24 x21] [(6, .vc (pS (cSl cQ) v10)), (7, .vc (pO b22 n24 c23)), (27, .vc (pS (cSl cQ) a0)), (28, .vc (pI .i64 (a0.length : Int))), (29, .vc (pI .i64 x27))] a w) K (fun a w ⟨_, _, _, _, _, hF, _, _⟩ => by cases hF) (fun k a w ⟨x21, x27, b22, c23, n24, hF, q25, hh⟩ => r_at ?_ hh) (fun a w hh => ⟨([] : List (List Rat)), 0, none, 0, 0, hL, rfl, hs_back [0] rfl (by decide) (by exact ⟨rfl, rfl, rfl, rfl, rfl, trivial⟩) hh⟩)
          rw [F_matrix_Mul_l34.eq_2] at hF
          refine r_seq (r_reg (r_op (t_lt rfl) ⟨rfl, rfl, trivial⟩ ?_))
          refine r_nil (r_next (r_seq (r_if rfl (fun h36 => ?_) (fun h36 => ?_))))
          · have hF := cnd_t h36 hF
            refine r_skip (r_next (r_seq (r_blk (r_seq (r_reg ?_)))))
            obtain ⟨v37, h38, hF⟩ := bnd hF
            refine r_op (t_ix rfl tyS25 h38) ⟨rfl, rfl, trivial⟩ ?_
            refine r_op (t_lM 1 rfl rfl (.one tyO27)) ⟨rfl, trivial⟩ ?_
            refine r_as ?_
            refine r_nil (r_next (r_reg (r_mv ?_)))
            refine r_mv ?_
            refine r_mv ?_
            obtain ⟨v39, h40, hF⟩ := bnd hF
            refine r_op (t_call rfl (ct_matrix_applied h40) rfl) ⟨rfl, rfl, trivial⟩ ?_
            refine r_op (t_bs (C := (cSl cQ)) (xs := [.tmp 36]) (ps := [.vc (pS cQ v39)]) (zs := [v39]) rfl tyS25 rfl ⟨⟨trivial, rfl⟩, trivial⟩ rfl) ⟨rfl, trivial⟩ ?_
            obtain ⟨x41, h42, hF⟩ := bnd hF
            refine r_app 0 rfl tyS25 rfl rfl q25 rfl rfl h42 (fun b43 c44 H45 e46 => ?_)
            cases e46
            refine r_as ?_
            refine r_nil (r_blkN (r_next (r_reg ?_)))
            obtain ⟨v48, h49, hF⟩ := bnd hF
            refine r_op (t_add rfl h49) ⟨rfl, k_I _ _, trivial⟩ ?_
            refine r_mv ?_
            refine r_nil ?_
            exact r_round (fun a w hh => ⟨x41, v48, b43, c44, (n24 + [v39].length), hF, (apL_len h42 q25), hs_back [0] rfl (by decide) (by exact ⟨rfl, rfl, rfl, rfl, rfl, trivial⟩) hh⟩)
          · have hF := cnd_f h36 hF
            refine r_brk ?_
            obtain rfl := sm1 hF
            exact r_backJ Jj35 ⟨x21, b22, c23, n24, hRl34, q25, rfl, rfl⟩ [0] rfl ⟨rfl, trivial⟩
def F_matrix_Turn (K : Nat) (a0 : List (List Rat)) : Option ((List (List Rat)) × Int) :=
  (F_matrix_Valid K a0).bind fun v1 => bif (!v1) then (some ([], 1)) else ((F_matrix_turned K a0).bind fun v4 => some (v4, 0))
set_option maxRecDepth 100000 in
theorem ct_matrix_Turn {K : Nat} {a0 : List (List Rat)} {r : (List (List Rat)) × Int} (hF : F_matrix_Turn K a0 = some r) : Ct Try.prog 23 [.vc (pS (cSl cQ) a0)] (.t2 (.vc (pS (cSl cQ) r.1)) (.vc (pI .i64 r.2))) := by
  unfold F_matrix_Turn at hF
  refine ctO_intro Try.func23 rfl (by kernel_rfl) Try.ntmps23 rfl (fun w0 M0 => ?_)
  refine r_seq (r_reg (r_op (t_mv (.inr rfl)) ⟨k_nil (cSl cQ), trivial⟩ ?_))
  refine r_op (t_mv (.inr rfl)) ⟨k_I _ _, trivial⟩ ?_
  refine r_nil (r_next (r_seq (r_seq (r_reg (r_mv ?_)))))
  obtain ⟨v1, h2, hF⟩ := bnd hF
  refine r_op (t_call rfl (ct_matrix_Valid h2) rfl) ⟨rfl, trivial⟩ ?_
  refine r_op (t_not rfl) ⟨rfl, trivial⟩ ?_
  refine r_nil (r_next (r_if rfl (fun h3 => ?_) (fun h3 => ?_)))
  · have hF := cnd_t h3 hF
    refine r_seq (r_reg (r_op (t_mv (.inr rfl)) ⟨k_nil (cSl cQ), trivial⟩ ?_))
    refine r_op (t_mv (.inr rfl)) ⟨k_I _ _, trivial⟩ ?_
    refine r_nil (r_next (r_ret (r_toR ?_)))
    obtain rfl := sm1 hF
    exact r_done1 (.inl rfl) Try.results23 (.tmp rfl (.tmp rfl .nil)) rfl rfl
  · have hF := cnd_f h3 hF
    refine r_skip (r_next (r_seq (r_reg (r_mv ?_))))
    obtain ⟨v4, h5, hF⟩ := bnd hF
    refine r_op (t_call rfl (ct_matrix_turned h5) rfl) ⟨rfl, trivial⟩ ?_
    refine r_as ?_
    refine r_op (t_mv (.inr rfl)) ⟨k_I _ _, trivial⟩ ?_
    refine r_nil (r_next (r_ret (r_toR ?_)))
    obtain rfl := sm1 hF
    exact r_done1 (.inl rfl) Try.results23 (.tmp rfl (.tmp rfl .nil)) rfl rfl
def F_gantrylaw09_MatrixRing (K : Nat) (a0 : List Int) (a1 : List Int) (a2 : List Int) (a3 : Int) : Option Bool :=
  (F_gantryref01_Around a3 4).bind fun v1 => (chk (1 + v1)).bind fun v3 => (F_gantryref09_Matrix K a0 0 v3 v3).bind fun v5 => (F_gantryref09_Matrix K a1 0 v3 v3).bind fun v7 => (chq a3 4).bind fun v9 => (F_gantryref01_Around v9 4).bind fun v11 => (chk (1 + v11)).bind fun v13 => (F_gantryref09_Matrix K a2 0 v3 v13).bind fun v15 => (F_matrix_Mul K v5 v7).bind fun v17 => (F_matrix_Mul K v7 v15).bind fun v19 => bif (v17.2 != 0) then (some false) else (bif (v19.2 != 0) then (some false) else ((F_matrix_Mul K v17.1 v15).bind fun v23 => (F_matrix_Mul K v5 v19.1).bind fun v25 => (F_matrix_Det K v17.1).bind fun v27 => (F_matrix_Det K v5).bind fun v30 => (F_matrix_Det K v7).bind fun v33 => bif (v23.2 != 0) then (some false) else (bif (v25.2 != 0) then (some false) else (bif (v27.2 != 0) then (some false) else (bif (v30.2 != 0) then (some false) else (bif (v33.2 != 0) then (some false) else ((F_gantryref09_Same K v23.1 v25.1).bind fun v43 => bif (!v43) then (some false) else ((qmul v30.1 v33.1).bind fun v46 => (qsame v27.1 v46).bind fun v48 => bif (!v48) then (some false) else ((F_matrix_Turn K v17.1).bind fun v51 => (F_matrix_Turn K v5).bind fun v53 => (F_matrix_Turn K v7).bind fun v55 => (F_matrix_Mul K v55.1 v53.1).bind fun v57 => (F_matrix_Turn K v15).bind fun v59 => (F_matrix_Rank K v15).bind fun v61 => (F_matrix_Rank K v59.1).bind fun v63 => bif (v51.2 == 0) then (bif (v53.2 == 0) then (bif (v55.2 == 0) then (bif (v57.2 == 0) then (bif (v61.2 == 0) then (bif (v63.2 == 0) then (bif (v59.2 == 0) then ((F_gantryref09_Same K v51.1 v57.1).bind fun v72 => bif v72 then (bif (v61.1 == v63.1) then ((F_gantrylaw09_lives K ).bind fun v76 => some v76) else (some false)) else (some false)) else (some false)) else (some false)) else (some false)) else (some false)) else (some false)) else (some false)) else (some false))))))))))
set_option maxRecDepth 100000 in
theorem ct_gantrylaw09_MatrixRing {K : Nat} {a0 : List Int} {a1 : List Int} {a2 : List Int} {a3 : Int} {r : Bool} (hF : F_gantrylaw09_MatrixRing K a0 a1 a2 a3 = some r) : Ct Try.prog 4 [.vc (pS cI a0), .vc (pS cI a1), .vc (pS cI a2), .vc (pI .i64 a3)] (.vc (pB r)) := by
  unfold F_gantrylaw09_MatrixRing at hF
  refine ctO_intro Try.func4 rfl (by kernel_rfl) Try.ntmps4 rfl (fun w0 M0 => ?_)
  refine r_seq (r_reg (r_op (t_mv (.inr rfl)) ⟨k_B _, trivial⟩ ?_))
  refine r_nil (r_next (r_seq (r_reg (r_mv ?_))))
  obtain ⟨v1, h2, hF⟩ := bnd hF
  refine r_op (t_call rfl (ct_gantryref01_Around h2) rfl) ⟨rfl, k_I _ _, trivial⟩ ?_
  obtain ⟨v3, h4, hF⟩ := bnd hF
  refine r_op (t_add rfl h4) ⟨k_I _ _, rfl, trivial⟩ ?_
  refine r_as ?_
  refine r_nil (r_next (r_seq (r_reg (r_mv ?_))))
  refine r_mv ?_
  refine r_mv ?_
  obtain ⟨v5, h6, hF⟩ := bnd hF
  refine r_op (t_call rfl (ct_gantryref09_Matrix h6) rfl) ⟨rfl, k_I _ _, rfl, rfl, trivial⟩ ?_
  refine r_as ?_
  refine r_nil (r_next (r_seq (r_reg (r_mv ?_))))
  refine r_mv ?_
  refine r_mv ?_
  obtain ⟨v7, h8, hF⟩ := bnd hF
  refine r_op (t_call rfl (ct_gantryref09_Matrix h8) rfl) ⟨rfl, k_I _ _, rfl, rfl, trivial⟩ ?_
  refine r_as ?_
  refine r_nil (r_next (r_seq (r_reg (r_mv ?_))))
  refine r_mv ?_
  refine r_mv ?_
  obtain ⟨v9, h10, hF⟩ := bnd hF
  refine r_op (t_quo rfl h10) ⟨rfl, k_I _ _, trivial⟩ ?_
  obtain ⟨v11, h12, hF⟩ := bnd hF
  refine r_op (t_call rfl (ct_gantryref01_Around h12) rfl) ⟨rfl, k_I _ _, trivial⟩ ?_
  obtain ⟨v13, h14, hF⟩ := bnd hF
  refine r_op (t_add rfl h14) ⟨k_I _ _, rfl, trivial⟩ ?_
  obtain ⟨v15, h16, hF⟩ := bnd hF
  refine r_op (t_call rfl (ct_gantryref09_Matrix h16) rfl) ⟨rfl, k_I _ _, rfl, rfl, trivial⟩ ?_
  refine r_as ?_
  refine r_nil (r_next (r_seq (r_reg (r_mv ?_))))
  refine r_mv ?_
  obtain ⟨v17, h18, hF⟩ := bnd hF
  refine r_op (t_call rfl (ct_matrix_Mul h18) rfl) ⟨rfl, rfl, trivial⟩ ?_
  refine r_mv ?_
  refine r_op (t_ext2a rfl) ⟨rfl, trivial⟩ ?_
  refine r_op (t_ext2b rfl) ⟨rfl, trivial⟩ ?_
  refine r_as ?_
  refine r_as ?_
  refine r_nil (r_next (r_seq (r_reg (r_mv ?_))))
  refine r_mv ?_
  obtain ⟨v19, h20, hF⟩ := bnd hF
  refine r_op (t_call rfl (ct_matrix_Mul h20) rfl) ⟨rfl, rfl, trivial⟩ ?_
  refine r_mv ?_
  refine r_op (t_ext2a rfl) ⟨rfl, trivial⟩ ?_
  refine r_op (t_ext2b rfl) ⟨rfl, trivial⟩ ?_
  refine r_as ?_
  refine r_as ?_
  refine r_nil (r_next (r_seq (r_seq (r_reg (r_mv ?_)))))
  refine r_op (t_ne rfl) ⟨rfl, k_I _ _, trivial⟩ ?_
  refine r_mv ?_
  refine r_bool (fun h21 => ?_) (fun h21 => ?_)
  · have hF := cnd_t h21 hF
    refine r_opn ?_
    refine r_opn ?_
    refine r_op (t_pickT rfl) ⟨rfl, k_B _, trivial⟩ ?_
    refine r_nil (r_next (r_ifT rfl ?_))
    refine r_seq (r_reg (r_op (t_mv (.inr rfl)) ⟨k_B _, trivial⟩ ?_))
    refine r_nil (r_next (r_ret (r_toR ?_)))
    obtain rfl := sm1 hF
    exact r_done1 (.inl rfl) Try.results4 (.tmp rfl .nil) rfl rfl
  · have hF := cnd_f h21 hF
    refine r_opg (t_mv (.inl rfl)) ⟨rfl, trivial⟩ ?_
    refine r_opg (t_ne rfl) ⟨rfl, k_I _ _, trivial⟩ ?_
    refine r_op (t_pickF rfl) ⟨rfl, rfl, trivial⟩ ?_
    refine r_nil (r_next (r_if rfl (fun h22 => ?_) (fun h22 => ?_)))
    · have hF := cnd_t h22 hF
      refine r_seq (r_reg (r_op (t_mv (.inr rfl)) ⟨k_B _, trivial⟩ ?_))
      refine r_nil (r_next (r_ret (r_toR ?_)))
      obtain rfl := sm1 hF
      exact r_done1 (.inl rfl) Try.results4 (.tmp rfl .nil) rfl rfl
    · have hF := cnd_f h22 hF
      refine r_skip (r_next (r_seq (r_reg (r_mv ?_))))
      refine r_mv ?_
      obtain ⟨v23, h24, hF⟩ := bnd hF
      refine r_op (t_call rfl (ct_matrix_Mul h24) rfl) ⟨rfl, rfl, trivial⟩ ?_
      refine r_mv ?_
      refine r_op (t_ext2a rfl) ⟨rfl, trivial⟩ ?_
      refine r_op (t_ext2b rfl) ⟨rfl, trivial⟩ ?_
      refine r_as ?_
      refine r_as ?_
      refine r_nil (r_next (r_seq (r_reg (r_mv ?_))))
      refine r_mv ?_
      obtain ⟨v25, h26, hF⟩ := bnd hF
      refine r_op (t_call rfl (ct_matrix_Mul h26) rfl) ⟨rfl, rfl, trivial⟩ ?_
      refine r_mv ?_
      refine r_op (t_ext2a rfl) ⟨rfl, trivial⟩ ?_
      refine r_op (t_ext2b rfl) ⟨rfl, trivial⟩ ?_
      refine r_as ?_
      refine r_as ?_
      refine r_nil (r_next (r_seq (r_reg (r_mv ?_))))
      obtain ⟨v27, h28, hF⟩ := bnd hF
      refine r_op (t_call rfl (ct_matrix_Det h28) rfl) ⟨rfl, trivial⟩ ?_
      refine r_mv ?_
      refine r_op (t_ext2a rfl) ⟨rfl, trivial⟩ ?_
      refine r_op (t_ext2b rfl) ⟨rfl, trivial⟩ ?_
      refine r_alloc rfl tyZ39q (fun b29 => ?_)
      refine r_op0 (t_s 0 rfl rfl rfl tyA39.s) ⟨rfl, rfl, trivial⟩ ?_
      refine r_as ?_
      refine r_nil (r_next (r_seq (r_reg (r_mv ?_))))
      obtain ⟨v30, h31, hF⟩ := bnd hF
      refine r_op (t_call rfl (ct_matrix_Det h31) rfl) ⟨rfl, trivial⟩ ?_
      refine r_mv ?_
      refine r_op (t_ext2a rfl) ⟨rfl, trivial⟩ ?_
      refine r_op (t_ext2b rfl) ⟨rfl, trivial⟩ ?_
      refine r_alloc rfl tyZ39q (fun b32 => ?_)
      refine r_op0 (t_s 0 rfl rfl rfl tyA39.s) ⟨rfl, rfl, trivial⟩ ?_
      refine r_as ?_
      refine r_nil (r_next (r_seq (r_reg (r_mv ?_))))
      obtain ⟨v33, h34, hF⟩ := bnd hF
      refine r_op (t_call rfl (ct_matrix_Det h34) rfl) ⟨rfl, trivial⟩ ?_
      refine r_mv ?_
      refine r_op (t_ext2a rfl) ⟨rfl, trivial⟩ ?_
      refine r_op (t_ext2b rfl) ⟨rfl, trivial⟩ ?_
      refine r_alloc rfl tyZ39q (fun b35 => ?_)
      refine r_op0 (t_s 0 rfl rfl rfl tyA39.s) ⟨rfl, rfl, trivial⟩ ?_
      refine r_as ?_
      refine r_nil (r_next (r_seq (r_seq ?_)))
      rcases Bool.eq_false_or_eq_true (v23.2 != 0) with h38 | h38
      · have hF := cnd_t h38 hF
        refine r_draw (0 :: 1 :: 3 :: 7 :: 15 :: 31 :: 63 :: 127 :: 255 :: 511 :: 1023 :: 2047 :: 4095 :: 8191 :: 16383 :: 32767 :: 65535 :: 131071 :: 262143 :: 524287 :: 524287 :: 2097151 :: 4194303 :: 8388607 :: 16777215 :: 33554431 :: 33554431 :: 33554431 :: 234881023 :: 536870911 :: 1073741823 :: 2147483647 :: []) 32 0 (.v (.vc (pI .i64 v23.2)) :: .v (.vc (pB (v23.2 != 0))) :: .v (.vc (pB true)) :: .v .any :: .v .any :: .v (.vc (pB true)) :: .v (.vc (pB true)) :: .v .any :: .v .any :: .v (.vc (pB true)) :: .v (.vc (pB true)) :: .v .any :: .v .any :: .v (.vc (pB true)) :: .v (.vc (pB true)) :: .v .any :: .v .any :: .v (.vc (pB true)) :: .v (.vc (pB true)) :: .v .any :: .v .any :: .v .any :: .v .any :: .v (.vc (pB true)) :: .v (.vc (pB true)) :: .v .any :: .v .any :: .v .any :: .v .any :: .v .any :: .v .any :: .v (.vc (pB true)) :: []) Try_mixed ⟨⟨rfl, .run (lo := 0) (n := 1) ⟨fun G36 A => t_mv (.inl rfl), trivial⟩ (fun G36 => ⟨rfl, trivial⟩)⟩, ⟨rfl, .run (lo := 0) (n := 1) ⟨fun G36 A => t_ne rfl, trivial⟩ (fun G36 => ⟨rfl, k_I _ _, trivial⟩)⟩, ⟨rfl, .run (lo := 0) (n := 1) ⟨fun G36 A => tr_bool (t_mv (.inl rfl)) h38, trivial⟩ (fun G36 => ⟨rfl, trivial⟩)⟩, ⟨rfl, .skip⟩, ⟨rfl, .skip⟩, ⟨rfl, .run (lo := 0) (n := 1) ⟨fun G36 A => t_pickT rfl, trivial⟩ (fun G36 => ⟨rfl, k_B _, trivial⟩)⟩, ⟨rfl, .run (lo := 0) (n := 1) ⟨fun G36 A => t_mv (.inl rfl), trivial⟩ (fun G36 => ⟨rfl, trivial⟩)⟩, ⟨rfl, .skip⟩, ⟨rfl, .skip⟩, ⟨rfl, .run (lo := 0) (n := 1) ⟨fun G36 A => t_pickT rfl, trivial⟩ (fun G36 => ⟨rfl, k_B _, trivial⟩)⟩, ⟨rfl, .run (lo := 0) (n := 1) ⟨fun G36 A => t_mv (.inl rfl), trivial⟩ (fun G36 => ⟨rfl, trivial⟩)⟩, ⟨rfl, .skip⟩, ⟨rfl, .skip⟩, ⟨rfl, .run (lo := 0) (n := 1) ⟨fun G36 A => t_pickT rfl, trivial⟩ (fun G36 => ⟨rfl, k_B _, trivial⟩)⟩, ⟨rfl, .run (lo := 0) (n := 1) ⟨fun G36 A => t_mv (.inl rfl), trivial⟩ (fun G36 => ⟨rfl, trivial⟩)⟩, ⟨rfl, .skip⟩, ⟨rfl, .skip⟩, ⟨rfl, .run (lo := 0) (n := 1) ⟨fun G36 A => t_pickT rfl, trivial⟩ (fun G36 => ⟨rfl, k_B _, trivial⟩)⟩, ⟨rfl, .run (lo := 0) (n := 1) ⟨fun G36 A => t_mv (.inl rfl), trivial⟩ (fun G36 => ⟨rfl, trivial⟩)⟩, ⟨rfl, .skip⟩, ⟨rfl, .skip⟩, ⟨rfl, .skip⟩, ⟨rfl, .skip⟩, ⟨rfl, .run (lo := 0) (n := 1) ⟨fun G36 A => t_pickT rfl, trivial⟩ (fun G36 => ⟨rfl, k_B _, trivial⟩)⟩, ⟨rfl, .run (lo := 0) (n := 1) ⟨fun G36 A => t_mv (.inl rfl), trivial⟩ (fun G36 => ⟨rfl, trivial⟩)⟩, ⟨rfl, .skip⟩, ⟨rfl, .skip⟩, ⟨rfl, .skip⟩, ⟨rfl, .skip⟩, ⟨rfl, .skip⟩, ⟨rfl, .skip⟩, ⟨rfl, .run (lo := 0) (n := 1) ⟨fun G36 A => t_pickT rfl, trivial⟩ (fun G36 => ⟨rfl, k_B _, trivial⟩)⟩, trivial⟩ (fun bs37 G36 => ?_)
        refine r_nil (r_next (r_ifT rfl ?_))
        refine r_seq (r_reg (r_op (t_mv (.inr rfl)) ⟨k_B _, trivial⟩ ?_))
        refine r_nil (r_next (r_ret (r_toR ?_)))
        obtain rfl := sm1 hF
        exact r_done1 (.inl rfl) Try.results4 (.tmp rfl .nil) rfl rfl
      · have hF := cnd_f h38 hF
        rcases Bool.eq_false_or_eq_true (v25.2 != 0) with h39 | h39
        · have hF := cnd_t h39 hF
          refine r_draw (0 :: 1 :: 3 :: 7 :: 15 :: 31 :: 63 :: 127 :: 255 :: 511 :: 1023 :: 2047 :: 4095 :: 8191 :: 16383 :: 32767 :: 65535 :: 131071 :: 262143 :: 524287 :: 524287 :: 2097151 :: 4194303 :: 8388607 :: 16777215 :: 33554431 :: 33554431 :: 33554431 :: 234881023 :: 536870911 :: 1073741823 :: 2147483647 :: []) 32 0 (.v (.vc (pI .i64 v23.2)) :: .v (.vc (pB (v23.2 != 0))) :: .v (.vc (pB false)) :: .v (.vc (pI .i64 v25.2)) :: .v (.vc (pB (v25.2 != 0))) :: .v (.vc (pB (v25.2 != 0))) :: .v (.vc (pB true)) :: .v .any :: .v .any :: .v (.vc (pB true)) :: .v (.vc (pB true)) :: .v .any :: .v .any :: .v (.vc (pB true)) :: .v (.vc (pB true)) :: .v .any :: .v .any :: .v (.vc (pB true)) :: .v (.vc (pB true)) :: .v .any :: .v .any :: .v .any :: .v .any :: .v (.vc (pB true)) :: .v (.vc (pB true)) :: .v .any :: .v .any :: .v .any :: .v .any :: .v .any :: .v .any :: .v (.vc (pB true)) :: []) Try_mixed ⟨⟨rfl, .run (lo := 0) (n := 1) ⟨fun G36 A => t_mv (.inl rfl), trivial⟩ (fun G36 => ⟨rfl, trivial⟩)⟩, ⟨rfl, .run (lo := 0) (n := 1) ⟨fun G36 A => t_ne rfl, trivial⟩ (fun G36 => ⟨rfl, k_I _ _, trivial⟩)⟩, ⟨rfl, .run (lo := 0) (n := 1) ⟨fun G36 A => tr_bool (t_mv (.inl rfl)) h38, trivial⟩ (fun G36 => ⟨rfl, trivial⟩)⟩, ⟨rfl, .runG (lo := 0) (n := 1) ⟨fun G36 A => t_mv (.inl rfl), trivial⟩ (fun G36 => ⟨rfl, trivial⟩)⟩, ⟨rfl, .runG (lo := 0) (n := 1) ⟨fun G36 A => t_ne rfl, trivial⟩ (fun G36 => ⟨rfl, k_I _ _, trivial⟩)⟩, ⟨rfl, .run (lo := 0) (n := 1) ⟨fun G36 A => t_pickF rfl, trivial⟩ (fun G36 => ⟨rfl, rfl, trivial⟩)⟩, ⟨rfl, .run (lo := 0) (n := 1) ⟨fun G36 A => tr_bool (t_mv (.inl rfl)) h39, trivial⟩ (fun G36 => ⟨rfl, trivial⟩)⟩, ⟨rfl, .skip⟩, ⟨rfl, .skip⟩, ⟨rfl, .run (lo := 0) (n := 1) ⟨fun G36 A => t_pickT rfl, trivial⟩ (fun G36 => ⟨rfl, k_B _, trivial⟩)⟩, ⟨rfl, .run (lo := 0) (n := 1) ⟨fun G36 A => t_mv (.inl rfl), trivial⟩ (fun G36 => ⟨rfl, trivial⟩)⟩, ⟨rfl, .skip⟩, ⟨rfl, .skip⟩, ⟨rfl, .run (lo := 0) (n := 1) ⟨fun G36 A => t_pickT rfl, trivial⟩ (fun G36 => ⟨rfl, k_B _, trivial⟩)⟩, ⟨rfl, .run (lo := 0) (n := 1) ⟨fun G36 A => t_mv (.inl rfl), trivial⟩ (fun G36 => ⟨rfl, trivial⟩)⟩, ⟨rfl, .skip⟩, ⟨rfl, .skip⟩, ⟨rfl, .run (lo := 0) (n := 1) ⟨fun G36 A => t_pickT rfl, trivial⟩ (fun G36 => ⟨rfl, k_B _, trivial⟩)⟩, ⟨rfl, .run (lo := 0) (n := 1) ⟨fun G36 A => t_mv (.inl rfl), trivial⟩ (fun G36 => ⟨rfl, trivial⟩)⟩, ⟨rfl, .skip⟩, ⟨rfl, .skip⟩, ⟨rfl, .skip⟩, ⟨rfl, .skip⟩, ⟨rfl, .run (lo := 0) (n := 1) ⟨fun G36 A => t_pickT rfl, trivial⟩ (fun G36 => ⟨rfl, k_B _, trivial⟩)⟩, ⟨rfl, .run (lo := 0) (n := 1) ⟨fun G36 A => t_mv (.inl rfl), trivial⟩ (fun G36 => ⟨rfl, trivial⟩)⟩, ⟨rfl, .skip⟩, ⟨rfl, .skip⟩, ⟨rfl, .skip⟩, ⟨rfl, .skip⟩, ⟨rfl, .skip⟩, ⟨rfl, .skip⟩, ⟨rfl, .run (lo := 0) (n := 1) ⟨fun G36 A => t_pickT rfl, trivial⟩ (fun G36 => ⟨rfl, k_B _, trivial⟩)⟩, trivial⟩ (fun bs37 G36 => ?_)
          refine r_nil (r_next (r_ifT rfl ?_))
          refine r_seq (r_reg (r_op (t_mv (.inr rfl)) ⟨k_B _, trivial⟩ ?_))
          refine r_nil (r_next (r_ret (r_toR ?_)))
          obtain rfl := sm1 hF
          exact r_done1 (.inl rfl) Try.results4 (.tmp rfl .nil) rfl rfl
        · have hF := cnd_f h39 hF
          rcases Bool.eq_false_or_eq_true (v27.2 != 0) with h40 | h40
          · have hF := cnd_t h40 hF
            refine r_draw (0 :: 1 :: 3 :: 7 :: 15 :: 31 :: 63 :: 127 :: 255 :: 511 :: 1023 :: 2047 :: 4095 :: 8191 :: 16383 :: 32767 :: 65535 :: 131071 :: 262143 :: 524287 :: 524287 :: 2097151 :: 4194303 :: 8388607 :: 16777215 :: 33554431 :: 33554431 :: 33554431 :: 234881023 :: 536870911 :: 1073741823 :: 2147483647 :: []) 32 0 (.v (.vc (pI .i64 v23.2)) :: .v (.vc (pB (v23.2 != 0))) :: .v (.vc (pB false)) :: .v (.vc (pI .i64 v25.2)) :: .v (.vc (pB (v25.2 != 0))) :: .v (.vc (pB (v25.2 != 0))) :: .v (.vc (pB false)) :: .v (.vc (pI .i64 v27.2)) :: .v (.vc (pB (v27.2 != 0))) :: .v (.vc (pB (v27.2 != 0))) :: .v (.vc (pB true)) :: .v .any :: .v .any :: .v (.vc (pB true)) :: .v (.vc (pB true)) :: .v .any :: .v .any :: .v (.vc (pB true)) :: .v (.vc (pB true)) :: .v .any :: .v .any :: .v .any :: .v .any :: .v (.vc (pB true)) :: .v (.vc (pB true)) :: .v .any :: .v .any :: .v .any :: .v .any :: .v .any :: .v .any :: .v (.vc (pB true)) :: []) Try_mixed ⟨⟨rfl, .run (lo := 0) (n := 1) ⟨fun G36 A => t_mv (.inl rfl), trivial⟩ (fun G36 => ⟨rfl, trivial⟩)⟩, ⟨rfl, .run (lo := 0) (n := 1) ⟨fun G36 A => t_ne rfl, trivial⟩ (fun G36 => ⟨rfl, k_I _ _, trivial⟩)⟩, ⟨rfl, .run (lo := 0) (n := 1) ⟨fun G36 A => tr_bool (t_mv (.inl rfl)) h38, trivial⟩ (fun G36 => ⟨rfl, trivial⟩)⟩, ⟨rfl, .runG (lo := 0) (n := 1) ⟨fun G36 A => t_mv (.inl rfl), trivial⟩ (fun G36 => ⟨rfl, trivial⟩)⟩, ⟨rfl, .runG (lo := 0) (n := 1) ⟨fun G36 A => t_ne rfl, trivial⟩ (fun G36 => ⟨rfl, k_I _ _, trivial⟩)⟩, ⟨rfl, .run (lo := 0) (n := 1) ⟨fun G36 A => t_pickF rfl, trivial⟩ (fun G36 => ⟨rfl, rfl, trivial⟩)⟩, ⟨rfl, .run (lo := 0) (n := 1) ⟨fun G36 A => tr_bool (t_mv (.inl rfl)) h39, trivial⟩ (fun G36 => ⟨rfl, trivial⟩)⟩, ⟨rfl, .runG (lo := 0) (n := 1) ⟨fun G36 A => t_mv (.inl rfl), trivial⟩ (fun G36 => ⟨rfl, trivial⟩)⟩, ⟨rfl, .runG (lo := 0) (n := 1) ⟨fun G36 A => t_ne rfl, trivial⟩ (fun G36 => ⟨rfl, k_I _ _, trivial⟩)⟩, ⟨rfl, .run (lo := 0) (n := 1) ⟨fun G36 A => t_pickF rfl, trivial⟩ (fun G36 => ⟨rfl, rfl, trivial⟩)⟩, ⟨rfl, .run (lo := 0) (n := 1) ⟨fun G36 A => tr_bool (t_mv (.inl rfl)) h40, trivial⟩ (fun G36 => ⟨rfl, trivial⟩)⟩, ⟨rfl, .skip⟩, ⟨rfl, .skip⟩, ⟨rfl, .run (lo := 0) (n := 1) ⟨fun G36 A => t_pickT rfl, trivial⟩ (fun G36 => ⟨rfl, k_B _, trivial⟩)⟩, ⟨rfl, .run (lo := 0) (n := 1) ⟨fun G36 A => t_mv (.inl rfl), trivial⟩ (fun G36 => ⟨rfl, trivial⟩)⟩, ⟨rfl, .skip⟩, ⟨rfl, .skip⟩, ⟨rfl, .run (lo := 0) (n := 1) ⟨fun G36 A => t_pickT rfl, trivial⟩ (fun G36 => ⟨rfl, k_B _, trivial⟩)⟩, ⟨rfl, .run (lo := 0) (n := 1) ⟨fun G36 A => t_mv (.inl rfl), trivial⟩ (fun G36 => ⟨rfl, trivial⟩)⟩, ⟨rfl, .skip⟩, ⟨rfl, .skip⟩, ⟨rfl, .skip⟩, ⟨rfl, .skip⟩, ⟨rfl, .run (lo := 0) (n := 1) ⟨fun G36 A => t_pickT rfl, trivial⟩ (fun G36 => ⟨rfl, k_B _, trivial⟩)⟩, ⟨rfl, .run (lo := 0) (n := 1) ⟨fun G36 A => t_mv (.inl rfl), trivial⟩ (fun G36 => ⟨rfl, trivial⟩)⟩, ⟨rfl, .skip⟩, ⟨rfl, .skip⟩, ⟨rfl, .skip⟩, ⟨rfl, .skip⟩, ⟨rfl, .skip⟩, ⟨rfl, .skip⟩, ⟨rfl, .run (lo := 0) (n := 1) ⟨fun G36 A => t_pickT rfl, trivial⟩ (fun G36 => ⟨rfl, k_B _, trivial⟩)⟩, trivial⟩ (fun bs37 G36 => ?_)
            refine r_nil (r_next (r_ifT rfl ?_))
            refine r_seq (r_reg (r_op (t_mv (.inr rfl)) ⟨k_B _, trivial⟩ ?_))
            refine r_nil (r_next (r_ret (r_toR ?_)))
            obtain rfl := sm1 hF
            exact r_done1 (.inl rfl) Try.results4 (.tmp rfl .nil) rfl rfl
          · have hF := cnd_f h40 hF
            rcases Bool.eq_false_or_eq_true (v30.2 != 0) with h41 | h41
            · have hF := cnd_t h41 hF
              refine r_draw (0 :: 1 :: 3 :: 7 :: 15 :: 31 :: 63 :: 127 :: 255 :: 511 :: 1023 :: 2047 :: 4095 :: 8191 :: 16383 :: 32767 :: 65535 :: 131071 :: 262143 :: 524287 :: 524287 :: 2097151 :: 4194303 :: 8388607 :: 16777215 :: 33554431 :: 33554431 :: 33554431 :: 234881023 :: 536870911 :: 1073741823 :: 2147483647 :: []) 32 0 (.v (.vc (pI .i64 v23.2)) :: .v (.vc (pB (v23.2 != 0))) :: .v (.vc (pB false)) :: .v (.vc (pI .i64 v25.2)) :: .v (.vc (pB (v25.2 != 0))) :: .v (.vc (pB (v25.2 != 0))) :: .v (.vc (pB false)) :: .v (.vc (pI .i64 v27.2)) :: .v (.vc (pB (v27.2 != 0))) :: .v (.vc (pB (v27.2 != 0))) :: .v (.vc (pB false)) :: .v (.vc (pI .i64 v30.2)) :: .v (.vc (pB (v30.2 != 0))) :: .v (.vc (pB (v30.2 != 0))) :: .v (.vc (pB true)) :: .v .any :: .v .any :: .v (.vc (pB true)) :: .v (.vc (pB true)) :: .v .any :: .v .any :: .v .any :: .v .any :: .v (.vc (pB true)) :: .v (.vc (pB true)) :: .v .any :: .v .any :: .v .any :: .v .any :: .v .any :: .v .any :: .v (.vc (pB true)) :: []) Try_mixed ⟨⟨rfl, .run (lo := 0) (n := 1) ⟨fun G36 A => t_mv (.inl rfl), trivial⟩ (fun G36 => ⟨rfl, trivial⟩)⟩, ⟨rfl, .run (lo := 0) (n := 1) ⟨fun G36 A => t_ne rfl, trivial⟩ (fun G36 => ⟨rfl, k_I _ _, trivial⟩)⟩, ⟨rfl, .run (lo := 0) (n := 1) ⟨fun G36 A => tr_bool (t_mv (.inl rfl)) h38, trivial⟩ (fun G36 => ⟨rfl, trivial⟩)⟩, ⟨rfl, .runG (lo := 0) (n := 1) ⟨fun G36 A => t_mv (.inl rfl), trivial⟩ (fun G36 => ⟨rfl, trivial⟩)⟩, ⟨rfl, .runG (lo := 0) (n := 1) ⟨fun G36 A => t_ne rfl, trivial⟩ (fun G36 => ⟨rfl, k_I _ _, trivial⟩)⟩, ⟨rfl, .run (lo := 0) (n := 1) ⟨fun G36 A => t_pickF rfl, trivial⟩ (fun G36 => ⟨rfl, rfl, trivial⟩)⟩, ⟨rfl, .run (lo := 0) (n := 1) ⟨fun G36 A => tr_bool (t_mv (.inl rfl)) h39, trivial⟩ (fun G36 => ⟨rfl, trivial⟩)⟩, ⟨rfl, .runG (lo := 0) (n := 1) ⟨fun G36 A => t_mv (.inl rfl), trivial⟩ (fun G36 => ⟨rfl, trivial⟩)⟩, ⟨rfl, .runG (lo := 0) (n := 1) ⟨fun G36 A => t_ne rfl, trivial⟩ (fun G36 => ⟨rfl, k_I _ _, trivial⟩)⟩, ⟨rfl, .run (lo := 0) (n := 1) ⟨fun G36 A => t_pickF rfl, trivial⟩ (fun G36 => ⟨rfl, rfl, trivial⟩)⟩, ⟨rfl, .run (lo := 0) (n := 1) ⟨fun G36 A => tr_bool (t_mv (.inl rfl)) h40, trivial⟩ (fun G36 => ⟨rfl, trivial⟩)⟩, ⟨rfl, .runG (lo := 0) (n := 1) ⟨fun G36 A => t_mv (.inl rfl), trivial⟩ (fun G36 => ⟨rfl, trivial⟩)⟩, ⟨rfl, .runG (lo := 0) (n := 1) ⟨fun G36 A => t_ne rfl, trivial⟩ (fun G36 => ⟨rfl, k_I _ _, trivial⟩)⟩, ⟨rfl, .run (lo := 0) (n := 1) ⟨fun G36 A => t_pickF rfl, trivial⟩ (fun G36 => ⟨rfl, rfl, trivial⟩)⟩, ⟨rfl, .run (lo := 0) (n := 1) ⟨fun G36 A => tr_bool (t_mv (.inl rfl)) h41, trivial⟩ (fun G36 => ⟨rfl, trivial⟩)⟩, ⟨rfl, .skip⟩, ⟨rfl, .skip⟩, ⟨rfl, .run (lo := 0) (n := 1) ⟨fun G36 A => t_pickT rfl, trivial⟩ (fun G36 => ⟨rfl, k_B _, trivial⟩)⟩, ⟨rfl, .run (lo := 0) (n := 1) ⟨fun G36 A => t_mv (.inl rfl), trivial⟩ (fun G36 => ⟨rfl, trivial⟩)⟩, ⟨rfl, .skip⟩, ⟨rfl, .skip⟩, ⟨rfl, .skip⟩, ⟨rfl, .skip⟩, ⟨rfl, .run (lo := 0) (n := 1) ⟨fun G36 A => t_pickT rfl, trivial⟩ (fun G36 => ⟨rfl, k_B _, trivial⟩)⟩, ⟨rfl, .run (lo := 0) (n := 1) ⟨fun G36 A => t_mv (.inl rfl), trivial⟩ (fun G36 => ⟨rfl, trivial⟩)⟩, ⟨rfl, .skip⟩, ⟨rfl, .skip⟩, ⟨rfl, .skip⟩, ⟨rfl, .skip⟩, ⟨rfl, .skip⟩, ⟨rfl, .skip⟩, ⟨rfl, .run (lo := 0) (n := 1) ⟨fun G36 A => t_pickT rfl, trivial⟩ (fun G36 => ⟨rfl, k_B _, trivial⟩)⟩, trivial⟩ (fun bs37 G36 => ?_)
              refine r_nil (r_next (r_ifT rfl ?_))
              refine r_seq (r_reg (r_op (t_mv (.inr rfl)) ⟨k_B _, trivial⟩ ?_))
              refine r_nil (r_next (r_ret (r_toR ?_)))
              obtain rfl := sm1 hF
              exact r_done1 (.inl rfl) Try.results4 (.tmp rfl .nil) rfl rfl
            · have hF := cnd_f h41 hF
              rcases Bool.eq_false_or_eq_true (v33.2 != 0) with h42 | h42
              · have hF := cnd_t h42 hF
                refine r_draw (0 :: 1 :: 3 :: 7 :: 15 :: 31 :: 63 :: 127 :: 255 :: 511 :: 1023 :: 2047 :: 4095 :: 8191 :: 16383 :: 32767 :: 65535 :: 131071 :: 262143 :: 524287 :: 524287 :: 2097151 :: 4194303 :: 8388607 :: 16777215 :: 33554431 :: 33554431 :: 33554431 :: 234881023 :: 536870911 :: 1073741823 :: 2147483647 :: []) 32 0 (.v (.vc (pI .i64 v23.2)) :: .v (.vc (pB (v23.2 != 0))) :: .v (.vc (pB false)) :: .v (.vc (pI .i64 v25.2)) :: .v (.vc (pB (v25.2 != 0))) :: .v (.vc (pB (v25.2 != 0))) :: .v (.vc (pB false)) :: .v (.vc (pI .i64 v27.2)) :: .v (.vc (pB (v27.2 != 0))) :: .v (.vc (pB (v27.2 != 0))) :: .v (.vc (pB false)) :: .v (.vc (pI .i64 v30.2)) :: .v (.vc (pB (v30.2 != 0))) :: .v (.vc (pB (v30.2 != 0))) :: .v (.vc (pB false)) :: .v (.vc (pI .i64 v33.2)) :: .v (.vc (pB (v33.2 != 0))) :: .v (.vc (pB (v33.2 != 0))) :: .v (.vc (pB true)) :: .v .any :: .v .any :: .v .any :: .v .any :: .v (.vc (pB true)) :: .v (.vc (pB true)) :: .v .any :: .v .any :: .v .any :: .v .any :: .v .any :: .v .any :: .v (.vc (pB true)) :: []) Try_mixed ⟨⟨rfl, .run (lo := 0) (n := 1) ⟨fun G36 A => t_mv (.inl rfl), trivial⟩ (fun G36 => ⟨rfl, trivial⟩)⟩, ⟨rfl, .run (lo := 0) (n := 1) ⟨fun G36 A => t_ne rfl, trivial⟩ (fun G36 => ⟨rfl, k_I _ _, trivial⟩)⟩, ⟨rfl, .run (lo := 0) (n := 1) ⟨fun G36 A => tr_bool (t_mv (.inl rfl)) h38, trivial⟩ (fun G36 => ⟨rfl, trivial⟩)⟩, ⟨rfl, .runG (lo := 0) (n := 1) ⟨fun G36 A => t_mv (.inl rfl), trivial⟩ (fun G36 => ⟨rfl, trivial⟩)⟩, ⟨rfl, .runG (lo := 0) (n := 1) ⟨fun G36 A => t_ne rfl, trivial⟩ (fun G36 => ⟨rfl, k_I _ _, trivial⟩)⟩, ⟨rfl, .run (lo := 0) (n := 1) ⟨fun G36 A => t_pickF rfl, trivial⟩ (fun G36 => ⟨rfl, rfl, trivial⟩)⟩, ⟨rfl, .run (lo := 0) (n := 1) ⟨fun G36 A => tr_bool (t_mv (.inl rfl)) h39, trivial⟩ (fun G36 => ⟨rfl, trivial⟩)⟩, ⟨rfl, .runG (lo := 0) (n := 1) ⟨fun G36 A => t_mv (.inl rfl), trivial⟩ (fun G36 => ⟨rfl, trivial⟩)⟩, ⟨rfl, .runG (lo := 0) (n := 1) ⟨fun G36 A => t_ne rfl, trivial⟩ (fun G36 => ⟨rfl, k_I _ _, trivial⟩)⟩, ⟨rfl, .run (lo := 0) (n := 1) ⟨fun G36 A => t_pickF rfl, trivial⟩ (fun G36 => ⟨rfl, rfl, trivial⟩)⟩, ⟨rfl, .run (lo := 0) (n := 1) ⟨fun G36 A => tr_bool (t_mv (.inl rfl)) h40, trivial⟩ (fun G36 => ⟨rfl, trivial⟩)⟩, ⟨rfl, .runG (lo := 0) (n := 1) ⟨fun G36 A => t_mv (.inl rfl), trivial⟩ (fun G36 => ⟨rfl, trivial⟩)⟩, ⟨rfl, .runG (lo := 0) (n := 1) ⟨fun G36 A => t_ne rfl, trivial⟩ (fun G36 => ⟨rfl, k_I _ _, trivial⟩)⟩, ⟨rfl, .run (lo := 0) (n := 1) ⟨fun G36 A => t_pickF rfl, trivial⟩ (fun G36 => ⟨rfl, rfl, trivial⟩)⟩, ⟨rfl, .run (lo := 0) (n := 1) ⟨fun G36 A => tr_bool (t_mv (.inl rfl)) h41, trivial⟩ (fun G36 => ⟨rfl, trivial⟩)⟩, ⟨rfl, .runG (lo := 0) (n := 1) ⟨fun G36 A => t_mv (.inl rfl), trivial⟩ (fun G36 => ⟨rfl, trivial⟩)⟩, ⟨rfl, .runG (lo := 0) (n := 1) ⟨fun G36 A => t_ne rfl, trivial⟩ (fun G36 => ⟨rfl, k_I _ _, trivial⟩)⟩, ⟨rfl, .run (lo := 0) (n := 1) ⟨fun G36 A => t_pickF rfl, trivial⟩ (fun G36 => ⟨rfl, rfl, trivial⟩)⟩, ⟨rfl, .run (lo := 0) (n := 1) ⟨fun G36 A => tr_bool (t_mv (.inl rfl)) h42, trivial⟩ (fun G36 => ⟨rfl, trivial⟩)⟩, ⟨rfl, .skip⟩, ⟨rfl, .skip⟩, ⟨rfl, .skip⟩, ⟨rfl, .skip⟩, ⟨rfl, .run (lo := 0) (n := 1) ⟨fun G36 A => t_pickT rfl, trivial⟩ (fun G36 => ⟨rfl, k_B _, trivial⟩)⟩, ⟨rfl, .run (lo := 0) (n := 1) ⟨fun G36 A => t_mv (.inl rfl), trivial⟩ (fun G36 => ⟨rfl, trivial⟩)⟩, ⟨rfl, .skip⟩, ⟨rfl, .skip⟩, ⟨rfl, .skip⟩, ⟨rfl, .skip⟩, ⟨rfl, .skip⟩, ⟨rfl, .skip⟩, ⟨rfl, .run (lo := 0) (n := 1) ⟨fun G36 A => t_pickT rfl, trivial⟩ (fun G36 => ⟨rfl, k_B _, trivial⟩)⟩, trivial⟩ (fun bs37 G36 => ?_)
                refine r_nil (r_next (r_ifT rfl ?_))
                refine r_seq (r_reg (r_op (t_mv (.inr rfl)) ⟨k_B _, trivial⟩ ?_))
                refine r_nil (r_next (r_ret (r_toR ?_)))
                obtain rfl := sm1 hF
                exact r_done1 (.inl rfl) Try.results4 (.tmp rfl .nil) rfl rfl
              · have hF := cnd_f h42 hF
                obtain ⟨v43, h44, hF⟩ := bnd hF
                rcases Bool.eq_false_or_eq_true (!v43) with h45 | h45
                · have hF := cnd_t h45 hF
                  refine r_draw (0 :: 1 :: 3 :: 7 :: 15 :: 31 :: 63 :: 127 :: 255 :: 511 :: 1023 :: 2047 :: 4095 :: 8191 :: 16383 :: 32767 :: 65535 :: 131071 :: 262143 :: 524287 :: 524287 :: 2097151 :: 4194303 :: 8388607 :: 16777215 :: 33554431 :: 33554431 :: 33554431 :: 234881023 :: 536870911 :: 1073741823 :: 2147483647 :: []) 32 0 (.v (.vc (pI .i64 v23.2)) :: .v (.vc (pB (v23.2 != 0))) :: .v (.vc (pB false)) :: .v (.vc (pI .i64 v25.2)) :: .v (.vc (pB (v25.2 != 0))) :: .v (.vc (pB (v25.2 != 0))) :: .v (.vc (pB false)) :: .v (.vc (pI .i64 v27.2)) :: .v (.vc (pB (v27.2 != 0))) :: .v (.vc (pB (v27.2 != 0))) :: .v (.vc (pB false)) :: .v (.vc (pI .i64 v30.2)) :: .v (.vc (pB (v30.2 != 0))) :: .v (.vc (pB (v30.2 != 0))) :: .v (.vc (pB false)) :: .v (.vc (pI .i64 v33.2)) :: .v (.vc (pB (v33.2 != 0))) :: .v (.vc (pB (v33.2 != 0))) :: .v (.vc (pB false)) :: .v (.vc (pS (cSl cQ) v23.1)) :: .v (.vc (pS (cSl cQ) v25.1)) :: .v (.vc (pB v43)) :: .v (.vc (pB (!v43))) :: .v (.vc (pB (!v43))) :: .v (.vc (pB true)) :: .v .any :: .v .any :: .v .any :: .v .any :: .v .any :: .v .any :: .v (.vc (pB true)) :: []) Try_mixed ⟨⟨rfl, .run (lo := 0) (n := 1) ⟨fun G36 A => t_mv (.inl rfl), trivial⟩ (fun G36 => ⟨rfl, trivial⟩)⟩, ⟨rfl, .run (lo := 0) (n := 1) ⟨fun G36 A => t_ne rfl, trivial⟩ (fun G36 => ⟨rfl, k_I _ _, trivial⟩)⟩, ⟨rfl, .run (lo := 0) (n := 1) ⟨fun G36 A => tr_bool (t_mv (.inl rfl)) h38, trivial⟩ (fun G36 => ⟨rfl, trivial⟩)⟩, ⟨rfl, .runG (lo := 0) (n := 1) ⟨fun G36 A => t_mv (.inl rfl), trivial⟩ (fun G36 => ⟨rfl, trivial⟩)⟩, ⟨rfl, .runG (lo := 0) (n := 1) ⟨fun G36 A => t_ne rfl, trivial⟩ (fun G36 => ⟨rfl, k_I _ _, trivial⟩)⟩, ⟨rfl, .run (lo := 0) (n := 1) ⟨fun G36 A => t_pickF rfl, trivial⟩ (fun G36 => ⟨rfl, rfl, trivial⟩)⟩, ⟨rfl, .run (lo := 0) (n := 1) ⟨fun G36 A => tr_bool (t_mv (.inl rfl)) h39, trivial⟩ (fun G36 => ⟨rfl, trivial⟩)⟩, ⟨rfl, .runG (lo := 0) (n := 1) ⟨fun G36 A => t_mv (.inl rfl), trivial⟩ (fun G36 => ⟨rfl, trivial⟩)⟩, ⟨rfl, .runG (lo := 0) (n := 1) ⟨fun G36 A => t_ne rfl, trivial⟩ (fun G36 => ⟨rfl, k_I _ _, trivial⟩)⟩, ⟨rfl, .run (lo := 0) (n := 1) ⟨fun G36 A => t_pickF rfl, trivial⟩ (fun G36 => ⟨rfl, rfl, trivial⟩)⟩, ⟨rfl, .run (lo := 0) (n := 1) ⟨fun G36 A => tr_bool (t_mv (.inl rfl)) h40, trivial⟩ (fun G36 => ⟨rfl, trivial⟩)⟩, ⟨rfl, .runG (lo := 0) (n := 1) ⟨fun G36 A => t_mv (.inl rfl), trivial⟩ (fun G36 => ⟨rfl, trivial⟩)⟩, ⟨rfl, .runG (lo := 0) (n := 1) ⟨fun G36 A => t_ne rfl, trivial⟩ (fun G36 => ⟨rfl, k_I _ _, trivial⟩)⟩, ⟨rfl, .run (lo := 0) (n := 1) ⟨fun G36 A => t_pickF rfl, trivial⟩ (fun G36 => ⟨rfl, rfl, trivial⟩)⟩, ⟨rfl, .run (lo := 0) (n := 1) ⟨fun G36 A => tr_bool (t_mv (.inl rfl)) h41, trivial⟩ (fun G36 => ⟨rfl, trivial⟩)⟩, ⟨rfl, .runG (lo := 0) (n := 1) ⟨fun G36 A => t_mv (.inl rfl), trivial⟩ (fun G36 => ⟨rfl, trivial⟩)⟩, ⟨rfl, .runG (lo := 0) (n := 1) ⟨fun G36 A => t_ne rfl, trivial⟩ (fun G36 => ⟨rfl, k_I _ _, trivial⟩)⟩, ⟨rfl, .run (lo := 0) (n := 1) ⟨fun G36 A => t_pickF rfl, trivial⟩ (fun G36 => ⟨rfl, rfl, trivial⟩)⟩, ⟨rfl, .run (lo := 0) (n := 1) ⟨fun G36 A => tr_bool (t_mv (.inl rfl)) h42, trivial⟩ (fun G36 => ⟨rfl, trivial⟩)⟩, ⟨rfl, .runG (lo := 0) (n := 1) ⟨fun G36 A => t_mv (.inl rfl), trivial⟩ (fun G36 => ⟨rfl, trivial⟩)⟩, ⟨rfl, .runG (lo := 0) (n := 1) ⟨fun G36 A => t_mv (.inl rfl), trivial⟩ (fun G36 => ⟨rfl, trivial⟩)⟩, ⟨rfl, .runG (lo := 0) (n := 1) ⟨fun G36 A => t_call rfl (ct_gantryref09_Same h44) rfl, trivial⟩ (fun G36 => ⟨rfl, rfl, trivial⟩)⟩, ⟨rfl, .runG (lo := 0) (n := 1) ⟨fun G36 A => t_not rfl, trivial⟩ (fun G36 => ⟨rfl, trivial⟩)⟩, ⟨rfl, .run (lo := 0) (n := 1) ⟨fun G36 A => t_pickF rfl, trivial⟩ (fun G36 => ⟨rfl, rfl, trivial⟩)⟩, ⟨rfl, .run (lo := 0) (n := 1) ⟨fun G36 A => tr_bool (t_mv (.inl rfl)) h45, trivial⟩ (fun G36 => ⟨rfl, trivial⟩)⟩, ⟨rfl, .skip⟩, ⟨rfl, .skip⟩, ⟨rfl, .skip⟩, ⟨rfl, .skip⟩, ⟨rfl, .skip⟩, ⟨rfl, .skip⟩, ⟨rfl, .run (lo := 0) (n := 1) ⟨fun G36 A => t_pickT rfl, trivial⟩ (fun G36 => ⟨rfl, k_B _, trivial⟩)⟩, trivial⟩ (fun bs37 G36 => ?_)
                  refine r_nil (r_next (r_ifT rfl ?_))
                  refine r_seq (r_reg (r_op (t_mv (.inr rfl)) ⟨k_B _, trivial⟩ ?_))
                  refine r_nil (r_next (r_ret (r_toR ?_)))
                  obtain rfl := sm1 hF
                  exact r_done1 (.inl rfl) Try.results4 (.tmp rfl .nil) rfl rfl
                · have hF := cnd_f h45 hF
                  obtain ⟨v46, h47, hF⟩ := bnd hF
                  obtain ⟨v48, h49, hF⟩ := bnd hF
                  refine r_draw (0 :: 1 :: 3 :: 7 :: 15 :: 31 :: 63 :: 127 :: 255 :: 511 :: 1023 :: 2047 :: 4095 :: 8191 :: 16383 :: 32767 :: 65535 :: 131071 :: 262143 :: 524287 :: 524287 :: 2097151 :: 4194303 :: 8388607 :: 16777215 :: 33554431 :: 33554431 :: 33554431 :: 234881023 :: 536870911 :: 1073741823 :: 2147483647 :: []) 32 0 (.v (.vc (pI .i64 v23.2)) :: .v (.vc (pB (v23.2 != 0))) :: .v (.vc (pB false)) :: .v (.vc (pI .i64 v25.2)) :: .v (.vc (pB (v25.2 != 0))) :: .v (.vc (pB (v25.2 != 0))) :: .v (.vc (pB false)) :: .v (.vc (pI .i64 v27.2)) :: .v (.vc (pB (v27.2 != 0))) :: .v (.vc (pB (v27.2 != 0))) :: .v (.vc (pB false)) :: .v (.vc (pI .i64 v30.2)) :: .v (.vc (pB (v30.2 != 0))) :: .v (.vc (pB (v30.2 != 0))) :: .v (.vc (pB false)) :: .v (.vc (pI .i64 v33.2)) :: .v (.vc (pB (v33.2 != 0))) :: .v (.vc (pB (v33.2 != 0))) :: .v (.vc (pB false)) :: .v (.vc (pS (cSl cQ) v23.1)) :: .v (.vc (pS (cSl cQ) v25.1)) :: .v (.vc (pB v43)) :: .v (.vc (pB (!v43))) :: .v (.vc (pB (!v43))) :: .v (.vc (pB false)) :: .v (.va (eQ v27.1)) :: .v (.va (eQ v30.1)) :: .v (.va (eQ v33.1)) :: .v (.va (eQ v46)) :: .v (.vc (pB v48)) :: .v (.vc (pB (!v48))) :: .v (.vc (pB (!v48))) :: []) Try_mixed ⟨⟨rfl, .run (lo := 0) (n := 1) ⟨fun G36 A => t_mv (.inl rfl), trivial⟩ (fun G36 => ⟨rfl, trivial⟩)⟩, ⟨rfl, .run (lo := 0) (n := 1) ⟨fun G36 A => t_ne rfl, trivial⟩ (fun G36 => ⟨rfl, k_I _ _, trivial⟩)⟩, ⟨rfl, .run (lo := 0) (n := 1) ⟨fun G36 A => tr_bool (t_mv (.inl rfl)) h38, trivial⟩ (fun G36 => ⟨rfl, trivial⟩)⟩, ⟨rfl, .runG (lo := 0) (n := 1) ⟨fun G36 A => t_mv (.inl rfl), trivial⟩ (fun G36 => ⟨rfl, trivial⟩)⟩, ⟨rfl, .runG (lo := 0) (n := 1) ⟨fun G36 A => t_ne rfl, trivial⟩ (fun G36 => ⟨rfl, k_I _ _, trivial⟩)⟩, ⟨rfl, .run (lo := 0) (n := 1) ⟨fun G36 A => t_pickF rfl, trivial⟩ (fun G36 => ⟨rfl, rfl, trivial⟩)⟩, ⟨rfl, .run (lo := 0) (n := 1) ⟨fun G36 A => tr_bool (t_mv (.inl rfl)) h39, trivial⟩ (fun G36 => ⟨rfl, trivial⟩)⟩, ⟨rfl, .runG (lo := 0) (n := 1) ⟨fun G36 A => t_mv (.inl rfl), trivial⟩ (fun G36 => ⟨rfl, trivial⟩)⟩, ⟨rfl, .runG (lo := 0) (n := 1) ⟨fun G36 A => t_ne rfl, trivial⟩ (fun G36 => ⟨rfl, k_I _ _, trivial⟩)⟩, ⟨rfl, .run (lo := 0) (n := 1) ⟨fun G36 A => t_pickF rfl, trivial⟩ (fun G36 => ⟨rfl, rfl, trivial⟩)⟩, ⟨rfl, .run (lo := 0) (n := 1) ⟨fun G36 A => tr_bool (t_mv (.inl rfl)) h40, trivial⟩ (fun G36 => ⟨rfl, trivial⟩)⟩, ⟨rfl, .runG (lo := 0) (n := 1) ⟨fun G36 A => t_mv (.inl rfl), trivial⟩ (fun G36 => ⟨rfl, trivial⟩)⟩, ⟨rfl, .runG (lo := 0) (n := 1) ⟨fun G36 A => t_ne rfl, trivial⟩ (fun G36 => ⟨rfl, k_I _ _, trivial⟩)⟩, ⟨rfl, .run (lo := 0) (n := 1) ⟨fun G36 A => t_pickF rfl, trivial⟩ (fun G36 => ⟨rfl, rfl, trivial⟩)⟩, ⟨rfl, .run (lo := 0) (n := 1) ⟨fun G36 A => tr_bool (t_mv (.inl rfl)) h41, trivial⟩ (fun G36 => ⟨rfl, trivial⟩)⟩, ⟨rfl, .runG (lo := 0) (n := 1) ⟨fun G36 A => t_mv (.inl rfl), trivial⟩ (fun G36 => ⟨rfl, trivial⟩)⟩, ⟨rfl, .runG (lo := 0) (n := 1) ⟨fun G36 A => t_ne rfl, trivial⟩ (fun G36 => ⟨rfl, k_I _ _, trivial⟩)⟩, ⟨rfl, .run (lo := 0) (n := 1) ⟨fun G36 A => t_pickF rfl, trivial⟩ (fun G36 => ⟨rfl, rfl, trivial⟩)⟩, ⟨rfl, .run (lo := 0) (n := 1) ⟨fun G36 A => tr_bool (t_mv (.inl rfl)) h42, trivial⟩ (fun G36 => ⟨rfl, trivial⟩)⟩, ⟨rfl, .runG (lo := 0) (n := 1) ⟨fun G36 A => t_mv (.inl rfl), trivial⟩ (fun G36 => ⟨rfl, trivial⟩)⟩, ⟨rfl, .runG (lo := 0) (n := 1) ⟨fun G36 A => t_mv (.inl rfl), trivial⟩ (fun G36 => ⟨rfl, trivial⟩)⟩, ⟨rfl, .runG (lo := 0) (n := 1) ⟨fun G36 A => t_call rfl (ct_gantryref09_Same h44) rfl, trivial⟩ (fun G36 => ⟨rfl, rfl, trivial⟩)⟩, ⟨rfl, .runG (lo := 0) (n := 1) ⟨fun G36 A => t_not rfl, trivial⟩ (fun G36 => ⟨rfl, trivial⟩)⟩, ⟨rfl, .run (lo := 0) (n := 1) ⟨fun G36 A => t_pickF rfl, trivial⟩ (fun G36 => ⟨rfl, rfl, trivial⟩)⟩, ⟨rfl, .run (lo := 0) (n := 1) ⟨fun G36 A => tr_bool (t_mv (.inl rfl)) h45, trivial⟩ (fun G36 => ⟨rfl, trivial⟩)⟩, ⟨rfl, .runG (lo := 0) (n := 1) ⟨fun G36 A => t_l 2 4 rfl rfl rfl rfl (.agg tyA39), trivial⟩ (fun G36 => ⟨rfl, trivial⟩)⟩, ⟨rfl, .runG (lo := 0) (n := 1) ⟨fun G36 A => t_l 1 4 rfl rfl rfl rfl (.agg tyA39), trivial⟩ (fun G36 => ⟨rfl, trivial⟩)⟩, ⟨rfl, .runG (lo := 0) (n := 1) ⟨fun G36 A => t_l 0 4 rfl rfl rfl rfl (.agg tyA39), trivial⟩ (fun G36 => ⟨rfl, trivial⟩)⟩, ⟨rfl, .runG (lo := 0) (n := 1) ⟨fun G36 A => t_call rfl (qc_rat_Mul h47) rfl, trivial⟩ (fun G36 => ⟨rfl, rfl, trivial⟩)⟩, ⟨rfl, .runG (lo := 0) (n := 1) ⟨fun G36 A => t_call rfl (qc_rat_Same h49) rfl, trivial⟩ (fun G36 => ⟨rfl, rfl, trivial⟩)⟩, ⟨rfl, .runG (lo := 0) (n := 1) ⟨fun G36 A => t_not rfl, trivial⟩ (fun G36 => ⟨rfl, trivial⟩)⟩, ⟨rfl, .run (lo := 0) (n := 1) ⟨fun G36 A => t_pickF rfl, trivial⟩ (fun G36 => ⟨rfl, rfl, trivial⟩)⟩, trivial⟩ (fun bs37 G36 => ?_)
                  refine r_nil (r_next (r_if rfl (fun h50 => ?_) (fun h50 => ?_)))
                  · have hF := cnd_t h50 hF
                    refine r_seq (r_reg (r_op (t_mv (.inr rfl)) ⟨k_B _, trivial⟩ ?_))
                    refine r_nil (r_next (r_ret (r_toR ?_)))
                    obtain rfl := sm1 hF
                    exact r_done1 (.inl rfl) Try.results4 (.tmp rfl .nil) rfl rfl
                  · have hF := cnd_f h50 hF
                    refine r_skip (r_next (r_seq (r_reg (r_mv ?_))))
                    obtain ⟨v51, h52, hF⟩ := bnd hF
                    refine r_op (t_call rfl (ct_matrix_Turn h52) rfl) ⟨rfl, trivial⟩ ?_
                    refine r_mv ?_
                    refine r_op (t_ext2a rfl) ⟨rfl, trivial⟩ ?_
                    refine r_op (t_ext2b rfl) ⟨rfl, trivial⟩ ?_
                    refine r_as ?_
                    refine r_as ?_
                    refine r_nil (r_next (r_seq (r_reg (r_mv ?_))))
                    obtain ⟨v53, h54, hF⟩ := bnd hF
                    refine r_op (t_call rfl (ct_matrix_Turn h54) rfl) ⟨rfl, trivial⟩ ?_
                    refine r_mv ?_
                    refine r_op (t_ext2a rfl) ⟨rfl, trivial⟩ ?_
                    refine r_op (t_ext2b rfl) ⟨rfl, trivial⟩ ?_
                    refine r_as ?_
                    refine r_as ?_
                    refine r_nil (r_next (r_seq (r_reg (r_mv ?_))))
                    obtain ⟨v55, h56, hF⟩ := bnd hF
                    refine r_op (t_call rfl (ct_matrix_Turn h56) rfl) ⟨rfl, trivial⟩ ?_
                    refine r_mv ?_
                    refine r_op (t_ext2a rfl) ⟨rfl, trivial⟩ ?_
                    refine r_op (t_ext2b rfl) ⟨rfl, trivial⟩ ?_
                    refine r_as ?_
                    refine r_as ?_
                    refine r_nil (r_next (r_seq (r_reg (r_mv ?_))))
                    refine r_mv ?_
                    obtain ⟨v57, h58, hF⟩ := bnd hF
                    refine r_op (t_call rfl (ct_matrix_Mul h58) rfl) ⟨rfl, rfl, trivial⟩ ?_
                    refine r_mv ?_
                    refine r_op (t_ext2a rfl) ⟨rfl, trivial⟩ ?_
                    refine r_op (t_ext2b rfl) ⟨rfl, trivial⟩ ?_
                    refine r_as ?_
                    refine r_as ?_
                    refine r_nil (r_next (r_seq (r_reg (r_mv ?_))))
                    obtain ⟨v59, h60, hF⟩ := bnd hF
                    refine r_op (t_call rfl (ct_matrix_Turn h60) rfl) ⟨rfl, trivial⟩ ?_
                    refine r_mv ?_
                    refine r_op (t_ext2a rfl) ⟨rfl, trivial⟩ ?_
                    refine r_op (t_ext2b rfl) ⟨rfl, trivial⟩ ?_
                    refine r_as ?_
                    refine r_as ?_
                    refine r_nil (r_next (r_seq (r_reg (r_mv ?_))))
                    obtain ⟨v61, h62, hF⟩ := bnd hF
                    refine r_op (t_call rfl (ct_matrix_Rank h62) rfl) ⟨rfl, trivial⟩ ?_
                    refine r_mv ?_
                    refine r_op (t_ext2a rfl) ⟨rfl, trivial⟩ ?_
                    refine r_op (t_ext2b rfl) ⟨rfl, trivial⟩ ?_
                    refine r_as ?_
                    refine r_as ?_
                    refine r_nil (r_next (r_seq (r_reg (r_mv ?_))))
                    obtain ⟨v63, h64, hF⟩ := bnd hF
                    refine r_op (t_call rfl (ct_matrix_Rank h64) rfl) ⟨rfl, trivial⟩ ?_
                    refine r_mv ?_
                    refine r_op (t_ext2a rfl) ⟨rfl, trivial⟩ ?_
                    refine r_op (t_ext2b rfl) ⟨rfl, trivial⟩ ?_
                    refine r_as ?_
                    refine r_as ?_
                    refine r_nil (r_next (r_seq (r_reg (r_mv ?_))))
                    refine r_op (t_eq rfl) ⟨rfl, k_I _ _, trivial⟩ ?_
                    refine r_mv ?_
                    refine r_bool (fun h65 => ?_) (fun h65 => ?_)
                    · have hF := cnd_t h65 hF
                      refine r_opg (t_mv (.inl rfl)) ⟨rfl, trivial⟩ ?_
                      refine r_opg (t_eq rfl) ⟨rfl, k_I _ _, trivial⟩ ?_
                      refine r_op (t_pickT rfl) ⟨rfl, rfl, trivial⟩ ?_
                      refine r_mv ?_
                      refine r_bool (fun h66 => ?_) (fun h66 => ?_)
                      · have hF := cnd_t h66 hF
                        refine r_opg (t_mv (.inl rfl)) ⟨rfl, trivial⟩ ?_
                        refine r_opg (t_eq rfl) ⟨rfl, k_I _ _, trivial⟩ ?_
                        refine r_op (t_pickT rfl) ⟨rfl, rfl, trivial⟩ ?_
                        refine r_mv ?_
                        refine r_bool (fun h67 => ?_) (fun h67 => ?_)
                        · have hF := cnd_t h67 hF
                          refine r_opg (t_mv (.inl rfl)) ⟨rfl, trivial⟩ ?_
                          refine r_opg (t_eq rfl) ⟨rfl, k_I _ _, trivial⟩ ?_
                          refine r_op (t_pickT rfl) ⟨rfl, rfl, trivial⟩ ?_
                          refine r_mv ?_
                          refine r_bool (fun h68 => ?_) (fun h68 => ?_)
                          · have hF := cnd_t h68 hF
                            refine r_opg (t_mv (.inl rfl)) ⟨rfl, trivial⟩ ?_
                            refine r_opg (t_eq rfl) ⟨rfl, k_I _ _, trivial⟩ ?_
                            refine r_op (t_pickT rfl) ⟨rfl, rfl, trivial⟩ ?_
                            refine r_mv ?_
                            refine r_bool (fun h69 => ?_) (fun h69 => ?_)
                            · have hF := cnd_t h69 hF
                              refine r_opg (t_mv (.inl rfl)) ⟨rfl, trivial⟩ ?_
                              refine r_opg (t_eq rfl) ⟨rfl, k_I _ _, trivial⟩ ?_
                              refine r_op (t_pickT rfl) ⟨rfl, rfl, trivial⟩ ?_
                              refine r_mv ?_
                              refine r_bool (fun h70 => ?_) (fun h70 => ?_)
                              · have hF := cnd_t h70 hF
                                refine r_opg (t_mv (.inl rfl)) ⟨rfl, trivial⟩ ?_
                                refine r_opg (t_eq rfl) ⟨rfl, k_I _ _, trivial⟩ ?_
                                refine r_op (t_pickT rfl) ⟨rfl, rfl, trivial⟩ ?_
                                refine r_mv ?_
                                refine r_bool (fun h71 => ?_) (fun h71 => ?_)
                                · have hF := cnd_t h71 hF
                                  refine r_opg (t_mv (.inl rfl)) ⟨rfl, trivial⟩ ?_
                                  refine r_opg (t_mv (.inl rfl)) ⟨rfl, trivial⟩ ?_
                                  obtain ⟨v72, h73, hF⟩ := bnd hF
                                  refine r_opg (t_call rfl (ct_gantryref09_Same h73) rfl) ⟨rfl, rfl, trivial⟩ ?_
                                  refine r_op (t_pickT rfl) ⟨rfl, rfl, trivial⟩ ?_
                                  refine r_mv ?_
                                  refine r_bool (fun h74 => ?_) (fun h74 => ?_)
                                  · have hF := cnd_t h74 hF
                                    refine r_opg (t_mv (.inl rfl)) ⟨rfl, trivial⟩ ?_
                                    refine r_opg (t_mv (.inl rfl)) ⟨rfl, trivial⟩ ?_
                                    refine r_opg (t_eq rfl) ⟨rfl, rfl, trivial⟩ ?_
                                    refine r_op (t_pickT rfl) ⟨rfl, rfl, trivial⟩ ?_
                                    refine r_mv ?_
                                    refine r_bool (fun h75 => ?_) (fun h75 => ?_)
                                    · have hF := cnd_t h75 hF
                                      obtain ⟨v76, h77, hF⟩ := bnd hF
                                      refine r_opg (t_call rfl (ct_gantrylaw09_lives h77) rfl) trivial ?_
                                      refine r_op (t_pickT rfl) ⟨rfl, rfl, trivial⟩ ?_
                                      refine r_as ?_
                                      refine r_nil (r_next (r_ret (r_toR ?_)))
                                      obtain rfl := sm1 hF
                                      exact r_done1 (.inl rfl) Try.results4 (.tmp rfl .nil) rfl rfl
                                    · have hF := cnd_f h75 hF
                                      refine r_opn ?_
                                      refine r_op (t_pickF rfl) ⟨rfl, k_B _, trivial⟩ ?_
                                      refine r_as ?_
                                      refine r_nil (r_next (r_ret (r_toR ?_)))
                                      obtain rfl := sm1 hF
                                      exact r_done1 (.inl rfl) Try.results4 (.tmp rfl .nil) rfl rfl
                                  · have hF := cnd_f h74 hF
                                    refine r_opn ?_
                                    refine r_opn ?_
                                    refine r_opn ?_
                                    refine r_op (t_pickF rfl) ⟨rfl, k_B _, trivial⟩ ?_
                                    refine r_mv ?_
                                    refine r_opn ?_
                                    refine r_op (t_pickF rfl) ⟨rfl, k_B _, trivial⟩ ?_
                                    refine r_as ?_
                                    refine r_nil (r_next (r_ret (r_toR ?_)))
                                    obtain rfl := sm1 hF
                                    exact r_done1 (.inl rfl) Try.results4 (.tmp rfl .nil) rfl rfl
                                · have hF := cnd_f h71 hF
                                  refine r_opn ?_
                                  refine r_opn ?_
                                  refine r_opn ?_
                                  refine r_op (t_pickF rfl) ⟨rfl, k_B _, trivial⟩ ?_
                                  refine r_mv ?_
                                  refine r_opn ?_
                                  refine r_opn ?_
                                  refine r_opn ?_
                                  refine r_op (t_pickF rfl) ⟨rfl, k_B _, trivial⟩ ?_
                                  refine r_mv ?_
                                  refine r_opn ?_
                                  refine r_op (t_pickF rfl) ⟨rfl, k_B _, trivial⟩ ?_
                                  refine r_as ?_
                                  refine r_nil (r_next (r_ret (r_toR ?_)))
                                  obtain rfl := sm1 hF
                                  exact r_done1 (.inl rfl) Try.results4 (.tmp rfl .nil) rfl rfl
                              · have hF := cnd_f h70 hF
                                refine r_opn ?_
                                refine r_opn ?_
                                refine r_op (t_pickF rfl) ⟨rfl, k_B _, trivial⟩ ?_
                                refine r_mv ?_
                                refine r_opn ?_
                                refine r_opn ?_
                                refine r_opn ?_
                                refine r_op (t_pickF rfl) ⟨rfl, k_B _, trivial⟩ ?_
                                refine r_mv ?_
                                refine r_opn ?_
                                refine r_opn ?_
                                refine r_opn ?_
                                refine r_op (t_pickF rfl) ⟨rfl, k_B _, trivial⟩ ?_
                                refine r_mv ?_
                                refine r_opn ?_
                                refine r_op (t_pickF rfl) ⟨rfl, k_B _, trivial⟩ ?_
                                refine r_as ?_
                                refine r_nil (r_next (r_ret (r_toR ?_)))
                                obtain rfl := sm1 hF
                                exact r_done1 (.inl rfl) Try.results4 (.tmp rfl .nil) rfl rfl
                            · have hF := cnd_f h69 hF
                              refine r_opn ?_
                              refine r_opn ?_
                              refine r_op (t_pickF rfl) ⟨rfl, k_B _, trivial⟩ ?_
                              refine r_mv ?_
                              refine r_opn ?_
                              refine r_opn ?_
                              refine r_op (t_pickF rfl) ⟨rfl, k_B _, trivial⟩ ?_
                              refine r_mv ?_
                              refine r_opn ?_
                              refine r_opn ?_
                              refine r_opn ?_
                              refine r_op (t_pickF rfl) ⟨rfl, k_B _, trivial⟩ ?_
                              refine r_mv ?_
                              refine r_opn ?_
                              refine r_opn ?_
                              refine r_opn ?_
                              refine r_op (t_pickF rfl) ⟨rfl, k_B _, trivial⟩ ?_
                              refine r_mv ?_
                              refine r_opn ?_
                              refine r_op (t_pickF rfl) ⟨rfl, k_B _, trivial⟩ ?_
                              refine r_as ?_
                              refine r_nil (r_next (r_ret (r_toR ?_)))
                              obtain rfl := sm1 hF
                              exact r_done1 (.inl rfl) Try.results4 (.tmp rfl .nil) rfl rfl
                          · have hF := cnd_f h68 hF
                            refine r_opn ?_
                            refine r_opn ?_
                            refine r_op (t_pickF rfl) ⟨rfl, k_B _, trivial⟩ ?_
                            refine r_mv ?_
                            refine r_opn ?_
                            refine r_opn ?_
                            refine r_op (t_pickF rfl) ⟨rfl, k_B _, trivial⟩ ?_
                            refine r_mv ?_
                            refine r_opn ?_
                            refine r_opn ?_
                            refine r_op (t_pickF rfl) ⟨rfl, k_B _, trivial⟩ ?_
                            refine r_mv ?_
                            refine r_opn ?_
                            refine r_opn ?_
                            refine r_opn ?_
                            refine r_op (t_pickF rfl) ⟨rfl, k_B _, trivial⟩ ?_
                            refine r_mv ?_
                            refine r_opn ?_
                            refine r_opn ?_
                            refine r_opn ?_
                            refine r_op (t_pickF rfl) ⟨rfl, k_B _, trivial⟩ ?_
                            refine r_mv ?_
                            refine r_opn ?_
                            refine r_op (t_pickF rfl) ⟨rfl, k_B _, trivial⟩ ?_
                            refine r_as ?_
                            refine r_nil (r_next (r_ret (r_toR ?_)))
                            obtain rfl := sm1 hF
                            exact r_done1 (.inl rfl) Try.results4 (.tmp rfl .nil) rfl rfl
                        · have hF := cnd_f h67 hF
                          refine r_opn ?_
                          refine r_opn ?_
                          refine r_op (t_pickF rfl) ⟨rfl, k_B _, trivial⟩ ?_
                          refine r_mv ?_
                          refine r_opn ?_
                          refine r_opn ?_
                          refine r_op (t_pickF rfl) ⟨rfl, k_B _, trivial⟩ ?_
                          refine r_mv ?_
                          refine r_opn ?_
                          refine r_opn ?_
                          refine r_op (t_pickF rfl) ⟨rfl, k_B _, trivial⟩ ?_
                          refine r_mv ?_
                          refine r_opn ?_
                          refine r_opn ?_
                          refine r_op (t_pickF rfl) ⟨rfl, k_B _, trivial⟩ ?_
                          refine r_mv ?_
                          refine r_opn ?_
                          refine r_opn ?_
                          refine r_opn ?_
                          refine r_op (t_pickF rfl) ⟨rfl, k_B _, trivial⟩ ?_
                          refine r_mv ?_
                          refine r_opn ?_
                          refine r_opn ?_
                          refine r_opn ?_
                          refine r_op (t_pickF rfl) ⟨rfl, k_B _, trivial⟩ ?_
                          refine r_mv ?_
                          refine r_opn ?_
                          refine r_op (t_pickF rfl) ⟨rfl, k_B _, trivial⟩ ?_
                          refine r_as ?_
                          refine r_nil (r_next (r_ret (r_toR ?_)))
                          obtain rfl := sm1 hF
                          exact r_done1 (.inl rfl) Try.results4 (.tmp rfl .nil) rfl rfl
                      · have hF := cnd_f h66 hF
                        refine r_opn ?_
                        refine r_opn ?_
                        refine r_op (t_pickF rfl) ⟨rfl, k_B _, trivial⟩ ?_
                        refine r_mv ?_
                        refine r_opn ?_
                        refine r_opn ?_
                        refine r_op (t_pickF rfl) ⟨rfl, k_B _, trivial⟩ ?_
                        refine r_mv ?_
                        refine r_opn ?_
                        refine r_opn ?_
                        refine r_op (t_pickF rfl) ⟨rfl, k_B _, trivial⟩ ?_
                        refine r_mv ?_
                        refine r_opn ?_
                        refine r_opn ?_
                        refine r_op (t_pickF rfl) ⟨rfl, k_B _, trivial⟩ ?_
                        refine r_mv ?_
                        refine r_opn ?_
                        refine r_opn ?_
                        refine r_op (t_pickF rfl) ⟨rfl, k_B _, trivial⟩ ?_
                        refine r_mv ?_
                        refine r_opn ?_
                        refine r_opn ?_
                        refine r_opn ?_
                        refine r_op (t_pickF rfl) ⟨rfl, k_B _, trivial⟩ ?_
                        refine r_mv ?_
                        refine r_opn ?_
                        refine r_opn ?_
                        refine r_opn ?_
                        refine r_op (t_pickF rfl) ⟨rfl, k_B _, trivial⟩ ?_
                        refine r_mv ?_
                        refine r_opn ?_
                        refine r_op (t_pickF rfl) ⟨rfl, k_B _, trivial⟩ ?_
                        refine r_as ?_
                        refine r_nil (r_next (r_ret (r_toR ?_)))
                        obtain rfl := sm1 hF
                        exact r_done1 (.inl rfl) Try.results4 (.tmp rfl .nil) rfl rfl
                    · have hF := cnd_f h65 hF
                      refine r_opn ?_
                      refine r_opn ?_
                      refine r_op (t_pickF rfl) ⟨rfl, k_B _, trivial⟩ ?_
                      refine r_mv ?_
                      refine r_opn ?_
                      refine r_opn ?_
                      refine r_op (t_pickF rfl) ⟨rfl, k_B _, trivial⟩ ?_
                      refine r_mv ?_
                      refine r_opn ?_
                      refine r_opn ?_
                      refine r_op (t_pickF rfl) ⟨rfl, k_B _, trivial⟩ ?_
                      refine r_mv ?_
                      refine r_opn ?_
                      refine r_opn ?_
                      refine r_op (t_pickF rfl) ⟨rfl, k_B _, trivial⟩ ?_
                      refine r_mv ?_
                      refine r_opn ?_
                      refine r_opn ?_
                      refine r_op (t_pickF rfl) ⟨rfl, k_B _, trivial⟩ ?_
                      refine r_mv ?_
                      refine r_opn ?_
                      refine r_opn ?_
                      refine r_op (t_pickF rfl) ⟨rfl, k_B _, trivial⟩ ?_
                      refine r_mv ?_
                      refine r_opn ?_
                      refine r_opn ?_
                      refine r_opn ?_
                      refine r_op (t_pickF rfl) ⟨rfl, k_B _, trivial⟩ ?_
                      refine r_mv ?_
                      refine r_opn ?_
                      refine r_opn ?_
                      refine r_opn ?_
                      refine r_op (t_pickF rfl) ⟨rfl, k_B _, trivial⟩ ?_
                      refine r_mv ?_
                      refine r_opn ?_
                      refine r_op (t_pickF rfl) ⟨rfl, k_B _, trivial⟩ ?_
                      refine r_as ?_
                      refine r_nil (r_next (r_ret (r_toR ?_)))
                      obtain rfl := sm1 hF
                      exact r_done1 (.inl rfl) Try.results4 (.tmp rfl .nil) rfl rfl
end Go.Proofs.Ytkjnngaceacmdaa
