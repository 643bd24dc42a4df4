import Derived.Test.YtkjnngaceacmdaaQ1
set_option linter.unusedVariables false
namespace Go.Proofs.Ytkjnngaceacmdaa
def F_gantrylaw09_lives (K : Nat) : Option Bool :=
  (F_gantrylaw09_whole K [1, 2, 3]).bind fun v1 => (F_gantrylaw09_whole K [2, 4, 7]).bind fun v3 => (F_gantrylaw09_whole K [2, 1]).bind fun v5 => (F_gantrylaw09_whole K [1, 2]).bind fun v7 => (F_matrix_Rank K [v1, v3]).bind fun v9 => (F_gantrylaw09_whole K [1, 3]).bind fun v11 => (F_matrix_Solve K [v1, v3] v11).bind fun v13 => (F_matrix_Kernel K [v1, v3]).bind fun v15 => (F_gantrylaw09_whole K [2, 4]).bind fun v17 => (F_gantrylaw09_whole K [1, 2]).bind fun v19 => (F_gantrylaw09_whole K [1, 1]).bind fun v21 => (F_matrix_Solve K [v17, v19] v21).bind fun v23 => (F_matrix_Det K [v5, v7]).bind fun v25 => (F_matrix_Inverse K [v5, v7]).bind fun v28 => bif (v9.2 != 0) then (some false) else (bif (v13.2 != 0) then (some false) else (bif (v15.2 != 0) then (some false) else (bif (v25.2 != 0) then (some false) else (bif (v28.2 != 0) then (some false) else (bif (v23.2 != 6) then (some false) else (bif ((v15.1.length : Int) != 1) then (some false) else ((qof (-1) 3).bind fun v37 => (qof 2 3).bind fun v40 => bif (v9.1 == 2) then ((F_gantrylaw09_whole K [(-2), 0, 1]).bind fun v46 => (F_gantryref09_SameRow K v13.1 v46).bind fun v48 => bif v48 then ((rdL v15.1 0).bind fun v51 => (F_gantrylaw09_whole K [(-2), 1, 0]).bind fun v53 => (F_gantryref09_SameRow K v51 v53).bind fun v55 => bif v55 then ((qof 3 1).bind fun v58 => (qsame v25.1 v58).bind fun v60 => bif v60 then ((F_gantryref09_Same K v28.1 [[v40, v37], [v37, v40]]).bind fun v63 => bif v63 then ((F_matrix_Positive K [v5, v7]).bind fun v66 => bif v66 then ((F_gantrylaw09_whole K [1, 2]).bind fun v69 => (F_gantrylaw09_whole K [2, 1]).bind fun v71 => (F_matrix_Positive K [v69, v71]).bind fun v73 => some (!v73)) else (some false)) else (some false)) else (some false)) else (some false)) else (some false)) else (some false))))))))
set_option maxRecDepth 100000 in
theorem ct_gantrylaw09_lives {K : Nat} {r : Bool} (hF : F_gantrylaw09_lives K = some r) : Ct Try.prog 17 [] (.vc (pB r)) := by
  unfold F_gantrylaw09_lives at hF
  refine ctO_intro Try.func17 rfl (by kernel_rfl) Try.ntmps17 rfl (fun w0 M0 => ?_)
  refine r_seq (r_reg (r_op (t_mv (.inr rfl)) ⟨k_B _, trivial⟩ ?_))
  refine r_nil (r_next (r_seq (r_reg (r_op (t_bs (C := cI) (xs := [.const (.int .i64 (1)), .const (.int .i64 (2)), .const (.int .i64 (3))]) (ps := [.vc (pI .i64 1), .vc (pI .i64 2), .vc (pI .i64 3)]) (zs := [1, 2, 3]) rfl tyS22 rfl ⟨⟨trivial, rfl⟩, ⟨trivial, rfl⟩, ⟨trivial, rfl⟩, trivial⟩ rfl) ⟨k_I _ _, k_I _ _, k_I _ _, trivial⟩ ?_))))
  obtain ⟨v1, h2, hF⟩ := bnd hF
  refine r_op (t_call rfl (ct_gantrylaw09_whole h2) rfl) ⟨rfl, trivial⟩ ?_
  refine r_op (t_bs (C := cI) (xs := [.const (.int .i64 (2)), .const (.int .i64 (4)), .const (.int .i64 (7))]) (ps := [.vc (pI .i64 2), .vc (pI .i64 4), .vc (pI .i64 7)]) (zs := [2, 4, 7]) rfl tyS22 rfl ⟨⟨trivial, rfl⟩, ⟨trivial, rfl⟩, ⟨trivial, rfl⟩, trivial⟩ rfl) ⟨k_I _ _, k_I _ _, k_I _ _, trivial⟩ ?_
  obtain ⟨v3, h4, hF⟩ := bnd hF
  refine r_op (t_call rfl (ct_gantrylaw09_whole h4) rfl) ⟨rfl, trivial⟩ ?_
  refine r_op (t_bs (C := (cSl cQ)) (xs := [.tmp 19, .tmp 21]) (ps := [.vc (pS cQ v1), .vc (pS cQ v3)]) (zs := [v1, v3]) rfl tyS25 rfl ⟨⟨trivial, rfl⟩, ⟨trivial, rfl⟩, trivial⟩ rfl) ⟨rfl, rfl, trivial⟩ ?_
  refine r_as ?_
  refine r_nil (r_next (r_seq (r_reg (r_op (t_bs (C := cI) (xs := [.const (.int .i64 (2)), .const (.int .i64 (1))]) (ps := [.vc (pI .i64 2), .vc (pI .i64 1)]) (zs := [2, 1]) rfl tyS22 rfl ⟨⟨trivial, rfl⟩, ⟨trivial, rfl⟩, trivial⟩ rfl) ⟨k_I _ _, k_I _ _, trivial⟩ ?_))))
  obtain ⟨v5, h6, hF⟩ := bnd hF
  refine r_op (t_call rfl (ct_gantrylaw09_whole h6) rfl) ⟨rfl, trivial⟩ ?_
  refine r_op (t_bs (C := cI) (xs := [.const (.int .i64 (1)), .const (.int .i64 (2))]) (ps := [.vc (pI .i64 1), .vc (pI .i64 2)]) (zs := [1, 2]) rfl tyS22 rfl ⟨⟨trivial, rfl⟩, ⟨trivial, rfl⟩, trivial⟩ rfl) ⟨k_I _ _, k_I _ _, trivial⟩ ?_
  obtain ⟨v7, h8, hF⟩ := bnd hF
  refine r_op (t_call rfl (ct_gantrylaw09_whole h8) rfl) ⟨rfl, trivial⟩ ?_
  refine r_op (t_bs (C := (cSl cQ)) (xs := [.tmp 24, .tmp 26]) (ps := [.vc (pS cQ v5), .vc (pS cQ v7)]) (zs := [v5, v7]) rfl tyS25 rfl ⟨⟨trivial, rfl⟩, ⟨trivial, rfl⟩, trivial⟩ rfl) ⟨rfl, rfl, trivial⟩ ?_
  refine r_as ?_
  refine r_nil (r_next (r_seq (r_reg (r_mv ?_))))
  obtain ⟨v9, h10, hF⟩ := bnd hF
  refine r_op (t_call rfl (ct_matrix_Rank h10) rfl) ⟨rfl, trivial⟩ ?_
  refine r_mv ?_
  refine r_op (t_ext2a rfl) ⟨rfl, trivial⟩ ?_
  refine r_op (t_ext2b rfl) ⟨rfl, trivial⟩ ?_
  refine r_as ?_
  refine r_as ?_
  refine r_nil (r_next (r_seq (r_reg (r_mv ?_))))
  refine r_op (t_bs (C := cI) (xs := [.const (.int .i64 (1)), .const (.int .i64 (3))]) (ps := [.vc (pI .i64 1), .vc (pI .i64 3)]) (zs := [1, 3]) rfl tyS22 rfl ⟨⟨trivial, rfl⟩, ⟨trivial, rfl⟩, trivial⟩ rfl) ⟨k_I _ _, k_I _ _, trivial⟩ ?_
  obtain ⟨v11, h12, hF⟩ := bnd hF
  refine r_op (t_call rfl (ct_gantrylaw09_whole h12) rfl) ⟨rfl, trivial⟩ ?_
  obtain ⟨v13, h14, hF⟩ := bnd hF
  refine r_op (t_call rfl (ct_matrix_Solve h14) rfl) ⟨rfl, rfl, trivial⟩ ?_
  refine r_mv ?_
  refine r_op (t_ext2a rfl) ⟨rfl, trivial⟩ ?_
  refine r_op (t_ext2b rfl) ⟨rfl, trivial⟩ ?_
  refine r_as ?_
  refine r_as ?_
  refine r_nil (r_next (r_seq (r_reg (r_mv ?_))))
  obtain ⟨v15, h16, hF⟩ := bnd hF
  refine r_op (t_call rfl (ct_matrix_Kernel h16) rfl) ⟨rfl, trivial⟩ ?_
  refine r_mv ?_
  refine r_op (t_ext2a rfl) ⟨rfl, trivial⟩ ?_
  refine r_op (t_ext2b rfl) ⟨rfl, trivial⟩ ?_
  refine r_as ?_
  refine r_as ?_
  refine r_nil (r_next (r_seq (r_reg (r_op (t_bs (C := cI) (xs := [.const (.int .i64 (2)), .const (.int .i64 (4))]) (ps := [.vc (pI .i64 2), .vc (pI .i64 4)]) (zs := [2, 4]) rfl tyS22 rfl ⟨⟨trivial, rfl⟩, ⟨trivial, rfl⟩, trivial⟩ rfl) ⟨k_I _ _, k_I _ _, trivial⟩ ?_))))
  obtain ⟨v17, h18, hF⟩ := bnd hF
  refine r_op (t_call rfl (ct_gantrylaw09_whole h18) rfl) ⟨rfl, trivial⟩ ?_
  refine r_op (t_bs (C := cI) (xs := [.const (.int .i64 (1)), .const (.int .i64 (2))]) (ps := [.vc (pI .i64 1), .vc (pI .i64 2)]) (zs := [1, 2]) rfl tyS22 rfl ⟨⟨trivial, rfl⟩, ⟨trivial, rfl⟩, trivial⟩ rfl) ⟨k_I _ _, k_I _ _, trivial⟩ ?_
  obtain ⟨v19, h20, hF⟩ := bnd hF
  refine r_op (t_call rfl (ct_gantrylaw09_whole h20) rfl) ⟨rfl, trivial⟩ ?_
  refine r_op (t_bs (C := (cSl cQ)) (xs := [.tmp 47, .tmp 49]) (ps := [.vc (pS cQ v17), .vc (pS cQ v19)]) (zs := [v17, v19]) rfl tyS25 rfl ⟨⟨trivial, rfl⟩, ⟨trivial, rfl⟩, trivial⟩ rfl) ⟨rfl, rfl, trivial⟩ ?_
  refine r_op (t_bs (C := cI) (xs := [.const (.int .i64 (1)), .const (.int .i64 (1))]) (ps := [.vc (pI .i64 1), .vc (pI .i64 1)]) (zs := [1, 1]) rfl tyS22 rfl ⟨⟨trivial, rfl⟩, ⟨trivial, rfl⟩, trivial⟩ rfl) ⟨k_I _ _, k_I _ _, trivial⟩ ?_
  obtain ⟨v21, h22, hF⟩ := bnd hF
  refine r_op (t_call rfl (ct_gantrylaw09_whole h22) rfl) ⟨rfl, trivial⟩ ?_
  obtain ⟨v23, h24, hF⟩ := bnd hF
  refine r_op (t_call rfl (ct_matrix_Solve h24) rfl) ⟨rfl, rfl, trivial⟩ ?_
  refine r_mv ?_
  refine r_op (t_ext2a rfl) ⟨rfl, trivial⟩ ?_
  refine r_op (t_ext2b rfl) ⟨rfl, trivial⟩ ?_
  refine r_as ?_
  refine r_as ?_
  refine r_nil (r_next (r_seq (r_reg (r_mv ?_))))
  obtain ⟨v25, h26, hF⟩ := bnd hF
  refine r_op (t_call rfl (ct_matrix_Det h26) rfl) ⟨rfl, trivial⟩ ?_
  refine r_mv ?_
  refine r_op (t_ext2a rfl) ⟨rfl, trivial⟩ ?_
  refine r_op (t_ext2b rfl) ⟨rfl, trivial⟩ ?_
  refine r_alloc rfl tyZ39q (fun b27 => ?_)
  refine r_op0 (t_s 0 rfl rfl rfl tyA39.s) ⟨rfl, rfl, trivial⟩ ?_
  refine r_as ?_
  refine r_nil (r_next (r_seq (r_reg (r_mv ?_))))
  obtain ⟨v28, h29, hF⟩ := bnd hF
  refine r_op (t_call rfl (ct_matrix_Inverse h29) rfl) ⟨rfl, trivial⟩ ?_
  refine r_mv ?_
  refine r_op (t_ext2a rfl) ⟨rfl, trivial⟩ ?_
  refine r_op (t_ext2b rfl) ⟨rfl, trivial⟩ ?_
  refine r_as ?_
  refine r_as ?_
  refine r_nil (r_next (r_seq (r_seq (r_reg (r_mv ?_)))))
  refine r_op (t_ne rfl) ⟨rfl, k_I _ _, trivial⟩ ?_
  refine r_mv ?_
  refine r_bool (fun h30 => ?_) (fun h30 => ?_)
  · have hF := cnd_t h30 hF
    refine r_opn ?_
    refine r_opn ?_
    refine r_op (t_pickT rfl) ⟨rfl, k_B _, trivial⟩ ?_
    refine r_mv ?_
    refine r_opn ?_
    refine r_opn ?_
    refine r_op (t_pickT rfl) ⟨rfl, k_B _, trivial⟩ ?_
    refine r_mv ?_
    refine r_opn ?_
    refine r_opn ?_
    refine r_op (t_pickT rfl) ⟨rfl, k_B _, trivial⟩ ?_
    refine r_mv ?_
    refine r_opn ?_
    refine r_opn ?_
    refine r_op (t_pickT rfl) ⟨rfl, k_B _, trivial⟩ ?_
    refine r_mv ?_
    refine r_opn ?_
    refine r_opn ?_
    refine r_op (t_pickT rfl) ⟨rfl, k_B _, trivial⟩ ?_
    refine r_mv ?_
    refine r_opn ?_
    refine r_opn ?_
    refine r_opn ?_
    refine r_op (t_pickT rfl) ⟨rfl, k_B _, trivial⟩ ?_
    refine r_nil (r_next (r_ifT rfl ?_))
    refine r_seq (r_reg (r_op (t_mv (.inr rfl)) ⟨k_B _, trivial⟩ ?_))
    refine r_nil (r_next (r_ret (r_toR ?_)))
    obtain rfl := sm1 hF
    exact r_done1 (.inl rfl) Try.results17 (.tmp rfl .nil) rfl rfl
  · have hF := cnd_f h30 hF
    refine r_opg (t_mv (.inl rfl)) ⟨rfl, trivial⟩ ?_
    refine r_opg (t_ne rfl) ⟨rfl, k_I _ _, trivial⟩ ?_
    refine r_op (t_pickF rfl) ⟨rfl, rfl, trivial⟩ ?_
    refine r_mv ?_
    refine r_bool (fun h31 => ?_) (fun h31 => ?_)
    · have hF := cnd_t h31 hF
      refine r_opn ?_
      refine r_opn ?_
      refine r_op (t_pickT rfl) ⟨rfl, k_B _, trivial⟩ ?_
      refine r_mv ?_
      refine r_opn ?_
      refine r_opn ?_
      refine r_op (t_pickT rfl) ⟨rfl, k_B _, trivial⟩ ?_
      refine r_mv ?_
      refine r_opn ?_
      refine r_opn ?_
      refine r_op (t_pickT rfl) ⟨rfl, k_B _, trivial⟩ ?_
      refine r_mv ?_
      refine r_opn ?_
      refine r_opn ?_
      refine r_op (t_pickT rfl) ⟨rfl, k_B _, trivial⟩ ?_
      refine r_mv ?_
      refine r_opn ?_
      refine r_opn ?_
      refine r_opn ?_
      refine r_op (t_pickT rfl) ⟨rfl, k_B _, trivial⟩ ?_
      refine r_nil (r_next (r_ifT rfl ?_))
      refine r_seq (r_reg (r_op (t_mv (.inr rfl)) ⟨k_B _, trivial⟩ ?_))
      refine r_nil (r_next (r_ret (r_toR ?_)))
      obtain rfl := sm1 hF
      exact r_done1 (.inl rfl) Try.results17 (.tmp rfl .nil) rfl rfl
    · have hF := cnd_f h31 hF
      refine r_opg (t_mv (.inl rfl)) ⟨rfl, trivial⟩ ?_
      refine r_opg (t_ne rfl) ⟨rfl, k_I _ _, trivial⟩ ?_
      refine r_op (t_pickF rfl) ⟨rfl, rfl, trivial⟩ ?_
      refine r_mv ?_
      refine r_bool (fun h32 => ?_) (fun h32 => ?_)
      · have hF := cnd_t h32 hF
        refine r_opn ?_
        refine r_opn ?_
        refine r_op (t_pickT rfl) ⟨rfl, k_B _, trivial⟩ ?_
        refine r_mv ?_
        refine r_opn ?_
        refine r_opn ?_
        refine r_op (t_pickT rfl) ⟨rfl, k_B _, trivial⟩ ?_
        refine r_mv ?_
        refine r_opn ?_
        refine r_opn ?_
        refine r_op (t_pickT rfl) ⟨rfl, k_B _, trivial⟩ ?_
        refine r_mv ?_
        refine r_opn ?_
        refine r_opn ?_
        refine r_opn ?_
        refine r_op (t_pickT rfl) ⟨rfl, k_B _, trivial⟩ ?_
        refine r_nil (r_next (r_ifT rfl ?_))
        refine r_seq (r_reg (r_op (t_mv (.inr rfl)) ⟨k_B _, trivial⟩ ?_))
        refine r_nil (r_next (r_ret (r_toR ?_)))
        obtain rfl := sm1 hF
        exact r_done1 (.inl rfl) Try.results17 (.tmp rfl .nil) rfl rfl
      · have hF := cnd_f h32 hF
        refine r_opg (t_mv (.inl rfl)) ⟨rfl, trivial⟩ ?_
        refine r_opg (t_ne rfl) ⟨rfl, k_I _ _, trivial⟩ ?_
        refine r_op (t_pickF rfl) ⟨rfl, rfl, trivial⟩ ?_
        refine r_mv ?_
        refine r_bool (fun h33 => ?_) (fun h33 => ?_)
        · have hF := cnd_t h33 hF
          refine r_opn ?_
          refine r_opn ?_
          refine r_op (t_pickT rfl) ⟨rfl, k_B _, trivial⟩ ?_
          refine r_mv ?_
          refine r_opn ?_
          refine r_opn ?_
          refine r_op (t_pickT rfl) ⟨rfl, k_B _, trivial⟩ ?_
          refine r_mv ?_
          refine r_opn ?_
          refine r_opn ?_
          refine r_opn ?_
          refine r_op (t_pickT rfl) ⟨rfl, k_B _, trivial⟩ ?_
          refine r_nil (r_next (r_ifT rfl ?_))
          refine r_seq (r_reg (r_op (t_mv (.inr rfl)) ⟨k_B _, trivial⟩ ?_))
          refine r_nil (r_next (r_ret (r_toR ?_)))
          obtain rfl := sm1 hF
          exact r_done1 (.inl rfl) Try.results17 (.tmp rfl .nil) rfl rfl
        · have hF := cnd_f h33 hF
          refine r_opg (t_mv (.inl rfl)) ⟨rfl, trivial⟩ ?_
          refine r_opg (t_ne rfl) ⟨rfl, k_I _ _, trivial⟩ ?_
          refine r_op (t_pickF rfl) ⟨rfl, rfl, trivial⟩ ?_
          refine r_mv ?_
          refine r_bool (fun h34 => ?_) (fun h34 => ?_)
          · have hF := cnd_t h34 hF
            refine r_opn ?_
            refine r_opn ?_
            refine r_op (t_pickT rfl) ⟨rfl, k_B _, trivial⟩ ?_
            refine r_mv ?_
            refine r_opn ?_
            refine r_opn ?_
            refine r_opn ?_
            refine r_op (t_pickT rfl) ⟨rfl, k_B _, trivial⟩ ?_
            refine r_nil (r_next (r_ifT rfl ?_))
            refine r_seq (r_reg (r_op (t_mv (.inr rfl)) ⟨k_B _, trivial⟩ ?_))
            refine r_nil (r_next (r_ret (r_toR ?_)))
            obtain rfl := sm1 hF
            exact r_done1 (.inl rfl) Try.results17 (.tmp rfl .nil) rfl rfl
          · have hF := cnd_f h34 hF
            refine r_opg (t_mv (.inl rfl)) ⟨rfl, trivial⟩ ?_
            refine r_opg (t_ne rfl) ⟨rfl, k_I _ _, trivial⟩ ?_
            refine r_op (t_pickF rfl) ⟨rfl, rfl, trivial⟩ ?_
            refine r_mv ?_
            refine r_bool (fun h35 => ?_) (fun h35 => ?_)
            · have hF := cnd_t h35 hF
              refine r_opn ?_
              refine r_opn ?_
              refine r_opn ?_
              refine r_op (t_pickT rfl) ⟨rfl, k_B _, trivial⟩ ?_
              refine r_nil (r_next (r_ifT rfl ?_))
              refine r_seq (r_reg (r_op (t_mv (.inr rfl)) ⟨k_B _, trivial⟩ ?_))
              refine r_nil (r_next (r_ret (r_toR ?_)))
              obtain rfl := sm1 hF
              exact r_done1 (.inl rfl) Try.results17 (.tmp rfl .nil) rfl rfl
            · have hF := cnd_f h35 hF
              refine r_opg (t_mv (.inl rfl)) ⟨rfl, trivial⟩ ?_
              refine r_opg (t_ln rfl tyS25) ⟨rfl, trivial⟩ ?_
              refine r_opg (t_ne rfl) ⟨rfl, k_I _ _, trivial⟩ ?_
              refine r_op (t_pickF rfl) ⟨rfl, rfl, trivial⟩ ?_
              refine r_nil (r_next (r_if rfl (fun h36 => ?_) (fun h36 => ?_)))
              · have hF := cnd_t h36 hF
                refine r_seq (r_reg (r_op (t_mv (.inr rfl)) ⟨k_B _, trivial⟩ ?_))
                refine r_nil (r_next (r_ret (r_toR ?_)))
                obtain rfl := sm1 hF
                exact r_done1 (.inl rfl) Try.results17 (.tmp rfl .nil) rfl rfl
              · have hF := cnd_f h36 hF
                refine r_skip (r_next (r_seq (r_reg ?_)))
                obtain ⟨v37, h38, hF⟩ := bnd hF
                refine r_op (t_call rfl (qc_gantryref05_Of h38) rfl) ⟨k_I _ _, k_I _ _, trivial⟩ ?_
                refine r_alloc rfl tyZ39q (fun b39 => ?_)
                refine r_op0 (t_s 0 rfl rfl rfl tyA39.s) ⟨rfl, rfl, trivial⟩ ?_
                refine r_nil (r_next (r_seq (r_reg ?_)))
                obtain ⟨v40, h41, hF⟩ := bnd hF
                refine r_op (t_call rfl (qc_gantryref05_Of h41) rfl) ⟨k_I _ _, k_I _ _, trivial⟩ ?_
                refine r_alloc rfl tyZ39q (fun b42 => ?_)
                refine r_op0 (t_s 0 rfl rfl rfl tyA39.s) ⟨rfl, rfl, trivial⟩ ?_
                refine r_nil (r_next (r_seq ?_))
                rcases Bool.eq_false_or_eq_true (v9.1 == 2) with h45 | h45
                · have hF := cnd_t h45 hF
                  obtain ⟨v46, h47, hF⟩ := bnd hF
                  obtain ⟨v48, h49, hF⟩ := bnd hF
                  rcases Bool.eq_false_or_eq_true v48 with h50 | h50
                  · have hF := cnd_t h50 hF
                    obtain ⟨v51, h52, hF⟩ := bnd hF
                    obtain ⟨v53, h54, hF⟩ := bnd hF
                    obtain ⟨v55, h56, hF⟩ := bnd hF
                    rcases Bool.eq_false_or_eq_true v55 with h57 | h57
                    · have hF := cnd_t h57 hF
                      obtain ⟨v58, h59, hF⟩ := bnd hF
                      obtain ⟨v60, h61, hF⟩ := bnd hF
                      refine r_draw [0, 1, 3, 7, 7, 23, 63, 127, 255, 511, 1023, 2047, 511, 4607, 16383, 32767, 65535, 131071, 131071, 524287, 1048575, 2097151] 22 0 [.v (.vc (pI .i64 v9.1)), .v (.vc (pB (v9.1 == 2))), .v (.vc (pB true)), .v (.vc (pS cQ v13.1)), .v (.vc (pS cI [(-2), 0, 1])), .v (.vc (pS cQ v46)), .v (.vc (pB v48)), .v (.vc (pB v48)), .v (.vc (pB true)), .v (.vc (pS (cSl cQ) v15.1)), .v (.vc (pM ((cSl cQ).e v51))), .v (.vc (pS cQ v51)), .v (.vc (pS cI [(-2), 1, 0])), .v (.vc (pS cQ v53)), .v (.vc (pB v55)), .v (.vc (pB v55)), .v (.vc (pB true)), .v (.va (eQ v25.1)), .v (.va (eQ v58)), .v (.vc (pB v60)), .v (.vc (pB v60)), .v (.vc (pB v60))] Try_mixed ⟨⟨rfl, .run (lo := 0) (n := 1) ⟨fun G43 A => t_mv (.inl rfl), trivial⟩ (fun G43 => ⟨rfl, trivial⟩)⟩, ⟨rfl, .run (lo := 0) (n := 1) ⟨fun G43 A => t_eq rfl, trivial⟩ (fun G43 => ⟨rfl, k_I _ _, trivial⟩)⟩, ⟨rfl, .run (lo := 0) (n := 1) ⟨fun G43 A => tr_bool (t_mv (.inl rfl)) h45, trivial⟩ (fun G43 => ⟨rfl, trivial⟩)⟩, ⟨rfl, .runG (lo := 0) (n := 1) ⟨fun G43 A => t_mv (.inl rfl), trivial⟩ (fun G43 => ⟨rfl, trivial⟩)⟩, ⟨rfl, .runG (lo := 0) (n := 1) ⟨fun G43 A => t_bs (C := cI) (xs := [.const (.int .i64 (-2)), .const (.int .i64 (0)), .const (.int .i64 (1))]) (ps := [.vc (pI .i64 (-2)), .vc (pI .i64 0), .vc (pI .i64 1)]) (zs := [(-2), 0, 1]) rfl tyS22 rfl ⟨⟨trivial, rfl⟩, ⟨trivial, rfl⟩, ⟨trivial, rfl⟩, trivial⟩ rfl, trivial⟩ (fun G43 => ⟨k_I _ _, k_I _ _, k_I _ _, trivial⟩)⟩, ⟨rfl, .runG (lo := 0) (n := 1) ⟨fun G43 A => t_call rfl (ct_gantrylaw09_whole h47) rfl, trivial⟩ (fun G43 => ⟨rfl, trivial⟩)⟩, ⟨rfl, .runG (lo := 0) (n := 1) ⟨fun G43 A => t_call rfl (ct_gantryref09_SameRow h49) rfl, trivial⟩ (fun G43 => ⟨rfl, rfl, trivial⟩)⟩, ⟨rfl, .run (lo := 0) (n := 1) ⟨fun G43 A => t_pickT rfl, trivial⟩ (fun G43 => ⟨rfl, rfl, trivial⟩)⟩, ⟨rfl, .run (lo := 0) (n := 1) ⟨fun G43 A => tr_bool (t_mv (.inl rfl)) h50, trivial⟩ (fun G43 => ⟨rfl, trivial⟩)⟩, ⟨rfl, .runG (lo := 0) (n := 1) ⟨fun G43 A => t_mv (.inl rfl), trivial⟩ (fun G43 => ⟨rfl, trivial⟩)⟩, ⟨rfl, .runG (lo := 0) (n := 1) ⟨fun G43 A => t_ix rfl tyS25 h52, trivial⟩ (fun G43 => ⟨rfl, k_I _ _, trivial⟩)⟩, ⟨rfl, .runG (lo := 0) (n := 1) ⟨fun G43 A => t_lM 1 rfl rfl (.one tyO27), trivial⟩ (fun G43 => ⟨rfl, trivial⟩)⟩, ⟨rfl, .runG (lo := 0) (n := 1) ⟨fun G43 A => t_bs (C := cI) (xs := [.const (.int .i64 (-2)), .const (.int .i64 (1)), .const (.int .i64 (0))]) (ps := [.vc (pI .i64 (-2)), .vc (pI .i64 1), .vc (pI .i64 0)]) (zs := [(-2), 1, 0]) rfl tyS22 rfl ⟨⟨trivial, rfl⟩, ⟨trivial, rfl⟩, ⟨trivial, rfl⟩, trivial⟩ rfl, trivial⟩ (fun G43 => ⟨k_I _ _, k_I _ _, k_I _ _, trivial⟩)⟩, ⟨rfl, .runG (lo := 0) (n := 1) ⟨fun G43 A => t_call rfl (ct_gantrylaw09_whole h54) rfl, trivial⟩ (fun G43 => ⟨rfl, trivial⟩)⟩, ⟨rfl, .runG (lo := 0) (n := 1) ⟨fun G43 A => t_call rfl (ct_gantryref09_SameRow h56) rfl, trivial⟩ (fun G43 => ⟨rfl, rfl, trivial⟩)⟩, ⟨rfl, .run (lo := 0) (n := 1) ⟨fun G43 A => t_pickT rfl, trivial⟩ (fun G43 => ⟨rfl, rfl, trivial⟩)⟩, ⟨rfl, .run (lo := 0) (n := 1) ⟨fun G43 A => tr_bool (t_mv (.inl rfl)) h57, trivial⟩ (fun G43 => ⟨rfl, trivial⟩)⟩, ⟨rfl, .runG (lo := 0) (n := 1) ⟨fun G43 A => t_l 2 4 rfl rfl rfl rfl (.agg tyA39), trivial⟩ (fun G43 => ⟨rfl, trivial⟩)⟩, ⟨rfl, .runG (lo := 0) (n := 1) ⟨fun G43 A => t_call rfl (qc_gantryref05_Of h59) rfl, trivial⟩ (fun G43 => ⟨k_I _ _, k_I _ _, trivial⟩)⟩, ⟨rfl, .runG (lo := 0) (n := 1) ⟨fun G43 A => t_call rfl (qc_rat_Same h61) rfl, trivial⟩ (fun G43 => ⟨rfl, rfl, trivial⟩)⟩, ⟨rfl, .run (lo := 0) (n := 1) ⟨fun G43 A => t_pickT rfl, trivial⟩ (fun G43 => ⟨rfl, rfl, trivial⟩)⟩, ⟨rfl, .run (lo := 0) (n := 1) ⟨fun G43 A => t_mv (.inr rfl), trivial⟩ (fun G43 => ⟨rfl, trivial⟩)⟩, trivial⟩ (fun bs44 G43 => ?_)
                      refine r_nil (r_next (r_seq (r_reg (r_mv ?_))))
                      refine r_mv ?_
                      refine r_bool (fun h62 => ?_) (fun h62 => ?_)
                      · have hF := cnd_t h62 hF
                        refine r_opg (t_mv (.inl rfl)) ⟨rfl, trivial⟩ ?_
                        refine r_opg (t_l 0 4 rfl rfl rfl rfl (.agg tyA39)) ⟨rfl, trivial⟩ ?_
                        refine r_opg (t_l 1 4 rfl rfl rfl rfl (.agg tyA39)) ⟨rfl, trivial⟩ ?_
                        refine r_opg (t_bs (C := cQ) (xs := [.tmp 119, .tmp 120]) (ps := [.va (eQ v40), .va (eQ v37)]) (zs := [v40, v37]) rfl tyS27 rfl ⟨⟨trivial, rfl⟩, ⟨trivial, rfl⟩, trivial⟩ rfl) ⟨rfl, rfl, trivial⟩ ?_
                        refine r_opg (t_l 1 4 rfl rfl rfl rfl (.agg tyA39)) ⟨rfl, trivial⟩ ?_
                        refine r_opg (t_l 0 4 rfl rfl rfl rfl (.agg tyA39)) ⟨rfl, trivial⟩ ?_
                        refine r_opg (t_bs (C := cQ) (xs := [.tmp 122, .tmp 123]) (ps := [.va (eQ v37), .va (eQ v40)]) (zs := [v37, v40]) rfl tyS27 rfl ⟨⟨trivial, rfl⟩, ⟨trivial, rfl⟩, trivial⟩ rfl) ⟨rfl, rfl, trivial⟩ ?_
                        refine r_opg (t_bs (C := (cSl cQ)) (xs := [.tmp 121, .tmp 124]) (ps := [.vc (pS cQ [v40, v37]), .vc (pS cQ [v37, v40])]) (zs := [[v40, v37], [v37, v40]]) rfl tyS25 rfl ⟨⟨trivial, rfl⟩, ⟨trivial, rfl⟩, trivial⟩ rfl) ⟨rfl, rfl, trivial⟩ ?_
                        obtain ⟨v63, h64, hF⟩ := bnd hF
                        refine r_opg (t_call rfl (ct_gantryref09_Same h64) rfl) ⟨rfl, rfl, trivial⟩ ?_
                        refine r_op (t_pickT rfl) ⟨rfl, rfl, trivial⟩ ?_
                        refine r_mv ?_
                        refine r_bool (fun h65 => ?_) (fun h65 => ?_)
                        · have hF := cnd_t h65 hF
                          refine r_opg (t_mv (.inl rfl)) ⟨rfl, trivial⟩ ?_
                          obtain ⟨v66, h67, hF⟩ := bnd hF
                          refine r_opg (t_call rfl (ct_matrix_Positive h67) rfl) ⟨rfl, trivial⟩ ?_
                          refine r_op (t_pickT rfl) ⟨rfl, rfl, trivial⟩ ?_
                          refine r_mv ?_
                          refine r_bool (fun h68 => ?_) (fun h68 => ?_)
                          · have hF := cnd_t h68 hF
                            refine r_opg (t_bs (C := cI) (xs := [.const (.int .i64 (1)), .const (.int .i64 (2))]) (ps := [.vc (pI .i64 1), .vc (pI .i64 2)]) (zs := [1, 2]) rfl tyS22 rfl ⟨⟨trivial, rfl⟩, ⟨trivial, rfl⟩, trivial⟩ rfl) ⟨k_I _ _, k_I _ _, trivial⟩ ?_
                            obtain ⟨v69, h70, hF⟩ := bnd hF
                            refine r_opg (t_call rfl (ct_gantrylaw09_whole h70) rfl) ⟨rfl, trivial⟩ ?_
                            refine r_opg (t_bs (C := cI) (xs := [.const (.int .i64 (2)), .const (.int .i64 (1))]) (ps := [.vc (pI .i64 2), .vc (pI .i64 1)]) (zs := [2, 1]) rfl tyS22 rfl ⟨⟨trivial, rfl⟩, ⟨trivial, rfl⟩, trivial⟩ rfl) ⟨k_I _ _, k_I _ _, trivial⟩ ?_
                            obtain ⟨v71, h72, hF⟩ := bnd hF
                            refine r_opg (t_call rfl (ct_gantrylaw09_whole h72) rfl) ⟨rfl, trivial⟩ ?_
                            refine r_opg (t_bs (C := (cSl cQ)) (xs := [.tmp 134, .tmp 136]) (ps := [.vc (pS cQ v69), .vc (pS cQ v71)]) (zs := [v69, v71]) rfl tyS25 rfl ⟨⟨trivial, rfl⟩, ⟨trivial, rfl⟩, trivial⟩ rfl) ⟨rfl, rfl, trivial⟩ ?_
                            obtain ⟨v73, h74, hF⟩ := bnd hF
                            refine r_opg (t_call rfl (ct_matrix_Positive h74) rfl) ⟨rfl, trivial⟩ ?_
                            refine r_opg (t_not rfl) ⟨rfl, trivial⟩ ?_
                            refine r_op (t_pickT rfl) ⟨rfl, rfl, trivial⟩ ?_
                            refine r_as ?_
                            refine r_nil (r_next (r_ret (r_toR ?_)))
                            obtain rfl := sm1 hF
                            exact r_done1 (.inl rfl) Try.results17 (.tmp rfl .nil) rfl rfl
                          · have hF := cnd_f h68 hF
                            refine r_opn ?_
                            refine r_opn ?_
                            refine r_opn ?_
                            refine r_opn ?_
                            refine r_opn ?_
                            refine r_opn ?_
                            refine r_opn ?_
                            refine r_op (t_pickF rfl) ⟨rfl, k_B _, trivial⟩ ?_
                            refine r_as ?_
                            refine r_nil (r_next (r_ret (r_toR ?_)))
                            obtain rfl := sm1 hF
                            exact r_done1 (.inl rfl) Try.results17 (.tmp rfl .nil) rfl rfl
                        · have hF := cnd_f h65 hF
                          refine r_opn ?_
                          refine r_opn ?_
                          refine r_op (t_pickF rfl) ⟨rfl, k_B _, trivial⟩ ?_
                          refine r_mv ?_
                          refine r_opn ?_
                          refine r_opn ?_
                          refine r_opn ?_
                          refine r_opn ?_
                          refine r_opn ?_
                          refine r_opn ?_
                          refine r_opn ?_
                          refine r_op (t_pickF rfl) ⟨rfl, k_B _, trivial⟩ ?_
                          refine r_as ?_
                          refine r_nil (r_next (r_ret (r_toR ?_)))
                          obtain rfl := sm1 hF
                          exact r_done1 (.inl rfl) Try.results17 (.tmp rfl .nil) rfl rfl
                      · have hF := cnd_f h62 hF
                        refine r_opn ?_
                        refine r_opn ?_
                        refine r_opn ?_
                        refine r_opn ?_
                        refine r_opn ?_
                        refine r_opn ?_
                        refine r_opn ?_
                        refine r_opn ?_
                        refine r_opn ?_
                        refine r_op (t_pickF rfl) ⟨rfl, k_B _, trivial⟩ ?_
                        refine r_mv ?_
                        refine r_opn ?_
                        refine r_opn ?_
                        refine r_op (t_pickF rfl) ⟨rfl, k_B _, trivial⟩ ?_
                        refine r_mv ?_
                        refine r_opn ?_
                        refine r_opn ?_
                        refine r_opn ?_
                        refine r_opn ?_
                        refine r_opn ?_
                        refine r_opn ?_
                        refine r_opn ?_
                        refine r_op (t_pickF rfl) ⟨rfl, k_B _, trivial⟩ ?_
                        refine r_as ?_
                        refine r_nil (r_next (r_ret (r_toR ?_)))
                        obtain rfl := sm1 hF
                        exact r_done1 (.inl rfl) Try.results17 (.tmp rfl .nil) rfl rfl
                    · have hF := cnd_f h57 hF
                      refine r_draw [0, 1, 3, 7, 7, 23, 63, 127, 255, 511, 1023, 2047, 511, 4607, 16383, 32767, 65535, 131071, 131071, 524287, 1048575, 2097151] 22 0 [.v (.vc (pI .i64 v9.1)), .v (.vc (pB (v9.1 == 2))), .v (.vc (pB true)), .v (.vc (pS cQ v13.1)), .v (.vc (pS cI [(-2), 0, 1])), .v (.vc (pS cQ v46)), .v (.vc (pB v48)), .v (.vc (pB v48)), .v (.vc (pB true)), .v (.vc (pS (cSl cQ) v15.1)), .v (.vc (pM ((cSl cQ).e v51))), .v (.vc (pS cQ v51)), .v (.vc (pS cI [(-2), 1, 0])), .v (.vc (pS cQ v53)), .v (.vc (pB v55)), .v (.vc (pB v55)), .v (.vc (pB false)), .v .any, .v .any, .v .any, .v (.vc (pB false)), .v (.vc (pB false))] Try_mixed ⟨⟨rfl, .run (lo := 0) (n := 1) ⟨fun G43 A => t_mv (.inl rfl), trivial⟩ (fun G43 => ⟨rfl, trivial⟩)⟩, ⟨rfl, .run (lo := 0) (n := 1) ⟨fun G43 A => t_eq rfl, trivial⟩ (fun G43 => ⟨rfl, k_I _ _, trivial⟩)⟩, ⟨rfl, .run (lo := 0) (n := 1) ⟨fun G43 A => tr_bool (t_mv (.inl rfl)) h45, trivial⟩ (fun G43 => ⟨rfl, trivial⟩)⟩, ⟨rfl, .runG (lo := 0) (n := 1) ⟨fun G43 A => t_mv (.inl rfl), trivial⟩ (fun G43 => ⟨rfl, trivial⟩)⟩, ⟨rfl, .runG (lo := 0) (n := 1) ⟨fun G43 A => t_bs (C := cI) (xs := [.const (.int .i64 (-2)), .const (.int .i64 (0)), .const (.int .i64 (1))]) (ps := [.vc (pI .i64 (-2)), .vc (pI .i64 0), .vc (pI .i64 1)]) (zs := [(-2), 0, 1]) rfl tyS22 rfl ⟨⟨trivial, rfl⟩, ⟨trivial, rfl⟩, ⟨trivial, rfl⟩, trivial⟩ rfl, trivial⟩ (fun G43 => ⟨k_I _ _, k_I _ _, k_I _ _, trivial⟩)⟩, ⟨rfl, .runG (lo := 0) (n := 1) ⟨fun G43 A => t_call rfl (ct_gantrylaw09_whole h47) rfl, trivial⟩ (fun G43 => ⟨rfl, trivial⟩)⟩, ⟨rfl, .runG (lo := 0) (n := 1) ⟨fun G43 A => t_call rfl (ct_gantryref09_SameRow h49) rfl, trivial⟩ (fun G43 => ⟨rfl, rfl, trivial⟩)⟩, ⟨rfl, .run (lo := 0) (n := 1) ⟨fun G43 A => t_pickT rfl, trivial⟩ (fun G43 => ⟨rfl, rfl, trivial⟩)⟩, ⟨rfl, .run (lo := 0) (n := 1) ⟨fun G43 A => tr_bool (t_mv (.inl rfl)) h50, trivial⟩ (fun G43 => ⟨rfl, trivial⟩)⟩, ⟨rfl, .runG (lo := 0) (n := 1) ⟨fun G43 A => t_mv (.inl rfl), trivial⟩ (fun G43 => ⟨rfl, trivial⟩)⟩, ⟨rfl, .runG (lo := 0) (n := 1) ⟨fun G43 A => t_ix rfl tyS25 h52, trivial⟩ (fun G43 => ⟨rfl, k_I _ _, trivial⟩)⟩, ⟨rfl, .runG (lo := 0) (n := 1) ⟨fun G43 A => t_lM 1 rfl rfl (.one tyO27), trivial⟩ (fun G43 => ⟨rfl, trivial⟩)⟩, ⟨rfl, .runG (lo := 0) (n := 1) ⟨fun G43 A => t_bs (C := cI) (xs := [.const (.int .i64 (-2)), .const (.int .i64 (1)), .const (.int .i64 (0))]) (ps := [.vc (pI .i64 (-2)), .vc (pI .i64 1), .vc (pI .i64 0)]) (zs := [(-2), 1, 0]) rfl tyS22 rfl ⟨⟨trivial, rfl⟩, ⟨trivial, rfl⟩, ⟨trivial, rfl⟩, trivial⟩ rfl, trivial⟩ (fun G43 => ⟨k_I _ _, k_I _ _, k_I _ _, trivial⟩)⟩, ⟨rfl, .runG (lo := 0) (n := 1) ⟨fun G43 A => t_call rfl (ct_gantrylaw09_whole h54) rfl, trivial⟩ (fun G43 => ⟨rfl, trivial⟩)⟩, ⟨rfl, .runG (lo := 0) (n := 1) ⟨fun G43 A => t_call rfl (ct_gantryref09_SameRow h56) rfl, trivial⟩ (fun G43 => ⟨rfl, rfl, trivial⟩)⟩, ⟨rfl, .run (lo := 0) (n := 1) ⟨fun G43 A => t_pickT rfl, trivial⟩ (fun G43 => ⟨rfl, rfl, trivial⟩)⟩, ⟨rfl, .run (lo := 0) (n := 1) ⟨fun G43 A => tr_bool (t_mv (.inl rfl)) h57, trivial⟩ (fun G43 => ⟨rfl, trivial⟩)⟩, ⟨rfl, .skip⟩, ⟨rfl, .skip⟩, ⟨rfl, .skip⟩, ⟨rfl, .run (lo := 0) (n := 1) ⟨fun G43 A => t_pickF rfl, trivial⟩ (fun G43 => ⟨rfl, k_B _, trivial⟩)⟩, ⟨rfl, .run (lo := 0) (n := 1) ⟨fun G43 A => t_mv (.inr rfl), trivial⟩ (fun G43 => ⟨rfl, trivial⟩)⟩, trivial⟩ (fun bs44 G43 => ?_)
                      refine r_nil (r_next (r_seq (r_reg (r_mv ?_))))
                      refine r_mv ?_
                      refine r_opn ?_
                      refine r_opn ?_
                      refine r_opn ?_
                      refine r_opn ?_
                      refine r_opn ?_
                      refine r_opn ?_
                      refine r_opn ?_
                      refine r_opn ?_
                      refine r_opn ?_
                      refine r_op (t_pickF rfl) ⟨rfl, k_B _, trivial⟩ ?_
                      refine r_mv ?_
                      refine r_opn ?_
                      refine r_opn ?_
                      refine r_op (t_pickF rfl) ⟨rfl, k_B _, trivial⟩ ?_
                      refine r_mv ?_
                      refine r_opn ?_
                      refine r_opn ?_
                      refine r_opn ?_
                      refine r_opn ?_
                      refine r_opn ?_
                      refine r_opn ?_
                      refine r_opn ?_
                      refine r_op (t_pickF rfl) ⟨rfl, k_B _, trivial⟩ ?_
                      refine r_as ?_
                      refine r_nil (r_next (r_ret (r_toR ?_)))
                      obtain rfl := sm1 hF
                      exact r_done1 (.inl rfl) Try.results17 (.tmp rfl .nil) rfl rfl
                  · have hF := cnd_f h50 hF
                    refine r_draw [0, 1, 3, 7, 7, 23, 63, 127, 255, 511, 1023, 2047, 511, 4607, 16383, 32767, 65535, 131071, 131071, 524287, 1048575, 2097151] 22 0 [.v (.vc (pI .i64 v9.1)), .v (.vc (pB (v9.1 == 2))), .v (.vc (pB true)), .v (.vc (pS cQ v13.1)), .v (.vc (pS cI [(-2), 0, 1])), .v (.vc (pS cQ v46)), .v (.vc (pB v48)), .v (.vc (pB v48)), .v (.vc (pB false)), .v .any, .v .any, .v .any, .v .any, .v .any, .v .any, .v (.vc (pB false)), .v (.vc (pB false)), .v .any, .v .any, .v .any, .v (.vc (pB false)), .v (.vc (pB false))] Try_mixed ⟨⟨rfl, .run (lo := 0) (n := 1) ⟨fun G43 A => t_mv (.inl rfl), trivial⟩ (fun G43 => ⟨rfl, trivial⟩)⟩, ⟨rfl, .run (lo := 0) (n := 1) ⟨fun G43 A => t_eq rfl, trivial⟩ (fun G43 => ⟨rfl, k_I _ _, trivial⟩)⟩, ⟨rfl, .run (lo := 0) (n := 1) ⟨fun G43 A => tr_bool (t_mv (.inl rfl)) h45, trivial⟩ (fun G43 => ⟨rfl, trivial⟩)⟩, ⟨rfl, .runG (lo := 0) (n := 1) ⟨fun G43 A => t_mv (.inl rfl), trivial⟩ (fun G43 => ⟨rfl, trivial⟩)⟩, ⟨rfl, .runG (lo := 0) (n := 1) ⟨fun G43 A => t_bs (C := cI) (xs := [.const (.int .i64 (-2)), .const (.int .i64 (0)), .const (.int .i64 (1))]) (ps := [.vc (pI .i64 (-2)), .vc (pI .i64 0), .vc (pI .i64 1)]) (zs := [(-2), 0, 1]) rfl tyS22 rfl ⟨⟨trivial, rfl⟩, ⟨trivial, rfl⟩, ⟨trivial, rfl⟩, trivial⟩ rfl, trivial⟩ (fun G43 => ⟨k_I _ _, k_I _ _, k_I _ _, trivial⟩)⟩, ⟨rfl, .runG (lo := 0) (n := 1) ⟨fun G43 A => t_call rfl (ct_gantrylaw09_whole h47) rfl, trivial⟩ (fun G43 => ⟨rfl, trivial⟩)⟩, ⟨rfl, .runG (lo := 0) (n := 1) ⟨fun G43 A => t_call rfl (ct_gantryref09_SameRow h49) rfl, trivial⟩ (fun G43 => ⟨rfl, rfl, trivial⟩)⟩, ⟨rfl, .run (lo := 0) (n := 1) ⟨fun G43 A => t_pickT rfl, trivial⟩ (fun G43 => ⟨rfl, rfl, trivial⟩)⟩, ⟨rfl, .run (lo := 0) (n := 1) ⟨fun G43 A => tr_bool (t_mv (.inl rfl)) h50, trivial⟩ (fun G43 => ⟨rfl, trivial⟩)⟩, ⟨rfl, .skip⟩, ⟨rfl, .skip⟩, ⟨rfl, .skip⟩, ⟨rfl, .skip⟩, ⟨rfl, .skip⟩, ⟨rfl, .skip⟩, ⟨rfl, .run (lo := 0) (n := 1) ⟨fun G43 A => t_pickF rfl, trivial⟩ (fun G43 => ⟨rfl, k_B _, trivial⟩)⟩, ⟨rfl, .run (lo := 0) (n := 1) ⟨fun G43 A => t_mv (.inl rfl), trivial⟩ (fun G43 => ⟨rfl, trivial⟩)⟩, ⟨rfl, .skip⟩, ⟨rfl, .skip⟩, ⟨rfl, .skip⟩, ⟨rfl, .run (lo := 0) (n := 1) ⟨fun G43 A => t_pickF rfl, trivial⟩ (fun G43 => ⟨rfl, k_B _, trivial⟩)⟩, ⟨rfl, .run (lo := 0) (n := 1) ⟨fun G43 A => t_mv (.inr rfl), trivial⟩ (fun G43 => ⟨rfl, trivial⟩)⟩, trivial⟩ (fun bs44 G43 => ?_)
                    refine r_nil (r_next (r_seq (r_reg (r_mv ?_))))
                    refine r_mv ?_
                    refine r_opn ?_
                    refine r_opn ?_
                    refine r_opn ?_
                    refine r_opn ?_
                    refine r_opn ?_
                    refine r_opn ?_
                    refine r_opn ?_
                    refine r_opn ?_
                    refine r_opn ?_
                    refine r_op (t_pickF rfl) ⟨rfl, k_B _, trivial⟩ ?_
                    refine r_mv ?_
                    refine r_opn ?_
                    refine r_opn ?_
                    refine r_op (t_pickF rfl) ⟨rfl, k_B _, trivial⟩ ?_
                    refine r_mv ?_
                    refine r_opn ?_
                    refine r_opn ?_
                    refine r_opn ?_
                    refine r_opn ?_
                    refine r_opn ?_
                    refine r_opn ?_
                    refine r_opn ?_
                    refine r_op (t_pickF rfl) ⟨rfl, k_B _, trivial⟩ ?_
                    refine r_as ?_
                    refine r_nil (r_next (r_ret (r_toR ?_)))
                    obtain rfl := sm1 hF
                    exact r_done1 (.inl rfl) Try.results17 (.tmp rfl .nil) rfl rfl
                · have hF := cnd_f h45 hF
                  refine r_draw [0, 1, 3, 7, 7, 23, 63, 127, 255, 511, 1023, 2047, 511, 4607, 16383, 32767, 65535, 131071, 131071, 524287, 1048575, 2097151] 22 0 [.v (.vc (pI .i64 v9.1)), .v (.vc (pB (v9.1 == 2))), .v (.vc (pB false)), .v .any, .v .any, .v .any, .v .any, .v (.vc (pB false)), .v (.vc (pB false)), .v .any, .v .any, .v .any, .v .any, .v .any, .v .any, .v (.vc (pB false)), .v (.vc (pB false)), .v .any, .v .any, .v .any, .v (.vc (pB false)), .v (.vc (pB false))] Try_mixed ⟨⟨rfl, .run (lo := 0) (n := 1) ⟨fun G43 A => t_mv (.inl rfl), trivial⟩ (fun G43 => ⟨rfl, trivial⟩)⟩, ⟨rfl, .run (lo := 0) (n := 1) ⟨fun G43 A => t_eq rfl, trivial⟩ (fun G43 => ⟨rfl, k_I _ _, trivial⟩)⟩, ⟨rfl, .run (lo := 0) (n := 1) ⟨fun G43 A => tr_bool (t_mv (.inl rfl)) h45, trivial⟩ (fun G43 => ⟨rfl, trivial⟩)⟩, ⟨rfl, .skip⟩, ⟨rfl, .skip⟩, ⟨rfl, .skip⟩, ⟨rfl, .skip⟩, ⟨rfl, .run (lo := 0) (n := 1) ⟨fun G43 A => t_pickF rfl, trivial⟩ (fun G43 => ⟨rfl, k_B _, trivial⟩)⟩, ⟨rfl, .run (lo := 0) (n := 1) ⟨fun G43 A => t_mv (.inl rfl), trivial⟩ (fun G43 => ⟨rfl, trivial⟩)⟩, ⟨rfl, .skip⟩, ⟨rfl, .skip⟩, ⟨rfl, .skip⟩, ⟨rfl, .skip⟩, ⟨rfl, .skip⟩, ⟨rfl, .skip⟩, ⟨rfl, .run (lo := 0) (n := 1) ⟨fun G43 A => t_pickF rfl, trivial⟩ (fun G43 => ⟨rfl, k_B _, trivial⟩)⟩, ⟨rfl, .run (lo := 0) (n := 1) ⟨fun G43 A => t_mv (.inl rfl), trivial⟩ (fun G43 => ⟨rfl, trivial⟩)⟩, ⟨rfl, .skip⟩, ⟨rfl, .skip⟩, ⟨rfl, .skip⟩, ⟨rfl, .run (lo := 0) (n := 1) ⟨fun G43 A => t_pickF rfl, trivial⟩ (fun G43 => ⟨rfl, k_B _, trivial⟩)⟩, ⟨rfl, .run (lo := 0) (n := 1) ⟨fun G43 A => t_mv (.inr rfl), trivial⟩ (fun G43 => ⟨rfl, trivial⟩)⟩, trivial⟩ (fun bs44 G43 => ?_)
                  refine r_nil (r_next (r_seq (r_reg (r_mv ?_))))
                  refine r_mv ?_
                  refine r_opn ?_
                  refine r_opn ?_
                  refine r_opn ?_
                  refine r_opn ?_
                  refine r_opn ?_
                  refine r_opn ?_
                  refine r_opn ?_
                  refine r_opn ?_
                  refine r_opn ?_
                  refine r_op (t_pickF rfl) ⟨rfl, k_B _, trivial⟩ ?_
                  refine r_mv ?_
                  refine r_opn ?_
                  refine r_opn ?_
                  refine r_op (t_pickF rfl) ⟨rfl, k_B _, trivial⟩ ?_
                  refine r_mv ?_
                  refine r_opn ?_
                  refine r_opn ?_
                  refine r_opn ?_
                  refine r_opn ?_
                  refine r_opn ?_
                  refine r_opn ?_
                  refine r_opn ?_
                  refine r_op (t_pickF rfl) ⟨rfl, k_B _, trivial⟩ ?_
                  refine r_as ?_
                  refine r_nil (r_next (r_ret (r_toR ?_)))
                  obtain rfl := sm1 hF
                  exact r_done1 (.inl rfl) Try.results17 (.tmp rfl .nil) rfl rfl
def F_gantrylaw09_MatrixSolutions_j71 (K : Nat) (v1 : Int × Int) (v3 : List (List Rat)) (v7 : (List Rat) × Int) (v9 : (List Rat) × Int) (x64 : List Rat) : Option Bool :=
  (F_matrix_Apply K v3 v9.1).bind fun v72 => bif (v72.2 == 0) then ((F_gantryref09_SameRow K v72.1 v7.1).bind fun v75 => bif v75 then ((mkL v1.2 0).bind fun x78 => (F_gantryref09_SameRow K x64 x78).bind fun v83 => bif v83 then ((F_gantrylaw09_lives K ).bind fun v86 => some v86) else (some false)) else (some false)) else (some false)
def F_gantrylaw09_MatrixSolutions_j136 (K : Nat) (x63 : Int) (recl70 : (List Rat) → Int → Option (LR Bool (List Rat))) (x129 : List Rat) : Option (LR Bool (List Rat)) :=
  (chk (x63 + 1)).bind fun v137 => recl70 x129 v137
def F_gantrylaw09_MatrixSolutions_l135 (K : Nat) (v1 : Int × Int) (v11 : (List (List Rat)) × Int) (x63 : Int) (v112 : Rat) : Nat → (List Rat) → Int → Option (List Rat)
  | 0, _, _ => none
  | k + 1, x122, x128 => bif (decide (x128 < v1.2)) then ((rdL x122 x128).bind fun v142 => (rdL v11.1 x63).bind fun v144 => (rdL v144 x128).bind fun v146 => (qmul v112 v146).bind fun v148 => (qsub v142 v148).bind fun v150 => (rdL x122 x128).bind fun v152 => (stL x122 x128 v150).bind fun x154 => (chk (x128 + 1)).bind fun v157 => F_gantrylaw09_MatrixSolutions_l135 K v1 v11 x63 v112 k x154 v157) else (some x122)
def F_gantrylaw09_MatrixSolutions_j111 (K : Nat) (v1 : Int × Int) (v5 : List Rat) (v11 : (List (List Rat)) × Int) (x57 : List Rat) (x63 : Int) (recl70 : (List Rat) → Int → Option (LR Bool (List Rat))) (x109 : Int) : Option (LR Bool (List Rat)) :=
  (rdL v5 x109).bind fun v112 => (F_gantrylaw09_MatrixSolutions_l135 K v1 v11 x63 v112 K x57 0).bind fun x129 => F_gantrylaw09_MatrixSolutions_j136 K x63 recl70 x129
def F_gantrylaw09_MatrixSolutions_l110 (K : Nat) (v11 : (List (List Rat)) × Int) (x63 : Int) : Nat → Int → Option Int
  | 0, _ => none
  | k + 1, x108 => bif (decide (0 < x108)) then ((rdL v11.1 x63).bind fun v160 => (rdL v160 x108).bind fun v162 => (qsgn v162).bind fun v164 => bif (v164 == 0) then ((chk (x108 - 1)).bind fun v167 => F_gantrylaw09_MatrixSolutions_l110 K v11 x63 k v167) else (some x108)) else (some x108)
def F_gantrylaw09_MatrixSolutions_l70 (K : Nat) (v1 : Int × Int) (v3 : List (List Rat)) (v5 : List Rat) (v11 : (List (List Rat)) × Int) : Nat → (List Rat) → Int → Option (LR Bool (List Rat))
  | 0, _, _ => none
  | k + 1, x57, x63 => bif (decide (x63 < (v11.1.length : Int))) then ((rdL v11.1 x63).bind fun v89 => (F_matrix_Apply K v3 v89).bind fun v91 => bif (v91.2 != 0) then (some (.ret false)) else ((rdL v11.1 x63).bind fun v94 => bif ((v94.length : Int) != v1.2) then (some (.ret false)) else ((mkL v1.1 0).bind fun x97 => (F_gantryref09_SameRow K v91.1 x97).bind fun v102 => bif (!v102) then (some (.ret false)) else ((chk (v1.2 - 1)).bind fun v105 => (F_gantrylaw09_MatrixSolutions_l110 K v11 x63 K v105).bind fun x109 => F_gantrylaw09_MatrixSolutions_j111 K v1 v5 v11 x57 x63 (F_gantrylaw09_MatrixSolutions_l70 K v1 v3 v5 v11 k) x109)))) else (some (.go x57))
def F_gantrylaw09_MatrixSolutions_j49 (K : Nat) (v1 : Int × Int) (v3 : List (List Rat)) (v5 : List Rat) (v7 : (List Rat) × Int) (v9 : (List Rat) × Int) (v11 : (List (List Rat)) × Int) (x42 : List Rat) : Option Bool :=
  (F_gantrylaw09_MatrixSolutions_l70 K v1 v3 v5 v11 K x42 0).bind fun o => match o with | .ret r => some r | .go x64 => F_gantrylaw09_MatrixSolutions_j71 K v1 v3 v7 v9 x64
def F_gantrylaw09_MatrixSolutions_l48 (K : Nat) (v1 : Int × Int) (v5 : List Rat) (v9 : (List Rat) × Int) : Nat → (List Rat) → Int → Option (List Rat)
  | 0, _, _ => none
  | k + 1, x35, x41 => bif (decide (x41 < v1.2)) then ((rdL v5 x41).bind fun v172 => (rdL v9.1 x41).bind fun v174 => (qsub v172 v174).bind fun v176 => (rdL x35 x41).bind fun v178 => (stL x35 x41 v176).bind fun x180 => (chk (x41 + 1)).bind fun v183 => F_gantrylaw09_MatrixSolutions_l48 K v1 v5 v9 k x180 v183) else (some x35)
def F_gantrylaw09_MatrixSolutions (K : Nat) (a0 : List Int) (a1 : List Int) (a2 : Int) : Option Bool :=
  (F_gantrylaw09_sizes a2).bind fun v1 => (F_gantryref09_Matrix K a0 0 v1.1 v1.2).bind fun v3 => (F_gantryref09_Row K a1 0 v1.2).bind fun v5 => (F_matrix_Apply K v3 v5).bind fun v7 => (F_matrix_Solve K v3 v7.1).bind fun v9 => (F_matrix_Kernel K v3).bind fun v11 => (F_matrix_Rank K v3).bind fun v13 => bif (v7.2 != 0) then (some false) else (bif (v9.2 != 0) then (some false) else (bif (v11.2 != 0) then (some false) else (bif (v13.2 != 0) then (some false) else (bif ((v9.1.length : Int) != v1.2) then (some false) else ((chk (v13.1 + (v11.1.length : Int))).bind fun v20 => bif (v20 != v1.2) then (some false) else ((mkL v1.2 0).bind fun x23 => (F_gantrylaw09_MatrixSolutions_l48 K v1 v5 v9 K x23 0).bind fun x42 => F_gantrylaw09_MatrixSolutions_j49 K v1 v3 v5 v7 v9 v11 x42))))))
set_option maxRecDepth 100000 in
theorem ct_gantrylaw09_MatrixSolutions {K : Nat} {a0 : List Int} {a1 : List Int} {a2 : Int} {r : Bool} (hF : F_gantrylaw09_MatrixSolutions K a0 a1 a2 = some r) : Ct Try.prog 3 [.vc (pS cI a0), .vc (pS cI a1), .vc (pI .i64 a2)] (.vc (pB r)) := by
  unfold F_gantrylaw09_MatrixSolutions at hF
  refine ctO_intro Try.func3 rfl (by kernel_rfl) Try.ntmps3 rfl (fun w0 M0 => ?_)
  refine r_seq (r_reg (r_op (t_mv (.inr rfl)) ⟨k_B _, trivial⟩ ?_))
  refine r_nil (r_next (r_seq (r_reg (r_mv ?_))))
  obtain ⟨v1, h2, hF⟩ := bnd hF
  refine r_op (t_call rfl (ct_gantrylaw09_sizes h2) rfl) ⟨rfl, trivial⟩ ?_
  refine r_mv ?_
  refine r_op (t_ext2a rfl) ⟨rfl, trivial⟩ ?_
  refine r_op (t_ext2b rfl) ⟨rfl, trivial⟩ ?_
  refine r_as ?_
  refine r_as ?_
  refine r_nil (r_next (r_seq (r_reg (r_mv ?_))))
  refine r_mv ?_
  refine r_mv ?_
  obtain ⟨v3, h4, hF⟩ := bnd hF
  refine r_op (t_call rfl (ct_gantryref09_Matrix h4) rfl) ⟨rfl, k_I _ _, rfl, rfl, trivial⟩ ?_
  refine r_as ?_
  refine r_nil (r_next (r_seq (r_reg (r_mv ?_))))
  refine r_mv ?_
  obtain ⟨v5, h6, hF⟩ := bnd hF
  refine r_op (t_call rfl (ct_gantryref09_Row h6) rfl) ⟨rfl, k_I _ _, rfl, trivial⟩ ?_
  refine r_as ?_
  refine r_nil (r_next (r_seq (r_reg (r_mv ?_))))
  refine r_mv ?_
  obtain ⟨v7, h8, hF⟩ := bnd hF
  refine r_op (t_call rfl (ct_matrix_Apply h8) rfl) ⟨rfl, rfl, trivial⟩ ?_
  refine r_mv ?_
  refine r_op (t_ext2a rfl) ⟨rfl, trivial⟩ ?_
  refine r_op (t_ext2b rfl) ⟨rfl, trivial⟩ ?_
  refine r_as ?_
  refine r_as ?_
  refine r_nil (r_next (r_seq (r_reg (r_mv ?_))))
  refine r_mv ?_
  obtain ⟨v9, h10, hF⟩ := bnd hF
  refine r_op (t_call rfl (ct_matrix_Solve h10) rfl) ⟨rfl, rfl, trivial⟩ ?_
  refine r_mv ?_
  refine r_op (t_ext2a rfl) ⟨rfl, trivial⟩ ?_
  refine r_op (t_ext2b rfl) ⟨rfl, trivial⟩ ?_
  refine r_as ?_
  refine r_as ?_
  refine r_nil (r_next (r_seq (r_reg (r_mv ?_))))
  obtain ⟨v11, h12, hF⟩ := bnd hF
  refine r_op (t_call rfl (ct_matrix_Kernel h12) rfl) ⟨rfl, trivial⟩ ?_
  refine r_mv ?_
  refine r_op (t_ext2a rfl) ⟨rfl, trivial⟩ ?_
  refine r_op (t_ext2b rfl) ⟨rfl, trivial⟩ ?_
  refine r_as ?_
  refine r_as ?_
  refine r_nil (r_next (r_seq (r_reg (r_mv ?_))))
  obtain ⟨v13, h14, hF⟩ := bnd hF
  refine r_op (t_call rfl (ct_matrix_Rank h14) rfl) ⟨rfl, trivial⟩ ?_
  refine r_mv ?_
  refine r_op (t_ext2a rfl) ⟨rfl, trivial⟩ ?_
  refine r_op (t_ext2b rfl) ⟨rfl, trivial⟩ ?_
  refine r_as ?_
  refine r_as ?_
  refine r_nil (r_next (r_seq (r_seq (r_reg (r_mv ?_)))))
  refine r_op (t_ne rfl) ⟨rfl, k_I _ _, trivial⟩ ?_
  refine r_mv ?_
  refine r_bool (fun h15 => ?_) (fun h15 => ?_)
  · have hF := cnd_t h15 hF
    refine r_opn ?_
    refine r_opn ?_
    refine r_op (t_pickT rfl) ⟨rfl, k_B _, trivial⟩ ?_
    refine r_mv ?_
    refine r_opn ?_
    refine r_opn ?_
    refine r_op (t_pickT rfl) ⟨rfl, k_B _, trivial⟩ ?_
    refine r_mv ?_
    refine r_opn ?_
    refine r_opn ?_
    refine r_op (t_pickT rfl) ⟨rfl, k_B _, trivial⟩ ?_
    refine r_mv ?_
    refine r_opn ?_
    refine r_opn ?_
    refine r_opn ?_
    refine r_opn ?_
    refine r_op (t_pickT rfl) ⟨rfl, k_B _, trivial⟩ ?_
    refine r_mv ?_
    refine r_opn ?_
    refine r_opn ?_
    refine r_opn ?_
    refine r_opn ?_
    refine r_opn ?_
    refine r_opn ?_
    refine r_op (t_pickT rfl) ⟨rfl, k_B _, trivial⟩ ?_
    refine r_nil (r_next (r_ifT rfl ?_))
    refine r_seq (r_reg (r_op (t_mv (.inr rfl)) ⟨k_B _, trivial⟩ ?_))
    refine r_nil (r_next (r_ret (r_toR ?_)))
    obtain rfl := sm1 hF
    exact r_done1 (.inl rfl) Try.results3 (.tmp rfl .nil) rfl rfl
  · have hF := cnd_f h15 hF
    refine r_opg (t_mv (.inl rfl)) ⟨rfl, trivial⟩ ?_
    refine r_opg (t_ne rfl) ⟨rfl, k_I _ _, trivial⟩ ?_
    refine r_op (t_pickF rfl) ⟨rfl, rfl, trivial⟩ ?_
    refine r_mv ?_
    refine r_bool (fun h16 => ?_) (fun h16 => ?_)
    · have hF := cnd_t h16 hF
      refine r_opn ?_
      refine r_opn ?_
      refine r_op (t_pickT rfl) ⟨rfl, k_B _, trivial⟩ ?_
      refine r_mv ?_
      refine r_opn ?_
      refine r_opn ?_
      refine r_op (t_pickT rfl) ⟨rfl, k_B _, trivial⟩ ?_
      refine r_mv ?_
      refine r_opn ?_
      refine r_opn ?_
      refine r_opn ?_
      refine r_opn ?_
      refine r_op (t_pickT rfl) ⟨rfl, k_B _, trivial⟩ ?_
      refine r_mv ?_
      refine r_opn ?_
      refine r_opn ?_
      refine r_opn ?_
      refine r_opn ?_
      refine r_opn ?_
      refine r_opn ?_
      refine r_op (t_pickT rfl) ⟨rfl, k_B _, trivial⟩ ?_
      refine r_nil (r_next (r_ifT rfl ?_))
      refine r_seq (r_reg (r_op (t_mv (.inr rfl)) ⟨k_B _, trivial⟩ ?_))
      refine r_nil (r_next (r_ret (r_toR ?_)))
      obtain rfl := sm1 hF
      exact r_done1 (.inl rfl) Try.results3 (.tmp rfl .nil) rfl rfl
    · have hF := cnd_f h16 hF
      refine r_opg (t_mv (.inl rfl)) ⟨rfl, trivial⟩ ?_
      refine r_opg (t_ne rfl) ⟨rfl, k_I _ _, trivial⟩ ?_
      refine r_op (t_pickF rfl) ⟨rfl, rfl, trivial⟩ ?_
      refine r_mv ?_
      refine r_bool (fun h17 => ?_) (fun h17 => ?_)
      · have hF := cnd_t h17 hF
        refine r_opn ?_
        refine r_opn ?_
        refine r_op (t_pickT rfl) ⟨rfl, k_B _, trivial⟩ ?_
        refine r_mv ?_
        refine r_opn ?_
        refine r_opn ?_
        refine r_opn ?_
        refine r_opn ?_
        refine r_op (t_pickT rfl) ⟨rfl, k_B _, trivial⟩ ?_
        refine r_mv ?_
        refine r_opn ?_
        refine r_opn ?_
        refine r_opn ?_
        refine r_opn ?_
        refine r_opn ?_
        refine r_opn ?_
        refine r_op (t_pickT rfl) ⟨rfl, k_B _, trivial⟩ ?_
        refine r_nil (r_next (r_ifT rfl ?_))
        refine r_seq (r_reg (r_op (t_mv (.inr rfl)) ⟨k_B _, trivial⟩ ?_))
        refine r_nil (r_next (r_ret (r_toR ?_)))
        obtain rfl := sm1 hF
        exact r_done1 (.inl rfl) Try.results3 (.tmp rfl .nil) rfl rfl
      · have hF := cnd_f h17 hF
        refine r_opg (t_mv (.inl rfl)) ⟨rfl, trivial⟩ ?_
        refine r_opg (t_ne rfl) ⟨rfl, k_I _ _, trivial⟩ ?_
        refine r_op (t_pickF rfl) ⟨rfl, rfl, trivial⟩ ?_
        refine r_mv ?_
        refine r_bool (fun h18 => ?_) (fun h18 => ?_)
        · have hF := cnd_t h18 hF
          refine r_opn ?_
          refine r_opn ?_
          refine r_opn ?_
          refine r_opn ?_
          refine r_op (t_pickT rfl) ⟨rfl, k_B _, trivial⟩ ?_
          refine r_mv ?_
          refine r_opn ?_
          refine r_opn ?_
          refine r_opn ?_
          refine r_opn ?_
          refine r_opn ?_
          refine r_opn ?_
          refine r_op (t_pickT rfl) ⟨rfl, k_B _, trivial⟩ ?_
          refine r_nil (r_next (r_ifT rfl ?_))
          refine r_seq (r_reg (r_op (t_mv (.inr rfl)) ⟨k_B _, trivial⟩ ?_))
          refine r_nil (r_next (r_ret (r_toR ?_)))
          obtain rfl := sm1 hF
          exact r_done1 (.inl rfl) Try.results3 (.tmp rfl .nil) rfl rfl
        · have hF := cnd_f h18 hF
          refine r_opg (t_mv (.inl rfl)) ⟨rfl, trivial⟩ ?_
          refine r_opg (t_ln rfl tyS27) ⟨rfl, trivial⟩ ?_
          refine r_opg (t_mv (.inl rfl)) ⟨rfl, trivial⟩ ?_
          refine r_opg (t_ne rfl) ⟨rfl, rfl, trivial⟩ ?_
          refine r_op (t_pickF rfl) ⟨rfl, rfl, trivial⟩ ?_
          refine r_mv ?_
          refine r_bool (fun h19 => ?_) (fun h19 => ?_)
          · have hF := cnd_t h19 hF
            refine r_opn ?_
            refine r_opn ?_
            refine r_opn ?_
            refine r_opn ?_
            refine r_opn ?_
            refine r_opn ?_
            refine r_op (t_pickT rfl) ⟨rfl, k_B _, trivial⟩ ?_
            refine r_nil (r_next (r_ifT rfl ?_))
            refine r_seq (r_reg (r_op (t_mv (.inr rfl)) ⟨k_B _, trivial⟩ ?_))
            refine r_nil (r_next (r_ret (r_toR ?_)))
            obtain rfl := sm1 hF
            exact r_done1 (.inl rfl) Try.results3 (.tmp rfl .nil) rfl rfl
          · have hF := cnd_f h19 hF
            refine r_opg (t_mv (.inl rfl)) ⟨rfl, trivial⟩ ?_
            refine r_opg (t_mv (.inl rfl)) ⟨rfl, trivial⟩ ?_
            refine r_opg (t_ln rfl tyS25) ⟨rfl, trivial⟩ ?_
            obtain ⟨v20, h21, hF⟩ := bnd hF
            refine r_opg (t_add rfl h21) ⟨rfl, rfl, trivial⟩ ?_
            refine r_opg (t_mv (.inl rfl)) ⟨rfl, trivial⟩ ?_
            refine r_opg (t_ne rfl) ⟨rfl, rfl, trivial⟩ ?_
            refine r_op (t_pickF rfl) ⟨rfl, rfl, trivial⟩ ?_
            refine r_nil (r_next (r_if rfl (fun h22 => ?_) (fun h22 => ?_)))
            · have hF := cnd_t h22 hF
              refine r_seq (r_reg (r_op (t_mv (.inr rfl)) ⟨k_B _, trivial⟩ ?_))
              refine r_nil (r_next (r_ret (r_toR ?_)))
              obtain rfl := sm1 hF
              exact r_done1 (.inl rfl) Try.results3 (.tmp rfl .nil) rfl rfl
            · have hF := cnd_f h22 hF
              refine r_skip (r_next (r_seq (r_reg (r_mv ?_))))
              obtain ⟨x23, h24, hF⟩ := bnd hF
              refine r_make (C := cQ) rfl tyS27 rfl tyZ39q rfl h24 (fun b25 => ?_)
              refine r_as ?_
              refine r_nil (r_next (r_seq (r_seq (r_reg (r_op (t_mv (.inr rfl)) ⟨k_I _ _, trivial⟩ ?_)))))
              refine r_nil (r_next (r_blk (r_cutN (fun H E => ∃ (x42 : List Rat), ∃ (b43 : Option Nat), ∃ (c44 : Nat), ∃ (n45 : Nat), F_gantrylaw09_MatrixSolutions_j49 K v1 v3 v5 v7 v9 v11 x42 = some r ∧ x42.length = n45 ∧ H = [hO cQ b43 c44 39 n45 x42] ∧ E = [(7, .vc (pI .i64 v1.1)), (8, .vc (pI .i64 v1.2)), (9, .vc (pS (cSl cQ) v3)), (10, .vc (pS cQ v5)), (11, .vc (pS cQ v7.1)), (13, .vc (pS cQ v9.1)), (15, .vc (pS (cSl cQ) v11.1)), (19, .vc (pO b43 n45 c44))]) ?_ (fun Jj49 => ?_))))
              · rintro _ _ ⟨x42, b43, c44, n45, hF, q46, rfl, rfl⟩
                unfold F_gantrylaw09_MatrixSolutions_j49 at hF
                refine r_next (r_seq (r_seq (r_reg (r_op (t_mv (.inr rfl)) ⟨k_I _ _, trivial⟩ ?_))))
                refine r_nil (r_next (r_blk (r_cutN (fun H E => ∃ (x64 : List Rat), ∃ (b65 : Option Nat), ∃ (c66 : Nat), ∃ (n67 : Nat), F_gantrylaw09_MatrixSolutions_j71 K v1 v3 v7 v9 x64 = some r ∧ x64.length = n67 ∧ H = [hO cQ b65 c66 39 n67 x64] ∧ E = [(8, .vc (pI .i64 v1.2)), (9, .vc (pS (cSl cQ) v3)), (11, .vc (pS cQ v7.1)), (13, .vc (pS cQ v9.1)), (19, .vc (pO b65 n67 c66))]) ?_ (fun Jj71 => ?_))))
                · rintro _ _ ⟨x64, b65, c66, n67, hF, q68, rfl, rfl⟩
                  unfold F_gantrylaw09_MatrixSolutions_j71 at hF
                  refine r_next (r_seq (r_reg (r_mv ?_)))
                  refine r_mv ?_
                  obtain ⟨v72, h73, hF⟩ := bnd hF
                  refine r_op (t_call rfl (ct_matrix_Apply h73) rfl) ⟨rfl, rfl, trivial⟩ ?_
                  refine r_mv ?_
                  refine r_op (t_ext2a rfl) ⟨rfl, trivial⟩ ?_
                  refine r_op (t_ext2b rfl) ⟨rfl, trivial⟩ ?_
                  refine r_as ?_
                  refine r_as ?_
                  refine r_nil (r_next (r_seq (r_reg (r_mv ?_))))
                  refine r_op (t_eq rfl) ⟨rfl, k_I _ _, trivial⟩ ?_
                  refine r_mv ?_
                  refine r_bool (fun h74 => ?_) (fun h74 => ?_)
                  · have hF := cnd_t h74 hF
                    refine r_opg (t_mv (.inl rfl)) ⟨rfl, trivial⟩ ?_
                    refine r_opg (t_mv (.inl rfl)) ⟨rfl, trivial⟩ ?_
                    obtain ⟨v75, h76, hF⟩ := bnd hF
                    refine r_opg (t_call rfl (ct_gantryref09_SameRow h76) rfl) ⟨rfl, rfl, trivial⟩ ?_
                    refine r_op (t_pickT rfl) ⟨rfl, rfl, trivial⟩ ?_
                    refine r_mv ?_
                    refine r_bool (fun h77 => ?_) (fun h77 => ?_)
                    · have hF := cnd_t h77 hF
                      refine r_opg (t_mv (.inl rfl)) ⟨rfl, trivial⟩ ?_
                      refine r_opg (t_mv (.inl rfl)) ⟨rfl, trivial⟩ ?_
                      obtain ⟨x78, h79, hF⟩ := bnd hF
                      refine r_hvg (hv_make (C := cQ) rfl tyS27 rfl tyZ39q h79) ⟨rfl, trivial⟩ (fun b80 _ => ?_)
                      refine r_fzL 1 [19, 198] rfl q68 ⟨rfl, rfl, trivial⟩ rfl ?_
                      refine r_fzL 0 [200] rfl rfl ⟨rfl, trivial⟩ rfl ?_
                      obtain ⟨v83, h84, hF⟩ := bnd hF
                      refine r_opg (t_call rfl (ct_gantryref09_SameRow h84) rfl) ⟨rfl, rfl, trivial⟩ ?_
                      refine r_op (t_pickT rfl) ⟨rfl, rfl, trivial⟩ ?_
                      refine r_mv ?_
                      refine r_bool (fun h85 => ?_) (fun h85 => ?_)
                      · have hF := cnd_t h85 hF
                        obtain ⟨v86, h87, hF⟩ := bnd hF
                        refine r_opg (t_call rfl (ct_gantrylaw09_lives h87) rfl) trivial ?_
                        refine r_op (t_pickT rfl) ⟨rfl, rfl, trivial⟩ ?_
                        refine r_as ?_
                        refine r_nil (r_next (r_ret (r_toR ?_)))
                        obtain rfl := sm1 hF
                        exact r_done1 (.inl rfl) Try.results3 (.tmp rfl .nil) rfl rfl
                      · have hF := cnd_f h85 hF
                        refine r_opn ?_
                        refine r_op (t_pickF rfl) ⟨rfl, k_B _, trivial⟩ ?_
                        refine r_as ?_
                        refine r_nil (r_next (r_ret (r_toR ?_)))
                        obtain rfl := sm1 hF
                        exact r_done1 (.inl rfl) Try.results3 (.tmp rfl .nil) rfl rfl
                    · have hF := cnd_f h77 hF
                      refine r_opn ?_
                      refine r_opn ?_
                      refine r_opn ?_
                      refine r_opn ?_
                      refine r_op (t_pickF rfl) ⟨rfl, k_B _, trivial⟩ ?_
                      refine r_mv ?_
                      refine r_opn ?_
                      refine r_op (t_pickF rfl) ⟨rfl, k_B _, trivial⟩ ?_
                      refine r_as ?_
                      refine r_nil (r_next (r_ret (r_toR ?_)))
                      obtain rfl := sm1 hF
                      exact r_done1 (.inl rfl) Try.results3 (.tmp rfl .nil) rfl rfl
                  · have hF := cnd_f h74 hF
                    refine r_opn ?_
                    refine r_opn ?_
                    refine r_opn ?_
                    refine r_op (t_pickF rfl) ⟨rfl, k_B _, trivial⟩ ?_
                    refine r_mv ?_
                    refine r_opn ?_
                    refine r_opn ?_
                    refine r_opn ?_
                    refine r_opn ?_
                    refine r_op (t_pickF rfl) ⟨rfl, k_B _, trivial⟩ ?_
                    refine r_mv ?_
                    refine r_opn ?_
                    refine r_op (t_pickF rfl) ⟨rfl, k_B _, trivial⟩ ?_
                    refine r_as ?_
                    refine r_nil (r_next (r_ret (r_toR ?_)))
                    obtain rfl := sm1 hF
                    exact r_done1 (.inl rfl) Try.results3 (.tmp rfl .nil) rfl rfl
                · skip
                  obtain ⟨ol70, hL, hRl70⟩ := bnd hF
                  refine r_lp (fun k a w => ∃ (x57 : List Rat), ∃ (x63 : Int), ∃ (b58 : Option Nat), ∃ (c59 : Nat), ∃ (n60 : Nat), F_gantrylaw09_MatrixSolutions_l70 K v1 v3 v5 v11 k x57 x63 = some ol70 ∧ x57.length = n60 ∧ hs _ [hO cQ b58 c59 39 n60 x57] [(7, .vc (pI .i64 v1.1)), (8, .vc (pI .i64 v1.2)), (9, .vc (pS (cSl cQ) v3)), (10, .vc (pS cQ v5)), (11, .vc (pS cQ v7.1)), (13, .vc (pS cQ v9.1)), (15, .vc (pS (cSl cQ) v11.1)), (19, .vc (pO b58 n60 c59)), (21, .vc (pI .i64 x63))] a w) K (fun a w ⟨_, _, _, _, _, hF, _, _⟩ => by cases hF) (fun k a w ⟨x57, x63, b58, c59, n60, hF, q61, hh⟩ => r_at ?_ hh) (fun a w hh => ⟨x42, 0, b43, c44, n45, hL, q46, hs_back [0] rfl (by decide) (by exact ⟨rfl, rfl, rfl, rfl, rfl, rfl, rfl, rfl, rfl, trivial⟩) hh⟩)
                  rw [F_gantrylaw09_MatrixSolutions_l70.eq_2] at hF
                  refine r_seq (r_seq (r_reg (r_mv ?_)))
                  refine r_mv ?_
                  refine r_op (t_ln rfl tyS25) ⟨rfl, trivial⟩ ?_
                  refine r_op (t_lt rfl) ⟨rfl, rfl, trivial⟩ ?_
                  refine r_nil (r_next (r_if rfl (fun h88 => ?_) (fun h88 => ?_)))
                  · have hF := cnd_t h88 hF
                    refine r_skip (r_next (r_seq (r_blk (r_seq (r_reg (r_mv ?_))))))
                    refine r_mv ?_
                    refine r_mv ?_
                    obtain ⟨v89, h90, hF⟩ := bnd hF
                    refine r_op (t_ix rfl tyS25 h90) ⟨rfl, rfl, trivial⟩ ?_
                    refine r_op (t_lM 1 rfl rfl (.one tyO27)) ⟨rfl, trivial⟩ ?_
                    obtain ⟨v91, h92, hF⟩ := bnd hF
                    refine r_op (t_call rfl (ct_matrix_Apply h92) rfl) ⟨rfl, rfl, trivial⟩ ?_
                    refine r_mv ?_
                    refine r_op (t_ext2a rfl) ⟨rfl, trivial⟩ ?_
                    refine r_op (t_ext2b rfl) ⟨rfl, trivial⟩ ?_
                    refine r_as ?_
                    refine r_as ?_
                    refine r_nil (r_next (r_seq (r_seq (r_reg (r_mv ?_)))))
                    refine r_op (t_ne rfl) ⟨rfl, k_I _ _, trivial⟩ ?_
                    refine r_mv ?_
                    refine r_bool (fun h93 => ?_) (fun h93 => ?_)
                    · have hF := cnd_t h93 hF
                      refine r_opn ?_
                      refine r_opn ?_
                      refine r_opn ?_
                      refine r_opn ?_
                      refine r_opn ?_
                      refine r_opn ?_
                      refine r_opn ?_
                      refine r_op (t_pickT rfl) ⟨rfl, k_B _, trivial⟩ ?_
                      refine r_nil (r_next (r_ifT rfl ?_))
                      refine r_seq (r_reg (r_op (t_mv (.inr rfl)) ⟨k_B _, trivial⟩ ?_))
                      refine r_nil (r_next (r_ret (r_toR ?_)))
                      obtain rfl := sm1 hF
                      obtain rfl := sm1 hRl70
                      exact r_done1 (.inl rfl) Try.results3 (.tmp rfl .nil) rfl rfl
                    · have hF := cnd_f h93 hF
                      refine r_opg (t_mv (.inl rfl)) ⟨rfl, trivial⟩ ?_
                      refine r_opg (t_mv (.inl rfl)) ⟨rfl, trivial⟩ ?_
                      obtain ⟨v94, h95, hF⟩ := bnd hF
                      refine r_opg (t_ix rfl tyS25 h95) ⟨rfl, rfl, trivial⟩ ?_
                      refine r_opg (t_lM 1 rfl rfl (.one tyO27)) ⟨rfl, trivial⟩ ?_
                      refine r_opg (t_ln rfl tyS27) ⟨rfl, trivial⟩ ?_
                      refine r_opg (t_mv (.inl rfl)) ⟨rfl, trivial⟩ ?_
                      refine r_opg (t_ne rfl) ⟨rfl, rfl, trivial⟩ ?_
                      refine r_op (t_pickF rfl) ⟨rfl, rfl, trivial⟩ ?_
                      refine r_nil (r_next (r_if rfl (fun h96 => ?_) (fun h96 => ?_)))
                      · have hF := cnd_t h96 hF
                        refine r_seq (r_reg (r_op (t_mv (.inr rfl)) ⟨k_B _, trivial⟩ ?_))
                        refine r_nil (r_next (r_ret (r_toR ?_)))
                        obtain rfl := sm1 hF
                        obtain rfl := sm1 hRl70
                        exact r_done1 (.inl rfl) Try.results3 (.tmp rfl .nil) rfl rfl
                      · have hF := cnd_f h96 hF
                        refine r_skip (r_next (r_seq (r_seq (r_reg (r_mv ?_)))))
                        refine r_mv ?_
                        obtain ⟨x97, h98, hF⟩ := bnd hF
                        refine r_make (C := cQ) rfl tyS27 rfl tyZ39q rfl h98 (fun b99 => ?_)
                        refine r_fzL 0 [138] rfl rfl ⟨rfl, trivial⟩ rfl ?_
                        obtain ⟨v102, h103, hF⟩ := bnd hF
                        refine r_op (t_call rfl (ct_gantryref09_SameRow h103) rfl) ⟨rfl, rfl, trivial⟩ ?_
                        refine r_op (t_not rfl) ⟨rfl, trivial⟩ ?_
                        refine r_nil (r_next (r_if rfl (fun h104 => ?_) (fun h104 => ?_)))
                        · have hF := cnd_t h104 hF
                          refine r_seq (r_reg (r_op (t_mv (.inr rfl)) ⟨k_B _, trivial⟩ ?_))
                          refine r_nil (r_next (r_ret (r_toR ?_)))
                          obtain rfl := sm1 hF
                          obtain rfl := sm1 hRl70
                          exact r_done1 (.inl rfl) Try.results3 (.tmp rfl .nil) rfl rfl
                        · have hF := cnd_f h104 hF
                          refine r_skip (r_next (r_seq (r_reg (r_mv ?_))))
                          obtain ⟨v105, h106, hF⟩ := bnd hF
                          refine r_op (t_sub rfl h106) ⟨rfl, k_I _ _, trivial⟩ ?_
                          refine r_as ?_
                          refine r_nil (r_next (r_seq (r_blk (r_cutN (fun H E => ∃ (x109 : Int), F_gantrylaw09_MatrixSolutions_j111 K v1 v5 v11 x57 x63 (F_gantrylaw09_MatrixSolutions_l70 K v1 v3 v5 v11 k) x109 = some ol70 ∧ H = [hO cQ b58 c59 39 n60 x57] ∧ E = [(7, .vc (pI .i64 v1.1)), (8, .vc (pI .i64 v1.2)), (9, .vc (pS (cSl cQ) v3)), (10, .vc (pS cQ v5)), (11, .vc (pS cQ v7.1)), (13, .vc (pS cQ v9.1)), (15, .vc (pS (cSl cQ) v11.1)), (19, .vc (pO b58 n60 c59)), (21, .vc (pI .i64 x63)), (24, .vc (pI .i64 x109)), (128, .vc (pS (cSl cQ) v11.1)), (129, .vc (pI .i64 x63)), (130, .vc (pM ((cSl cQ).e v94))), (131, .vc (pS cQ v94)), (132, .vc (pI .i64 (v94.length : Int))), (133, .vc (pI .i64 v1.2)), (134, .vc (pB ((v94.length : Int) != v1.2)))]) ?_ (fun Jj111 => ?_)))))
                          · rintro _ _ ⟨x109, hF, rfl, rfl⟩
                            unfold F_gantrylaw09_MatrixSolutions_j111 at hF
                            refine r_next (r_seq (r_reg (r_mv ?_)))
                            refine r_mv ?_
                            obtain ⟨v112, h113, hF⟩ := bnd hF
                            refine r_op (t_ix rfl tyS27 h113) ⟨rfl, rfl, trivial⟩ ?_
                            refine r_op (t_lM 4 rfl rfl (.agg tyA39)) ⟨rfl, trivial⟩ ?_
                            refine r_alloc rfl tyZ39q (fun b114 => ?_)
                            refine r_op0 (t_s 0 rfl rfl rfl tyA39.s) ⟨rfl, rfl, trivial⟩ ?_
                            refine r_nil (r_next (r_seq (r_reg (r_op (t_mv (.inr rfl)) ⟨k_I _ _, trivial⟩ ?_))))
                            refine r_nil (r_next (r_blk (r_cutN (fun H E => ∃ (x129 : List Rat), ∃ (b130 : Option Nat), ∃ (c131 : Nat), ∃ (n132 : Nat), F_gantrylaw09_MatrixSolutions_j136 K x63 (F_gantrylaw09_MatrixSolutions_l70 K v1 v3 v5 v11 k) x129 = some ol70 ∧ x129.length = n132 ∧ H = [hO cQ b130 c131 39 n132 x129] ∧ E = [(7, .vc (pI .i64 v1.1)), (8, .vc (pI .i64 v1.2)), (9, .vc (pS (cSl cQ) v3)), (10, .vc (pS cQ v5)), (11, .vc (pS cQ v7.1)), (13, .vc (pS cQ v9.1)), (15, .vc (pS (cSl cQ) v11.1)), (19, .vc (pO b130 n132 c131)), (21, .vc (pI .i64 x63)), (128, .vc (pS (cSl cQ) v11.1)), (129, .vc (pI .i64 x63)), (130, .vc (pM ((cSl cQ).e v94))), (131, .vc (pS cQ v94)), (132, .vc (pI .i64 (v94.length : Int))), (133, .vc (pI .i64 v1.2)), (134, .vc (pB ((v94.length : Int) != v1.2)))]) ?_ (fun Jj136 => ?_))))
                            · rintro _ _ ⟨x129, b130, c131, n132, hF, q133, rfl, rfl⟩
                              unfold F_gantrylaw09_MatrixSolutions_j136 at hF
                              refine r_blkN (r_next (r_reg (r_mv ?_)))
                              obtain ⟨v137, h138, hF⟩ := bnd hF
                              refine r_op (t_add rfl h138) ⟨rfl, k_I _ _, trivial⟩ ?_
                              refine r_as ?_
                              refine r_nil ?_
                              exact r_round (fun a w hh => ⟨x129, v137, b130, c131, n132, hF, q133, hs_back [0] rfl (by decide) (by exact ⟨rfl, rfl, rfl, rfl, rfl, rfl, rfl, rfl, rfl, trivial⟩) hh⟩)
                            · skip
                              obtain ⟨x129', hL, hRl135⟩ := bnd hF
                              refine r_lp (fun k a w => ∃ (x122 : List Rat), ∃ (x128 : Int), ∃ (b123 : Option Nat), ∃ (c124 : Nat), ∃ (n125 : Nat), F_gantrylaw09_MatrixSolutions_l135 K v1 v11 x63 v112 k x122 x128 = some x129' ∧ x122.length = n125 ∧ hs _ [⟨some b114, 1, 39, 4, 1, (eQ v112)⟩, hO cQ b123 c124 39 n125 x122] [(7, .vc (pI .i64 v1.1)), (8, .vc (pI .i64 v1.2)), (9, .vc (pS (cSl cQ) v3)), (10, .vc (pS cQ v5)), (11, .vc (pS cQ v7.1)), (13, .vc (pS cQ v9.1)), (15, .vc (pS (cSl cQ) v11.1)), (19, .vc (pO b123 n125 c124)), (21, .vc (pI .i64 x63)), (25, .vc (pP (some b114) 0)), (26, .vc (pI .i64 x128)), (128, .vc (pS (cSl cQ) v11.1)), (129, .vc (pI .i64 x63)), (130, .vc (pM ((cSl cQ).e v94))), (131, .vc (pS cQ v94)), (132, .vc (pI .i64 (v94.length : Int))), (133, .vc (pI .i64 v1.2)), (134, .vc (pB ((v94.length : Int) != v1.2)))] a w) K (fun a w ⟨_, _, _, _, _, hF, _, _⟩ => by cases hF) (fun k a w ⟨x122, x128, b123, c124, n125, hF, q126, hh⟩ => r_at ?_ hh) (fun a w hh => ⟨x57, 0, b58, c59, n60, hL, q61, hs_back [0, 1] rfl (by decide) (by exact ⟨rfl, rfl, rfl, rfl, rfl, rfl, rfl, rfl, rfl, rfl, rfl, rfl, rfl, rfl, rfl, rfl, rfl, rfl, trivial⟩) hh⟩)
                              rw [F_gantrylaw09_MatrixSolutions_l135.eq_2] at hF
                              refine r_seq (r_seq (r_reg (r_mv ?_)))
                              refine r_mv ?_
                              refine r_op (t_lt rfl) ⟨rfl, rfl, trivial⟩ ?_
                              refine r_nil (r_next (r_if rfl (fun h139 => ?_) (fun h139 => ?_)))
                              · have hF := cnd_t h139 hF
                                refine r_skip (r_next (r_seq (r_blk ?_)))
                                obtain ⟨v142, h143, hF⟩ := bnd hF
                                obtain ⟨v144, h145, hF⟩ := bnd hF
                                obtain ⟨v146, h147, hF⟩ := bnd hF
                                obtain ⟨v148, h149, hF⟩ := bnd hF
                                obtain ⟨v150, h151, hF⟩ := bnd hF
                                obtain ⟨v152, h153, hF⟩ := bnd hF
                                refine r_draw [0, 0, 0, 0, 12, 28, 0, 0, 0, 384, 896, 0, 3968, 8064, 16320, 32764, 65535, 131071] 17 1 [.v (.vc (pO b123 n125 c124)), .v (.vc (pI .i64 x128)), .v (.vc (pO b123 n125 c124)), .v (.vc (pI .i64 x128)), .v (.vc (pE b123 x128 cQ.n 0)), .v (.va (eQ v142)), .v (.va (eQ v112)), .v (.vc (pS (cSl cQ) v11.1)), .v (.vc (pI .i64 x63)), .v (.vc (pM ((cSl cQ).e v144))), .v (.vc (pS cQ v144)), .v (.vc (pI .i64 x128)), .v (.vc (pM (cQ.e v146))), .v (.va (eQ v146)), .v (.va (eQ v148)), .v (.va (eQ v150)), .v (.vc (pE b123 x128 cQ.n 0))] Try_mixed ⟨⟨rfl, .run (lo := 0) (n := 1) ⟨fun G140 A => t_mv (.inl rfl), trivial⟩ (fun G140 => ⟨rfl, trivial⟩)⟩, ⟨rfl, .run (lo := 0) (n := 1) ⟨fun G140 A => t_mv (.inl rfl), trivial⟩ (fun G140 => ⟨rfl, trivial⟩)⟩, ⟨rfl, .run (lo := 0) (n := 1) ⟨fun G140 A => t_mv (.inl rfl), trivial⟩ (fun G140 => ⟨rfl, trivial⟩)⟩, ⟨rfl, .run (lo := 0) (n := 1) ⟨fun G140 A => t_mv (.inl rfl), trivial⟩ (fun G140 => ⟨rfl, trivial⟩)⟩, ⟨rfl, .run (lo := 0) (n := 1) ⟨fun G140 A => t_ixE (C := cQ) 1 rfl tyS27 rfl q126 (rdL_some h143).1 (rdL_some h143).2.1, trivial⟩ (fun G140 => ⟨rfl, rfl, trivial⟩)⟩, ⟨rfl, .run (lo := 0) (n := 1) ⟨fun G140 A => t_ldE (k := 4) 1 rfl rfl h143 rfl (.agg tyA39) rfl, trivial⟩ (fun G140 => ⟨rfl, trivial⟩)⟩, ⟨rfl, .run (lo := 0) (n := 1) ⟨fun G140 A => t_l 0 4 rfl rfl rfl rfl (.agg tyA39), trivial⟩ (fun G140 => ⟨rfl, trivial⟩)⟩, ⟨rfl, .run (lo := 0) (n := 1) ⟨fun G140 A => t_mv (.inl rfl), trivial⟩ (fun G140 => ⟨rfl, trivial⟩)⟩, ⟨rfl, .run (lo := 0) (n := 1) ⟨fun G140 A => t_mv (.inl rfl), trivial⟩ (fun G140 => ⟨rfl, trivial⟩)⟩, ⟨rfl, .run (lo := 0) (n := 1) ⟨fun G140 A => t_ix rfl tyS25 h145, trivial⟩ (fun G140 => ⟨rfl, rfl, trivial⟩)⟩, ⟨rfl, .run (lo := 0) (n := 1) ⟨fun G140 A => t_lM 1 rfl rfl (.one tyO27), trivial⟩ (fun G140 => ⟨rfl, trivial⟩)⟩, ⟨rfl, .run (lo := 0) (n := 1) ⟨fun G140 A => t_mv (.inl rfl), trivial⟩ (fun G140 => ⟨rfl, trivial⟩)⟩, ⟨rfl, .run (lo := 0) (n := 1) ⟨fun G140 A => t_ix rfl tyS27 h147, trivial⟩ (fun G140 => ⟨rfl, rfl, trivial⟩)⟩, ⟨rfl, .run (lo := 0) (n := 1) ⟨fun G140 A => t_lM 4 rfl rfl (.agg tyA39), trivial⟩ (fun G140 => ⟨rfl, trivial⟩)⟩, ⟨rfl, .run (lo := 0) (n := 1) ⟨fun G140 A => t_call rfl (qc_rat_Mul h149) rfl, trivial⟩ (fun G140 => ⟨rfl, rfl, trivial⟩)⟩, ⟨rfl, .run (lo := 0) (n := 1) ⟨fun G140 A => t_call rfl (qc_rat_Sub h151) rfl, trivial⟩ (fun G140 => ⟨rfl, rfl, trivial⟩)⟩, ⟨rfl, .run (lo := 0) (n := 1) ⟨fun G140 A => t_ixE (C := cQ) 1 rfl tyS27 rfl q126 (rdL_some h153).1 (rdL_some h153).2.1, trivial⟩ (fun G140 => ⟨rfl, rfl, trivial⟩)⟩, trivial⟩ (fun bs141 G140 => ?_)
                                obtain ⟨x154, h155, hF⟩ := bnd hF
                                refine r_op0 (t_stE 1 rfl rfl h153 h155 tyA39.s) ⟨rfl, rfl, trivial⟩ ?_
                                refine r_nil (r_blkN (r_next (r_reg (r_mv ?_))))
                                obtain ⟨v157, h158, hF⟩ := bnd hF
                                refine r_op (t_add rfl h158) ⟨rfl, k_I _ _, trivial⟩ ?_
                                refine r_as ?_
                                refine r_nil ?_
                                exact r_round (fun a w hh => ⟨x154, v157, b123, c124, n125, hF, (stL_len h155 q126), hs_back [0, 1] rfl (by decide) (by exact ⟨rfl, rfl, rfl, rfl, rfl, rfl, rfl, rfl, rfl, rfl, rfl, rfl, rfl, rfl, rfl, rfl, rfl, rfl, trivial⟩) hh⟩)
                              · have hF := cnd_f h139 hF
                                refine r_brk ?_
                                obtain rfl := sm1 hF
                                exact r_backJ Jj136 ⟨x122, b123, c124, n125, hRl135, q126, rfl, rfl⟩ [1] rfl ⟨rfl, rfl, rfl, rfl, rfl, rfl, rfl, rfl, rfl, rfl, rfl, rfl, rfl, rfl, rfl, rfl, trivial⟩
                          · skip
                            obtain ⟨x109', hL, hRl110⟩ := bnd hF
                            refine r_lp (fun k a w => ∃ (x108 : Int), F_gantrylaw09_MatrixSolutions_l110 K v11 x63 k x108 = some x109' ∧ hs _ [hO cQ b58 c59 39 n60 x57] [(7, .vc (pI .i64 v1.1)), (8, .vc (pI .i64 v1.2)), (9, .vc (pS (cSl cQ) v3)), (10, .vc (pS cQ v5)), (11, .vc (pS cQ v7.1)), (13, .vc (pS cQ v9.1)), (15, .vc (pS (cSl cQ) v11.1)), (19, .vc (pO b58 n60 c59)), (21, .vc (pI .i64 x63)), (24, .vc (pI .i64 x108)), (128, .vc (pS (cSl cQ) v11.1)), (129, .vc (pI .i64 x63)), (130, .vc (pM ((cSl cQ).e v94))), (131, .vc (pS cQ v94)), (132, .vc (pI .i64 (v94.length : Int))), (133, .vc (pI .i64 v1.2)), (134, .vc (pB ((v94.length : Int) != v1.2)))] a w) K (fun a w ⟨_, hF, _⟩ => by cases hF) (fun k a w ⟨x108, hF, hh⟩ => r_at ?_ hh) (fun a w hh => ⟨v105, hL, hs_back [0] rfl (by decide) (by exact ⟨rfl, rfl, rfl, rfl, rfl, rfl, rfl, rfl, rfl, rfl, rfl, rfl, rfl, rfl, rfl, rfl, rfl, trivial⟩) hh⟩)
                            rw [F_gantrylaw09_MatrixSolutions_l110.eq_2] at hF
                            refine r_seq (r_seq (r_reg (r_mv ?_)))
                            refine r_op (t_gt rfl) ⟨rfl, k_I _ _, trivial⟩ ?_
                            refine r_mv ?_
                            refine r_bool (fun h159 => ?_) (fun h159 => ?_)
                            · have hF := cnd_t h159 hF
                              refine r_opg (t_mv (.inl rfl)) ⟨rfl, trivial⟩ ?_
                              refine r_opg (t_mv (.inl rfl)) ⟨rfl, trivial⟩ ?_
                              obtain ⟨v160, h161, hF⟩ := bnd hF
                              refine r_opg (t_ix rfl tyS25 h161) ⟨rfl, rfl, trivial⟩ ?_
                              refine r_opg (t_lM 1 rfl rfl (.one tyO27)) ⟨rfl, trivial⟩ ?_
                              refine r_opg (t_mv (.inl rfl)) ⟨rfl, trivial⟩ ?_
                              obtain ⟨v162, h163, hF⟩ := bnd hF
                              refine r_opg (t_ix rfl tyS27 h163) ⟨rfl, rfl, trivial⟩ ?_
                              refine r_opg (t_lM 4 rfl rfl (.agg tyA39)) ⟨rfl, trivial⟩ ?_
                              obtain ⟨v164, h165, hF⟩ := bnd hF
                              refine r_opg (t_call rfl (qc_rat_Sign h165) rfl) ⟨rfl, trivial⟩ ?_
                              refine r_opg (t_eq rfl) ⟨rfl, k_I _ _, trivial⟩ ?_
                              refine r_op (t_pickT rfl) ⟨rfl, rfl, trivial⟩ ?_
                              refine r_nil (r_next (r_if rfl (fun h166 => ?_) (fun h166 => ?_)))
                              · have hF := cnd_t h166 hF
                                refine r_skip (r_next (r_blk (r_reg (r_mv ?_))))
                                obtain ⟨v167, h168, hF⟩ := bnd hF
                                refine r_op (t_sub rfl h168) ⟨rfl, k_I _ _, trivial⟩ ?_
                                refine r_as ?_
                                refine r_nil (r_blkN ?_)
                                exact r_round (fun a w hh => ⟨v167, hF, hs_back [0] rfl (by decide) (by exact ⟨rfl, rfl, rfl, rfl, rfl, rfl, rfl, rfl, rfl, rfl, rfl, rfl, rfl, rfl, rfl, rfl, rfl, trivial⟩) hh⟩)
                              · have hF := cnd_f h166 hF
                                refine r_brk ?_
                                obtain rfl := sm1 hF
                                exact r_backJ Jj111 ⟨x108, hRl110, rfl, rfl⟩ [0] rfl ⟨rfl, rfl, rfl, rfl, rfl, rfl, rfl, rfl, rfl, rfl, rfl, rfl, rfl, rfl, rfl, rfl, rfl, trivial⟩
                            · have hF := cnd_f h159 hF
                              refine r_opn ?_
                              refine r_opn ?_
                              refine r_opn ?_
                              refine r_opn ?_
                              refine r_opn ?_
                              refine r_opn ?_
                              refine r_opn ?_
                              refine r_opn ?_
                              refine r_opn ?_
                              refine r_op (t_pickF rfl) ⟨rfl, k_B _, trivial⟩ ?_
                              refine r_nil (r_next (r_ifF rfl ?_))
                              refine r_brk ?_
                              obtain rfl := sm1 hF
                              exact r_backJ Jj111 ⟨x108, hRl110, rfl, rfl⟩ [0] rfl ⟨rfl, rfl, rfl, rfl, rfl, rfl, rfl, rfl, rfl, rfl, rfl, rfl, rfl, rfl, rfl, rfl, rfl, trivial⟩
                  · have hF := cnd_f h88 hF
                    refine r_brk ?_
                    obtain rfl := sm1 hF
                    exact r_backJ Jj71 ⟨x57, b58, c59, n60, hRl70, q61, rfl, rfl⟩ [0] rfl ⟨rfl, rfl, rfl, rfl, rfl, trivial⟩
              · skip
                obtain ⟨x42', hL, hRl48⟩ := bnd hF
                refine r_lp (fun k a w => ∃ (x35 : List Rat), ∃ (x41 : Int), ∃ (b36 : Option Nat), ∃ (c37 : Nat), ∃ (n38 : Nat), F_gantrylaw09_MatrixSolutions_l48 K v1 v5 v9 k x35 x41 = some x42' ∧ x35.length = n38 ∧ hs _ [hO cQ b36 c37 39 n38 x35] [(7, .vc (pI .i64 v1.1)), (8, .vc (pI .i64 v1.2)), (9, .vc (pS (cSl cQ) v3)), (10, .vc (pS cQ v5)), (11, .vc (pS cQ v7.1)), (13, .vc (pS cQ v9.1)), (15, .vc (pS (cSl cQ) v11.1)), (19, .vc (pO b36 n38 c37)), (20, .vc (pI .i64 x41))] a w) K (fun a w ⟨_, _, _, _, _, hF, _, _⟩ => by cases hF) (fun k a w ⟨x35, x41, b36, c37, n38, hF, q39, hh⟩ => r_at ?_ hh) (fun a w hh => ⟨x23, 0, b25, x23.length, x23.length, hL, rfl, hs_back [0] rfl (by decide) (by exact ⟨rfl, rfl, rfl, rfl, rfl, rfl, rfl, rfl, rfl, trivial⟩) hh⟩)
                rw [F_gantrylaw09_MatrixSolutions_l48.eq_2] at hF
                refine r_seq (r_seq (r_reg (r_mv ?_)))
                refine r_mv ?_
                refine r_op (t_lt rfl) ⟨rfl, rfl, trivial⟩ ?_
                refine r_nil (r_next (r_if rfl (fun h169 => ?_) (fun h169 => ?_)))
                · have hF := cnd_t h169 hF
                  refine r_skip (r_next (r_seq (r_blk ?_)))
                  obtain ⟨v172, h173, hF⟩ := bnd hF
                  obtain ⟨v174, h175, hF⟩ := bnd hF
                  obtain ⟨v176, h177, hF⟩ := bnd hF
                  obtain ⟨v178, h179, hF⟩ := bnd hF
                  refine r_draw [0, 0, 0, 0, 12, 28, 0, 0, 192, 448, 1020, 2047, 4095] 12 1 [.v (.vc (pO b36 n38 c37)), .v (.vc (pI .i64 x41)), .v (.vc (pS cQ v5)), .v (.vc (pI .i64 x41)), .v (.vc (pM (cQ.e v172))), .v (.va (eQ v172)), .v (.vc (pS cQ v9.1)), .v (.vc (pI .i64 x41)), .v (.vc (pM (cQ.e v174))), .v (.va (eQ v174)), .v (.va (eQ v176)), .v (.vc (pE b36 x41 cQ.n 0))] Try_mixed ⟨⟨rfl, .run (lo := 0) (n := 1) ⟨fun G170 A => t_mv (.inl rfl), trivial⟩ (fun G170 => ⟨rfl, trivial⟩)⟩, ⟨rfl, .run (lo := 0) (n := 1) ⟨fun G170 A => t_mv (.inl rfl), trivial⟩ (fun G170 => ⟨rfl, trivial⟩)⟩, ⟨rfl, .run (lo := 0) (n := 1) ⟨fun G170 A => t_mv (.inl rfl), trivial⟩ (fun G170 => ⟨rfl, trivial⟩)⟩, ⟨rfl, .run (lo := 0) (n := 1) ⟨fun G170 A => t_mv (.inl rfl), trivial⟩ (fun G170 => ⟨rfl, trivial⟩)⟩, ⟨rfl, .run (lo := 0) (n := 1) ⟨fun G170 A => t_ix rfl tyS27 h173, trivial⟩ (fun G170 => ⟨rfl, rfl, trivial⟩)⟩, ⟨rfl, .run (lo := 0) (n := 1) ⟨fun G170 A => t_lM 4 rfl rfl (.agg tyA39), trivial⟩ (fun G170 => ⟨rfl, trivial⟩)⟩, ⟨rfl, .run (lo := 0) (n := 1) ⟨fun G170 A => t_mv (.inl rfl), trivial⟩ (fun G170 => ⟨rfl, trivial⟩)⟩, ⟨rfl, .run (lo := 0) (n := 1) ⟨fun G170 A => t_mv (.inl rfl), trivial⟩ (fun G170 => ⟨rfl, trivial⟩)⟩, ⟨rfl, .run (lo := 0) (n := 1) ⟨fun G170 A => t_ix rfl tyS27 h175, trivial⟩ (fun G170 => ⟨rfl, rfl, trivial⟩)⟩, ⟨rfl, .run (lo := 0) (n := 1) ⟨fun G170 A => t_lM 4 rfl rfl (.agg tyA39), trivial⟩ (fun G170 => ⟨rfl, trivial⟩)⟩, ⟨rfl, .run (lo := 0) (n := 1) ⟨fun G170 A => t_call rfl (qc_rat_Sub h177) rfl, trivial⟩ (fun G170 => ⟨rfl, rfl, trivial⟩)⟩, ⟨rfl, .run (lo := 0) (n := 1) ⟨fun G170 A => t_ixE (C := cQ) 0 rfl tyS27 rfl q39 (rdL_some h179).1 (rdL_some h179).2.1, trivial⟩ (fun G170 => ⟨rfl, rfl, trivial⟩)⟩, trivial⟩ (fun bs171 G170 => ?_)
                  obtain ⟨x180, h181, hF⟩ := bnd hF
                  refine r_op0 (t_stE 0 rfl rfl h179 h181 tyA39.s) ⟨rfl, rfl, trivial⟩ ?_
                  refine r_nil (r_blkN (r_next (r_reg (r_mv ?_))))
                  obtain ⟨v183, h184, hF⟩ := bnd hF
                  refine r_op (t_add rfl h184) ⟨rfl, k_I _ _, trivial⟩ ?_
                  refine r_as ?_
                  refine r_nil ?_
                  exact r_round (fun a w hh => ⟨x180, v183, b36, c37, n38, hF, (stL_len h181 q39), hs_back [0] rfl (by decide) (by exact ⟨rfl, rfl, rfl, rfl, rfl, rfl, rfl, rfl, rfl, trivial⟩) hh⟩)
                · have hF := cnd_f h169 hF
                  refine r_brk ?_
                  obtain rfl := sm1 hF
                  exact r_backJ Jj49 ⟨x35, b36, c37, n38, hRl48, q39, rfl, rfl⟩ [0] rfl ⟨rfl, rfl, rfl, rfl, rfl, rfl, rfl, rfl, trivial⟩
end Go.Proofs.Ytkjnngaceacmdaa
