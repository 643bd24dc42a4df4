import Derived.Test.YtkjnngaceacmdaaGreatQ1
set_option linter.unusedVariables false
namespace Go.Proofs.YtkjnngaceacmdaaGreat
abbrev N_gantryref15_train : Nat := 83
def F_gantryref15_train (a0 : api_Model) (a1 : Int) : Option api_Model :=
  (qof 1 2).bind fun v41 => (F_gantryref15_num (-1)).bind fun v43 => (F_gantryref15_num 3).bind fun v45 => (apL a0.dofs [(⟨v41, 0, true, v43, v45⟩ : api_Dof)]).bind fun x47 => (F_gantryref15_shape 1).bind fun v54 => (F_gantryref15_shape 5).bind fun v56 => (F_gantryref15_num 22).bind fun v60 => (F_gantryref15_num 1).bind fun v62 => (chr a1 3).bind fun v64 => (qof v64 2).bind fun v66 => (apL a0.parts [(⟨v54.1, (⟨v60, 0⟩ : api_Vec), [(⟨(a0.dofs.length : Int), v62, 0, 0⟩ : api_Column)], v66, 0⟩ : api_Part)]).bind fun x68 => (F_gantryref15_num 32).bind fun v77 => (F_gantryref15_num 2).bind fun v79 => (chr a1 2).bind fun v81 => (chk (1 + v81)).bind fun v83 => (qof v83 2).bind fun v85 => (chr a1 4).bind fun v87 => (qof v87 2).bind fun v89 => (chr a1 3).bind fun v91 => (qof v91 2).bind fun v93 => (apL x68 [(⟨v56.1, (⟨v77, v79⟩ : api_Vec), [(⟨(a0.dofs.length : Int), 0, v85, 0⟩ : api_Column)], v89, v93⟩ : api_Part)]).bind fun x95 => some (⟨x47, x95, a0.ropes, a0.skip⟩ : api_Model)
set_option maxRecDepth 100000 in
theorem ctO_gantryref15_train {a0 : api_Model} {a1 : Int} {r : api_Model} (hF : F_gantryref15_train a0 a1 = some r) {b3 : Option Nat} {c4 n2 : Nat} (q5 : a0.dofs.length = n2) {b9 : Option Nat} {c10 n8 : Nat} (q11 : a0.parts.length = n8) {b15 : Option Nat} {c16 n14 : Nat} (q17 : a0.ropes.length = n14) : CtO Tryz.prog 83 [hO api_Dof.cod b3 c4 66 n2 a0.dofs, hO api_Part.cod b9 c10 116 n8 a0.parts, hO api_Rope.cod b15 c16 125 n14 a0.ropes] [.va ([pO b3 n2 c4] ++ [pO b9 n8 c10] ++ [pO b15 n14 c16] ++ [pS cA2 a0.skip]), .vc (pI .i64 a1)] (fun Ho q => ∃ b104 c105 n103, ∃ b110 c111 n109, ∃ b116 c117 n115, r.dofs.length = n103 ∧ r.parts.length = n109 ∧ r.ropes.length = n115 ∧ Ho = [hO api_Dof.cod b104 c105 66 n103 r.dofs, hO api_Part.cod b110 c111 116 n109 r.parts, hO api_Rope.cod b116 c117 125 n115 r.ropes] ∧ q = .va ([pO b104 n103 c105] ++ [pO b110 n109 c111] ++ [pO b116 n115 c117] ++ [pS cA2 r.skip])) := by
  unfold F_gantryref15_train at hF
  refine ctO_intro Tryz.func83 rfl (by kernel_rfl) Tryz.ntmps83 rfl (fun w0 M0 => ?_)
  refine r_seq (r_reg (r_box rfl rfl trivial (fun b19 => ?_)))
  refine r_newL api_Dof.cod 66 ?_
  refine r_newL api_Part.cod 116 ?_
  refine r_newL api_Rope.cod 125 ?_
  refine r_alloc rfl tyZ57_o0_o1_o2q (fun b38 => ?_)
  refine r_nil (r_next (r_seq (r_reg (r_op (t_fa (off := 0) (k := 0) rfl tyF57_0) ⟨rfl, trivial⟩ ?_))))
  refine r_op (t_l 4 1 rfl rfl rfl rfl (.one tyO23)) ⟨rfl, trivial⟩ ?_
  refine r_op (t_lnE (C := api_Dof.cod) (xs := a0.dofs) (T := 66) rfl tyS23 q5) ⟨rfl, trivial⟩ ?_
  refine r_as ?_
  refine r_nil (r_next (r_seq ?_))
  obtain ⟨v41, h42, hF⟩ := bnd hF
  obtain ⟨v43, h44, hF⟩ := bnd hF
  obtain ⟨v45, h46, hF⟩ := bnd hF
  refine r_draw [0, 1, 0, 4, 12, 28, 60, 127, 255, 511] 7 3 [.v (.vc (pP (some b19) 0)), .v (.vc (pO b3 n2 c4)), .v (.va (eQ v41)), .v (.va (eQ v43)), .v (.va (eQ v45)), .v (.va ((eQ v41) ++ (eQ 0) ++ [pB true] ++ (eQ v43) ++ (eQ v45))), .v (.vc (pS api_Dof.cod [(⟨v41, 0, true, v43, v45⟩ : api_Dof)]))] Tryz_mixed ⟨⟨rfl, .run (lo := 0) (n := 1) ⟨fun G39 A => t_fa (off := 0) (k := 0) rfl tyF57_0, trivial⟩ (fun G39 => ⟨rfl, trivial⟩)⟩, ⟨rfl, .run (lo := 0) (n := 1) ⟨fun G39 A => t_l 4 1 rfl rfl rfl rfl (.one tyO23), trivial⟩ (fun G39 => ⟨rfl, trivial⟩)⟩, ⟨rfl, .run (lo := 0) (n := 1) ⟨fun G39 A => t_call rfl (qc_gantryref05_Of h42) rfl, trivial⟩ (fun G39 => ⟨k_I _ _, k_I _ _, trivial⟩)⟩, ⟨rfl, .run (lo := 0) (n := 1) ⟨fun G39 A => t_call rfl (ct_gantryref15_num h44) rfl, trivial⟩ (fun G39 => ⟨k_I _ _, trivial⟩)⟩, ⟨rfl, .run (lo := 0) (n := 1) ⟨fun G39 A => t_call rfl (ct_gantryref15_num h46) rfl, trivial⟩ (fun G39 => ⟨k_I _ _, trivial⟩)⟩, ⟨rfl, .run (lo := 0) (n := 1) ⟨fun G39 A => t_bld (is := [0, 2, 3, 4]) (xs := [.tmp 15, .const (.bool true), .tmp 16, .tmp 17]) (ps := [.va (eQ v41), .vc (pB true), .va (eQ v43), .va (eQ v45)]) rfl tyB66q rfl rfl ⟨trivial, trivial, trivial, trivial, trivial⟩ rfl, trivial⟩ (fun G39 => ⟨rfl, k_B _, rfl, rfl, trivial⟩)⟩, ⟨rfl, .run (lo := 0) (n := 1) ⟨fun G39 A => t_bs (C := api_Dof.cod) (xs := [.tmp 18]) (ps := [.va ((eQ v41) ++ (eQ 0) ++ [pB true] ++ (eQ v43) ++ (eQ v45))]) (zs := [(⟨v41, 0, true, v43, v45⟩ : api_Dof)]) rfl tyS23 rfl ⟨⟨trivial, rfl⟩, trivial⟩ rfl, trivial⟩ (fun G39 => ⟨rfl, trivial⟩)⟩, trivial⟩ (fun bs40 G39 => ?_)
  obtain ⟨x47, h48, hF⟩ := bnd hF
  refine r_app 5 rfl tyS23 rfl rfl q5 rfl rfl h48 (fun b49 c50 H51 e52 => ?_)
  cases e52
  refine r_op (t_fa (off := 0) (k := 0) rfl tyF57_0) ⟨rfl, trivial⟩ ?_
  refine r_op0 (t_s 4 rfl rfl rfl tyO23.s) ⟨rfl, rfl, trivial⟩ ?_
  refine r_nil (r_next (r_seq (r_reg ?_)))
  obtain ⟨v54, h55, hF⟩ := bnd hF
  refine r_op (t_call rfl (ct_gantryref15_shape h55) rfl) ⟨k_I _ _, trivial⟩ ?_
  refine r_mv ?_
  refine r_op (t_ext2a rfl) ⟨rfl, trivial⟩ ?_
  refine r_op (t_ext2b rfl) ⟨rfl, trivial⟩ ?_
  refine r_as ?_
  refine r_as ?_
  refine r_nil (r_next (r_seq (r_reg ?_)))
  obtain ⟨v56, h57, hF⟩ := bnd hF
  refine r_op (t_call rfl (ct_gantryref15_shape h57) rfl) ⟨k_I _ _, trivial⟩ ?_
  refine r_mv ?_
  refine r_op (t_ext2a rfl) ⟨rfl, trivial⟩ ?_
  refine r_op (t_ext2b rfl) ⟨rfl, trivial⟩ ?_
  refine r_as ?_
  refine r_as ?_
  refine r_nil (r_next (r_seq ?_))
  obtain ⟨v60, h61, hF⟩ := bnd hF
  obtain ⟨v62, h63, hF⟩ := bnd hF
  obtain ⟨v64, h65, hF⟩ := bnd hF
  obtain ⟨v66, h67, hF⟩ := bnd hF
  refine r_draw [0, 1, 0, 0, 8, 0, 8, 104, 232, 0, 512, 1608, 4092, 8188, 16383, 32767, 65535] 14 3 [.v (.vc (pP (some b19) 1)), .v (.vc (pO b9 n8 c10)), .v (.vc (pS api_Point.cod v54.1)), .v (.va (eQ v60)), .v (.va ((eQ v60) ++ (eQ 0))), .v (.vc (pI .i64 (a0.dofs.length : Int))), .v (.va (eQ v62)), .v (.va ([pI .i64 (a0.dofs.length : Int)] ++ (eQ v62) ++ (eQ 0) ++ (eQ 0))), .v (.vc (pS api_Column.cod [(⟨(a0.dofs.length : Int), v62, 0, 0⟩ : api_Column)])), .v (.vc (pI .i64 a1)), .v (.vc (pI .i64 v64)), .v (.va (eQ v66)), .v (.va ([pS api_Point.cod v54.1] ++ ((eQ v60) ++ (eQ 0)) ++ [pS api_Column.cod [(⟨(a0.dofs.length : Int), v62, 0, 0⟩ : api_Column)]] ++ (eQ v66) ++ (eQ 0))), .v (.vc (pS api_Part.cod [(⟨v54.1, (⟨v60, 0⟩ : api_Vec), [(⟨(a0.dofs.length : Int), v62, 0, 0⟩ : api_Column)], v66, 0⟩ : api_Part)]))] Tryz_mixed ⟨⟨rfl, .run (lo := 0) (n := 1) ⟨fun G58 A => t_fa (off := 0) (k := 1) rfl tyF57_1, trivial⟩ (fun G58 => ⟨rfl, trivial⟩)⟩, ⟨rfl, .run (lo := 0) (n := 1) ⟨fun G58 A => t_l 4 1 rfl rfl rfl rfl (.one tyO53), trivial⟩ (fun G58 => ⟨rfl, trivial⟩)⟩, ⟨rfl, .run (lo := 0) (n := 1) ⟨fun G58 A => t_mv (.inl rfl), trivial⟩ (fun G58 => ⟨rfl, trivial⟩)⟩, ⟨rfl, .run (lo := 0) (n := 1) ⟨fun G58 A => t_call rfl (ct_gantryref15_num h61) rfl, trivial⟩ (fun G58 => ⟨k_I _ _, trivial⟩)⟩, ⟨rfl, .run (lo := 0) (n := 1) ⟨fun G58 A => t_bld (is := [0]) (xs := [.tmp 33]) (ps := [.va (eQ v60)]) rfl tyB113q rfl rfl ⟨trivial, trivial⟩ rfl, trivial⟩ (fun G58 => ⟨rfl, trivial⟩)⟩, ⟨rfl, .run (lo := 0) (n := 1) ⟨fun G58 A => t_mv (.inl rfl), trivial⟩ (fun G58 => ⟨rfl, trivial⟩)⟩, ⟨rfl, .run (lo := 0) (n := 1) ⟨fun G58 A => t_call rfl (ct_gantryref15_num h63) rfl, trivial⟩ (fun G58 => ⟨k_I _ _, trivial⟩)⟩, ⟨rfl, .run (lo := 0) (n := 1) ⟨fun G58 A => t_bld (is := [0, 1]) (xs := [.tmp 35, .tmp 36]) (ps := [.vc (pI .i64 (a0.dofs.length : Int)), .va (eQ v62)]) rfl tyB158q rfl rfl ⟨trivial, trivial, trivial⟩ rfl, trivial⟩ (fun G58 => ⟨rfl, rfl, trivial⟩)⟩, ⟨rfl, .run (lo := 0) (n := 1) ⟨fun G58 A => t_bs (C := api_Column.cod) (xs := [.tmp 37]) (ps := [.va ([pI .i64 (a0.dofs.length : Int)] ++ (eQ v62) ++ (eQ 0) ++ (eQ 0))]) (zs := [(⟨(a0.dofs.length : Int), v62, 0, 0⟩ : api_Column)]) rfl tyS114 rfl ⟨⟨trivial, rfl⟩, trivial⟩ rfl, trivial⟩ (fun G58 => ⟨rfl, trivial⟩)⟩, ⟨rfl, .run (lo := 0) (n := 1) ⟨fun G58 A => t_mv (.inl rfl), trivial⟩ (fun G58 => ⟨rfl, trivial⟩)⟩, ⟨rfl, .run (lo := 0) (n := 1) ⟨fun G58 A => t_rem rfl h65, trivial⟩ (fun G58 => ⟨rfl, k_I _ _, trivial⟩)⟩, ⟨rfl, .run (lo := 0) (n := 1) ⟨fun G58 A => t_call rfl (qc_gantryref05_Of h67) rfl, trivial⟩ (fun G58 => ⟨rfl, k_I _ _, trivial⟩)⟩, ⟨rfl, .run (lo := 0) (n := 1) ⟨fun G58 A => t_bld (is := [0, 1, 2, 3]) (xs := [.tmp 32, .tmp 34, .tmp 38, .tmp 41]) (ps := [.vc (pS api_Point.cod v54.1), .va ((eQ v60) ++ (eQ 0)), .vc (pS api_Column.cod [(⟨(a0.dofs.length : Int), v62, 0, 0⟩ : api_Column)]), .va (eQ v66)]) rfl tyB116q rfl rfl ⟨trivial, trivial, trivial, trivial, trivial⟩ rfl, trivial⟩ (fun G58 => ⟨rfl, rfl, rfl, rfl, trivial⟩)⟩, ⟨rfl, .run (lo := 0) (n := 1) ⟨fun G58 A => t_bs (C := api_Part.cod) (xs := [.tmp 42]) (ps := [.va ([pS api_Point.cod v54.1] ++ ((eQ v60) ++ (eQ 0)) ++ [pS api_Column.cod [(⟨(a0.dofs.length : Int), v62, 0, 0⟩ : api_Column)]] ++ (eQ v66) ++ (eQ 0))]) (zs := [(⟨v54.1, (⟨v60, 0⟩ : api_Vec), [(⟨(a0.dofs.length : Int), v62, 0, 0⟩ : api_Column)], v66, 0⟩ : api_Part)]) rfl tyS53 rfl ⟨⟨trivial, rfl⟩, trivial⟩ rfl, trivial⟩ (fun G58 => ⟨rfl, trivial⟩)⟩, trivial⟩ (fun bs59 G58 => ?_)
  obtain ⟨x68, h69, hF⟩ := bnd hF
  refine r_app 6 rfl tyS53 rfl rfl q11 rfl rfl h69 (fun b70 c71 H72 e73 => ?_)
  cases e73
  refine r_op (t_fa (off := 0) (k := 1) rfl tyF57_1) ⟨rfl, trivial⟩ ?_
  refine r_op0 (t_s 4 rfl rfl rfl tyO53.s) ⟨rfl, rfl, trivial⟩ ?_
  refine r_nil (r_next (r_seq ?_))
  obtain ⟨v77, h78, hF⟩ := bnd hF
  obtain ⟨v79, h80, hF⟩ := bnd hF
  obtain ⟨v81, h82, hF⟩ := bnd hF
  obtain ⟨v83, h84, hF⟩ := bnd hF
  obtain ⟨v85, h86, hF⟩ := bnd hF
  obtain ⟨v87, h88, hF⟩ := bnd hF
  obtain ⟨v89, h90, hF⟩ := bnd hF
  obtain ⟨v91, h92, hF⟩ := bnd hF
  obtain ⟨v93, h94, hF⟩ := bnd hF
  refine r_draw [0, 1, 0, 0, 8, 24, 0, 0, 128, 384, 920, 2008, 4056, 0, 8192, 26520, 0, 65536, 255896, 524284, 1048572, 2097151, 4194303, 8388607] 21 3 [.v (.vc (pP (some b19) 1)), .v (.vc (pO b70 (n8 + [(⟨v54.1, (⟨v60, 0⟩ : api_Vec), [(⟨(a0.dofs.length : Int), v62, 0, 0⟩ : api_Column)], v66, 0⟩ : api_Part)].length) c71)), .v (.vc (pS api_Point.cod v56.1)), .v (.va (eQ v77)), .v (.va (eQ v79)), .v (.va ((eQ v77) ++ (eQ v79))), .v (.vc (pI .i64 (a0.dofs.length : Int))), .v (.vc (pI .i64 a1)), .v (.vc (pI .i64 v81)), .v (.vc (pI .i64 v83)), .v (.va (eQ v85)), .v (.va ([pI .i64 (a0.dofs.length : Int)] ++ (eQ 0) ++ (eQ v85) ++ (eQ 0))), .v (.vc (pS api_Column.cod [(⟨(a0.dofs.length : Int), 0, v85, 0⟩ : api_Column)])), .v (.vc (pI .i64 a1)), .v (.vc (pI .i64 v87)), .v (.va (eQ v89)), .v (.vc (pI .i64 a1)), .v (.vc (pI .i64 v91)), .v (.va (eQ v93)), .v (.va ([pS api_Point.cod v56.1] ++ ((eQ v77) ++ (eQ v79)) ++ [pS api_Column.cod [(⟨(a0.dofs.length : Int), 0, v85, 0⟩ : api_Column)]] ++ (eQ v89) ++ (eQ v93))), .v (.vc (pS api_Part.cod [(⟨v56.1, (⟨v77, v79⟩ : api_Vec), [(⟨(a0.dofs.length : Int), 0, v85, 0⟩ : api_Column)], v89, v93⟩ : api_Part)]))] Tryz_mixed ⟨⟨rfl, .run (lo := 0) (n := 1) ⟨fun G75 A => t_fa (off := 0) (k := 1) rfl tyF57_1, trivial⟩ (fun G75 => ⟨rfl, trivial⟩)⟩, ⟨rfl, .run (lo := 0) (n := 1) ⟨fun G75 A => t_l 4 1 rfl rfl rfl rfl (.one tyO53), trivial⟩ (fun G75 => ⟨rfl, trivial⟩)⟩, ⟨rfl, .run (lo := 0) (n := 1) ⟨fun G75 A => t_mv (.inl rfl), trivial⟩ (fun G75 => ⟨rfl, trivial⟩)⟩, ⟨rfl, .run (lo := 0) (n := 1) ⟨fun G75 A => t_call rfl (ct_gantryref15_num h78) rfl, trivial⟩ (fun G75 => ⟨k_I _ _, trivial⟩)⟩, ⟨rfl, .run (lo := 0) (n := 1) ⟨fun G75 A => t_call rfl (ct_gantryref15_num h80) rfl, trivial⟩ (fun G75 => ⟨k_I _ _, trivial⟩)⟩, ⟨rfl, .run (lo := 0) (n := 1) ⟨fun G75 A => t_bld (is := [0, 1]) (xs := [.tmp 49, .tmp 50]) (ps := [.va (eQ v77), .va (eQ v79)]) rfl tyB113q rfl rfl ⟨trivial, trivial, trivial⟩ rfl, trivial⟩ (fun G75 => ⟨rfl, rfl, trivial⟩)⟩, ⟨rfl, .run (lo := 0) (n := 1) ⟨fun G75 A => t_mv (.inl rfl), trivial⟩ (fun G75 => ⟨rfl, trivial⟩)⟩, ⟨rfl, .run (lo := 0) (n := 1) ⟨fun G75 A => t_mv (.inl rfl), trivial⟩ (fun G75 => ⟨rfl, trivial⟩)⟩, ⟨rfl, .run (lo := 0) (n := 1) ⟨fun G75 A => t_rem rfl h82, trivial⟩ (fun G75 => ⟨rfl, k_I _ _, trivial⟩)⟩, ⟨rfl, .run (lo := 0) (n := 1) ⟨fun G75 A => t_add rfl h84, trivial⟩ (fun G75 => ⟨k_I _ _, rfl, trivial⟩)⟩, ⟨rfl, .run (lo := 0) (n := 1) ⟨fun G75 A => t_call rfl (qc_gantryref05_Of h86) rfl, trivial⟩ (fun G75 => ⟨rfl, k_I _ _, trivial⟩)⟩, ⟨rfl, .run (lo := 0) (n := 1) ⟨fun G75 A => t_bld (is := [0, 2]) (xs := [.tmp 52, .tmp 56]) (ps := [.vc (pI .i64 (a0.dofs.length : Int)), .va (eQ v85)]) rfl tyB158q rfl rfl ⟨trivial, trivial, trivial⟩ rfl, trivial⟩ (fun G75 => ⟨rfl, rfl, trivial⟩)⟩, ⟨rfl, .run (lo := 0) (n := 1) ⟨fun G75 A => t_bs (C := api_Column.cod) (xs := [.tmp 57]) (ps := [.va ([pI .i64 (a0.dofs.length : Int)] ++ (eQ 0) ++ (eQ v85) ++ (eQ 0))]) (zs := [(⟨(a0.dofs.length : Int), 0, v85, 0⟩ : api_Column)]) rfl tyS114 rfl ⟨⟨trivial, rfl⟩, trivial⟩ rfl, trivial⟩ (fun G75 => ⟨rfl, trivial⟩)⟩, ⟨rfl, .run (lo := 0) (n := 1) ⟨fun G75 A => t_mv (.inl rfl), trivial⟩ (fun G75 => ⟨rfl, trivial⟩)⟩, ⟨rfl, .run (lo := 0) (n := 1) ⟨fun G75 A => t_rem rfl h88, trivial⟩ (fun G75 => ⟨rfl, k_I _ _, trivial⟩)⟩, ⟨rfl, .run (lo := 0) (n := 1) ⟨fun G75 A => t_call rfl (qc_gantryref05_Of h90) rfl, trivial⟩ (fun G75 => ⟨rfl, k_I _ _, trivial⟩)⟩, ⟨rfl, .run (lo := 0) (n := 1) ⟨fun G75 A => t_mv (.inl rfl), trivial⟩ (fun G75 => ⟨rfl, trivial⟩)⟩, ⟨rfl, .run (lo := 0) (n := 1) ⟨fun G75 A => t_rem rfl h92, trivial⟩ (fun G75 => ⟨rfl, k_I _ _, trivial⟩)⟩, ⟨rfl, .run (lo := 0) (n := 1) ⟨fun G75 A => t_call rfl (qc_gantryref05_Of h94) rfl, trivial⟩ (fun G75 => ⟨rfl, k_I _ _, trivial⟩)⟩, ⟨rfl, .run (lo := 0) (n := 1) ⟨fun G75 A => t_bld (is := [0, 1, 2, 3, 4]) (xs := [.tmp 48, .tmp 51, .tmp 58, .tmp 61, .tmp 64]) (ps := [.vc (pS api_Point.cod v56.1), .va ((eQ v77) ++ (eQ v79)), .vc (pS api_Column.cod [(⟨(a0.dofs.length : Int), 0, v85, 0⟩ : api_Column)]), .va (eQ v89), .va (eQ v93)]) rfl tyB116q rfl rfl ⟨trivial, trivial, trivial, trivial, trivial, trivial⟩ rfl, trivial⟩ (fun G75 => ⟨rfl, rfl, rfl, rfl, rfl, trivial⟩)⟩, ⟨rfl, .run (lo := 0) (n := 1) ⟨fun G75 A => t_bs (C := api_Part.cod) (xs := [.tmp 65]) (ps := [.va ([pS api_Point.cod v56.1] ++ ((eQ v77) ++ (eQ v79)) ++ [pS api_Column.cod [(⟨(a0.dofs.length : Int), 0, v85, 0⟩ : api_Column)]] ++ (eQ v89) ++ (eQ v93))]) (zs := [(⟨v56.1, (⟨v77, v79⟩ : api_Vec), [(⟨(a0.dofs.length : Int), 0, v85, 0⟩ : api_Column)], v89, v93⟩ : api_Part)]) rfl tyS53 rfl ⟨⟨trivial, rfl⟩, trivial⟩ rfl, trivial⟩ (fun G75 => ⟨rfl, trivial⟩)⟩, trivial⟩ (fun bs76 G75 => ?_)
  obtain ⟨x95, h96, hF⟩ := bnd hF
  refine r_app 6 rfl tyS53 rfl rfl (apL_len h69 q11) rfl rfl h96 (fun b97 c98 H99 e100 => ?_)
  cases e100
  refine r_op (t_fa (off := 0) (k := 1) rfl tyF57_1) ⟨rfl, trivial⟩ ?_
  refine r_op0 (t_s 4 rfl rfl rfl tyO53.s) ⟨rfl, rfl, trivial⟩ ?_
  refine r_nil (r_next (r_seq (r_reg (r_op (t_l 4 4 rfl rfl rfl rfl (.agg tyA57)) ⟨rfl, trivial⟩ ?_))))
  refine r_op0 (t_s 0 rfl rfl rfl tyA57.s) ⟨rfl, rfl, trivial⟩ ?_
  refine r_nil (r_next (r_ret (r_toR ?_)))
  obtain rfl := sm1 hF
  exact r_done (.inl rfl) Tryz.results83 (rv_cell 0 4 rfl rfl rfl rfl (.agg tyA57) .nil) rfl [5, 6, 7] rfl (by decide) ⟨b49, c50, (n2 + [(⟨v41, 0, true, v43, v45⟩ : api_Dof)].length), b97, c98, ((n8 + [(⟨v54.1, (⟨v60, 0⟩ : api_Vec), [(⟨(a0.dofs.length : Int), v62, 0, 0⟩ : api_Column)], v66, 0⟩ : api_Part)].length) + [(⟨v56.1, (⟨v77, v79⟩ : api_Vec), [(⟨(a0.dofs.length : Int), 0, v85, 0⟩ : api_Column)], v89, v93⟩ : api_Part)].length), b15, c16, n14, (apL_len h48 q5), (apL_len h96 (apL_len h69 q11)), q17, rfl, rfl⟩

abbrev N_gantryref15_Model : Nat := 22
def F_gantryref15_Model_j123 (K : Nat) (v101 : Int) (x104 : List api_Dof) (x110 : List api_Part) (x116 : List api_Rope) (x122 : List (Int × Int)) : Option api_Model :=
  (chq v101 2).bind fun v124 => (chr v124 2).bind fun v126 => bif (v126 == 1) then ((rdL x110 1).bind fun v129 => (chq v101 4).bind fun v134 => (F_gantryref15_num v134).bind fun v136 => (qadd v129.home.y v136).bind fun v138 => (apL x116 [(⟨0, 1, (⟨v129.home.x, 0⟩ : api_Vec), (⟨0, 0⟩ : api_Vec), [(⟨0, 1, 1⟩ : api_Dir), (⟨3, 4, 5⟩ : api_Dir), (⟨1, 0, 1⟩ : api_Dir)], v138⟩ : api_Rope)]).bind fun x140 => bif (v101 == 7) then (bif (decide (2 < (x110.length : Int))) then (some (⟨x104, x110, x140, [((1, 2) : Int × Int)]⟩ : api_Model)) else (some (⟨x104, x110, x140, x122⟩ : api_Model))) else (some (⟨x104, x110, x140, x122⟩ : api_Model))) else (bif (v101 == 7) then (bif (decide (2 < (x110.length : Int))) then (some (⟨x104, x110, x116, [((1, 2) : Int × Int)]⟩ : api_Model)) else (some (⟨x104, x110, x116, x122⟩ : api_Model))) else (some (⟨x104, x110, x116, x122⟩ : api_Model)))
def F_gantryref15_Model_j100 (K : Nat) (a0 : List Int) (x80 : List api_Part) (x86 : List api_Rope) (x92 : List api_Dof) (x98 : List (Int × Int)) : Option api_Model :=
  (F_gantryref01_At a0 3 8).bind fun v101 => (chr v101 2).bind fun v151 => bif (v151 == 1) then (bif (decide ((x92.length : Int) < 6)) then ((F_gantryref15_train (⟨x92, x80, x86, x98⟩ : api_Model) v101).bind fun v155 => F_gantryref15_Model_j123 K v101 v155.dofs v155.parts v155.ropes v155.skip) else (F_gantryref15_Model_j123 K v101 x92 x80 x86 x98)) else (F_gantryref15_Model_j123 K v101 x92 x80 x86 x98)
def F_gantryref15_Model_j194 (K : Nat) (x58 : List api_Part) (x64 : List api_Rope) (x70 : List api_Dof) (x76 : List (Int × Int)) (x79 : Int) (v181 : Int) (v183 : (List api_Point) × Int) (v189 : Int) (recl99 : (List api_Part) → (List api_Rope) → (List api_Dof) → (List (Int × Int)) → Int → Int → Int → Option ((List api_Part) × (List api_Rope) × (List api_Dof) × (List (Int × Int)))) (x192 : Int) (x193 : Int) : Option ((List api_Part) × (List api_Rope) × (List api_Dof) × (List (Int × Int))) :=
  (chq v181 6).bind fun v195 => bif (v189 == 6) then ((F_gantryref15_block (⟨x70, x58, x64, x76⟩ : api_Model) v183.1 x192 x193 v195 (decide ((x70.length : Int) < 4))).bind fun v198 => bif (decide (0 < v183.2)) then ((chk (x193 + v183.2)).bind fun v219 => (chk (x79 + 1)).bind fun v221 => recl99 v198.parts v198.ropes v198.dofs v198.skip x192 v219 v221) else ((chk (x79 + 1)).bind fun v223 => recl99 v198.parts v198.ropes v198.dofs v198.skip x192 0 v223)) else ((F_gantryref15_block (⟨x70, x58, x64, x76⟩ : api_Model) v183.1 x192 x193 v195 false).bind fun v225 => bif (decide (0 < v183.2)) then ((chk (x193 + v183.2)).bind fun v246 => (chk (x79 + 1)).bind fun v248 => recl99 v225.parts v225.ropes v225.dofs v225.skip x192 v246 v248) else ((chk (x79 + 1)).bind fun v250 => recl99 v225.parts v225.ropes v225.dofs v225.skip x192 0 v250))
def F_gantryref15_Model_l99 (K : Nat) (a0 : List Int) (v34 : Int) : Nat → (List api_Part) → (List api_Rope) → (List api_Dof) → (List (Int × Int)) → Int → Int → Int → Option ((List api_Part) × (List api_Rope) × (List api_Dof) × (List (Int × Int)))
  | 0, _, _, _, _, _, _, _ => none
  | k + 1, x58, x64, x70, x76, x77, x78, x79 => bif (decide (x79 < v34)) then (bif (decide ((x70.length : Int) < 5)) then ((chk (2 * x79)).bind fun v177 => (chk (4 + v177)).bind fun v179 => (F_gantryref01_At a0 v179 432).bind fun v181 => (F_gantryref15_shape v181).bind fun v183 => (chk (2 * x79)).bind fun v185 => (chk (5 + v185)).bind fun v187 => (F_gantryref01_At a0 v187 7).bind fun v189 => bif (decide (0 < x78)) then (bif (decide (v189 < 3)) then (F_gantryref15_Model_j194 K x58 x64 x70 x76 x79 v181 v183 v189 (F_gantryref15_Model_l99 K a0 v34 k) x77 x78) else ((chk (x77 + 10)).bind fun v254 => bif (decide (4 < v189)) then ((chr v181 4).bind fun v257 => (chk (1 + v257)).bind fun v259 => F_gantryref15_Model_j194 K x58 x64 x70 x76 x79 v181 v183 v189 (F_gantryref15_Model_l99 K a0 v34 k) v254 v259) else (F_gantryref15_Model_j194 K x58 x64 x70 x76 x79 v181 v183 v189 (F_gantryref15_Model_l99 K a0 v34 k) v254 0))) else ((chk (x77 + 10)).bind fun v261 => bif (decide (4 < v189)) then ((chr v181 4).bind fun v264 => (chk (1 + v264)).bind fun v266 => F_gantryref15_Model_j194 K x58 x64 x70 x76 x79 v181 v183 v189 (F_gantryref15_Model_l99 K a0 v34 k) v261 v266) else (F_gantryref15_Model_j194 K x58 x64 x70 x76 x79 v181 v183 v189 (F_gantryref15_Model_l99 K a0 v34 k) v261 0))) else (some (x58, x64, x70, x76))) else (some (x58, x64, x70, x76))
def F_gantryref15_Model (K : Nat) (a0 : List Int) : Option api_Model :=
  (F_gantryref01_At a0 0 4).bind fun v21 => (qof v21 2).bind fun v23 => (F_gantryref01_At a0 1 3).bind fun v25 => (qof v25 2).bind fun v27 => (F_gantryref01_At a0 2 3).bind fun v32 => (chk (1 + v32)).bind fun v34 => (F_gantryref15_Model_l99 K a0 v34 K [(⟨[(⟨(-40), (-4)⟩ : api_Point), (⟨60, (-4)⟩ : api_Point), (⟨60, 0⟩ : api_Point), (⟨(-40), 0⟩ : api_Point)], (⟨0, 0⟩ : api_Vec), ([] : List api_Column), v23, v27⟩ : api_Part)] ([] : List api_Rope) ([] : List api_Dof) ([] : List (Int × Int)) (-18) 0 0).bind fun (x80, x86, x92, x98) => F_gantryref15_Model_j100 K a0 x80 x86 x92 x98
set_option maxRecDepth 100000 in
theorem ct_gantryref15_Model {K : Nat} {a0 : List Int} {r : api_Model} (hF : F_gantryref15_Model K a0 = some r) : Ct Tryz.prog 22 [.vc (pS cI a0)] (.va (api_Model.enc r)) := by
  unfold F_gantryref15_Model at hF
  refine ctO_intro Tryz.func22 rfl (by kernel_rfl) Tryz.ntmps22 rfl (fun w0 M0 => ?_)
  refine r_seq (r_reg (r_alloc rfl tyZ57q (fun b1 => ?_)))
  refine r_nil (r_next (r_seq (r_reg (r_newL api_Dof.cod 66 ?_))))
  refine r_newL api_Part.cod 116 ?_
  refine r_newL api_Rope.cod 125 ?_
  refine r_alloc rfl tyZ57_o0_o1_o2q (fun b20 => ?_)
  refine r_nil (r_next (r_seq (r_reg (r_op (t_bld (is := [0, 1]) (xs := [.const (.int .i64 (-40)), .const (.int .i64 (-4))]) (ps := [.vc (pI .i64 (-40)), .vc (pI .i64 (-4))]) rfl tyB110q rfl rfl ⟨trivial, trivial, trivial⟩ rfl) ⟨k_I _ _, k_I _ _, trivial⟩ ?_))))
  refine r_op (t_bld (is := [0, 1]) (xs := [.const (.int .i64 (60)), .const (.int .i64 (-4))]) (ps := [.vc (pI .i64 60), .vc (pI .i64 (-4))]) rfl tyB110q rfl rfl ⟨trivial, trivial, trivial⟩ rfl) ⟨k_I _ _, k_I _ _, trivial⟩ ?_
  refine r_op (t_bld (is := [0]) (xs := [.const (.int .i64 (60))]) (ps := [.vc (pI .i64 60)]) rfl tyB110q rfl rfl ⟨trivial, trivial⟩ rfl) ⟨k_I _ _, trivial⟩ ?_
  refine r_op (t_bld (is := [0]) (xs := [.const (.int .i64 (-40))]) (ps := [.vc (pI .i64 (-40))]) rfl tyB110q rfl rfl ⟨trivial, trivial⟩ rfl) ⟨k_I _ _, trivial⟩ ?_
  refine r_op (t_bs (C := api_Point.cod) (xs := [.tmp 16, .tmp 17, .tmp 18, .tmp 19]) (ps := [.va ([pI .i64 (-40)] ++ [pI .i64 (-4)]), .va ([pI .i64 60] ++ [pI .i64 (-4)]), .va ([pI .i64 60] ++ [pI .i64 0]), .va ([pI .i64 (-40)] ++ [pI .i64 0])]) (zs := [(⟨(-40), (-4)⟩ : api_Point), (⟨60, (-4)⟩ : api_Point), (⟨60, 0⟩ : api_Point), (⟨(-40), 0⟩ : api_Point)]) rfl tyS111 rfl ⟨⟨trivial, rfl⟩, ⟨trivial, rfl⟩, ⟨trivial, rfl⟩, ⟨trivial, rfl⟩, trivial⟩ rfl) ⟨rfl, rfl, rfl, rfl, trivial⟩ ?_
  refine r_as ?_
  refine r_nil (r_next (r_seq (r_reg (r_mv ?_))))
  refine r_mv ?_
  obtain ⟨v21, h22, hF⟩ := bnd hF
  refine r_op (t_call rfl (ct_gantryref01_At h22) rfl) ⟨rfl, k_I _ _, k_I _ _, trivial⟩ ?_
  obtain ⟨v23, h24, hF⟩ := bnd hF
  refine r_op (t_call rfl (qc_gantryref05_Of h24) rfl) ⟨rfl, k_I _ _, trivial⟩ ?_
  refine r_mv ?_
  obtain ⟨v25, h26, hF⟩ := bnd hF
  refine r_op (t_call rfl (ct_gantryref01_At h26) rfl) ⟨rfl, k_I _ _, k_I _ _, trivial⟩ ?_
  obtain ⟨v27, h28, hF⟩ := bnd hF
  refine r_op (t_call rfl (qc_gantryref05_Of h28) rfl) ⟨rfl, k_I _ _, trivial⟩ ?_
  refine r_op (t_bld (is := [0, 3, 4]) (xs := [.tmp 21, .tmp 24, .tmp 27]) (ps := [.vc (pS api_Point.cod [(⟨(-40), (-4)⟩ : api_Point), (⟨60, (-4)⟩ : api_Point), (⟨60, 0⟩ : api_Point), (⟨(-40), 0⟩ : api_Point)]), .va (eQ v23), .va (eQ v27)]) rfl tyB116q rfl rfl ⟨trivial, trivial, trivial, trivial⟩ rfl) ⟨rfl, rfl, rfl, trivial⟩ ?_
  refine r_hv (hv_bs (C := api_Part.cod) (xs := [.tmp 28]) (ps := [.va ([pS api_Point.cod [(⟨(-40), (-4)⟩ : api_Point), (⟨60, (-4)⟩ : api_Point), (⟨60, 0⟩ : api_Point), (⟨(-40), 0⟩ : api_Point)]] ++ ((eQ 0) ++ (eQ 0)) ++ [pS api_Column.cod ([] : List api_Column)] ++ (eQ v23) ++ (eQ v27))]) (zs := [(⟨[(⟨(-40), (-4)⟩ : api_Point), (⟨60, (-4)⟩ : api_Point), (⟨60, 0⟩ : api_Point), (⟨(-40), 0⟩ : api_Point)], (⟨0, 0⟩ : api_Vec), ([] : List api_Column), v23, v27⟩ : api_Part)]) rfl tyS53 rfl ⟨⟨trivial, rfl⟩, trivial⟩ rfl) ⟨rfl, trivial⟩ (fun b29 _ => ?_)
  refine r_op (t_fa (off := 0) (k := 1) rfl tyF57_1) ⟨rfl, trivial⟩ ?_
  refine r_op0 (t_s 1 rfl rfl rfl tyO53.s) ⟨rfl, rfl, trivial⟩ ?_
  refine r_nil (r_next (r_seq (r_reg (r_mv ?_))))
  obtain ⟨v32, h33, hF⟩ := bnd hF
  refine r_op (t_call rfl (ct_gantryref01_At h33) rfl) ⟨rfl, k_I _ _, k_I _ _, trivial⟩ ?_
  obtain ⟨v34, h35, hF⟩ := bnd hF
  refine r_op (t_add rfl h35) ⟨k_I _ _, rfl, trivial⟩ ?_
  refine r_as ?_
  refine r_nil (r_next (r_seq (r_reg (r_op (t_mv (.inr rfl)) ⟨k_I _ _, trivial⟩ ?_))))
  refine r_nil (r_next (r_seq (r_reg (r_op (t_mv (.inr rfl)) ⟨k_I _ _, trivial⟩ ?_))))
  refine r_nil (r_next (r_seq (r_reg (r_op (t_mv (.inr rfl)) ⟨k_I _ _, trivial⟩ ?_))))
  refine r_nil (r_next (r_seq (r_seq (r_reg (r_op (t_mv (.inr rfl)) ⟨k_I _ _, trivial⟩ ?_)))))
  refine r_nil (r_next (r_blk (r_cutN (fun H E => ∃ (x80 : List api_Part), ∃ (x86 : List api_Rope), ∃ (x92 : List api_Dof), ∃ (x98 : List (Int × Int)), ∃ (b81 : Option Nat), ∃ (c82 : Nat), ∃ (n83 : Nat), ∃ (b87 : Option Nat), ∃ (c88 : Nat), ∃ (n89 : Nat), ∃ (b93 : Option Nat), ∃ (c94 : Nat), ∃ (n95 : Nat), F_gantryref15_Model_j100 K a0 x80 x86 x92 x98 = some r ∧ x80.length = n83 ∧ x86.length = n89 ∧ x92.length = n95 ∧ H = [hO api_Part.cod b81 c82 116 n83 x80, ⟨some b20, 1, 57, 4, 1, ([pO b93 n95 c94] ++ [pO b81 n83 c82] ++ [pO b87 n89 c88] ++ [pS cA2 x98])⟩, hO api_Rope.cod b87 c88 125 n89 x86, hO api_Dof.cod b93 c94 66 n95 x92, ⟨some b1, 1, 57, 4, 1, ([pS api_Dof.cod ([] : List api_Dof)] ++ [pS api_Part.cod ([] : List api_Part)] ++ [pS api_Rope.cod ([] : List api_Rope)] ++ [pS cA2 ([] : List (Int × Int))])⟩] ∧ E = [(0, .vc (pS cI a0)), (2, .vc (pP (some b1) 0)), (3, .vc (pP (some b20) 0))]) ?_ (fun Jj100 => ?_))))
  · rintro _ _ ⟨x80, x86, x92, x98, b81, c82, n83, b87, c88, n89, b93, c94, n95, hF, q84, q90, q96, rfl, rfl⟩
    unfold F_gantryref15_Model_j100 at hF
    refine r_next (r_seq (r_reg (r_mv ?_)))
    obtain ⟨v101, h102, hF⟩ := bnd hF
    refine r_op (t_call rfl (ct_gantryref01_At h102) rfl) ⟨rfl, k_I _ _, k_I _ _, trivial⟩ ?_
    refine r_as ?_
    refine r_nil (r_next (r_seq (r_cutS (fun H E => ∃ (x104 : List api_Dof), ∃ (x110 : List api_Part), ∃ (x116 : List api_Rope), ∃ (x122 : List (Int × Int)), ∃ (b105 : Option Nat), ∃ (c106 : Nat), ∃ (n107 : Nat), ∃ (b111 : Option Nat), ∃ (c112 : Nat), ∃ (n113 : Nat), ∃ (b117 : Option Nat), ∃ (c118 : Nat), ∃ (n119 : Nat), F_gantryref15_Model_j123 K v101 x104 x110 x116 x122 = some r ∧ x104.length = n107 ∧ x110.length = n113 ∧ x116.length = n119 ∧ H = [hO api_Dof.cod b105 c106 66 n107 x104, hO api_Part.cod b111 c112 116 n113 x110, hO api_Rope.cod b117 c118 125 n119 x116, ⟨some b20, 1, 57, 4, 1, ([pO b105 n107 c106] ++ [pO b111 n113 c112] ++ [pO b117 n119 c118] ++ [pS cA2 x122])⟩, ⟨some b1, 1, 57, 4, 1, ([pS api_Dof.cod ([] : List api_Dof)] ++ [pS api_Part.cod ([] : List api_Part)] ++ [pS api_Rope.cod ([] : List api_Rope)] ++ [pS cA2 ([] : List (Int × Int))])⟩] ∧ E = [(2, .vc (pP (some b1) 0)), (3, .vc (pP (some b20) 0)), (14, .vc (pI .i64 v101))]) ?_ (fun Jj123 => ?_))))
    · rintro _ _ ⟨x104, x110, x116, x122, b105, c106, n107, b111, c112, n113, b117, c118, n119, hF, q108, q114, q120, rfl, rfl⟩
      unfold F_gantryref15_Model_j123 at hF
      refine r_seq (r_seq (r_reg (r_mv ?_)))
      obtain ⟨v124, h125, hF⟩ := bnd hF
      refine r_op (t_quo rfl h125) ⟨rfl, k_I _ _, trivial⟩ ?_
      obtain ⟨v126, h127, hF⟩ := bnd hF
      refine r_op (t_rem rfl h127) ⟨rfl, k_I _ _, trivial⟩ ?_
      refine r_op (t_eq rfl) ⟨rfl, k_I _ _, trivial⟩ ?_
      refine r_nil (r_next (r_if rfl (fun h128 => ?_) (fun h128 => ?_)))
      · have hF := cnd_t h128 hF
        refine r_seq (r_reg (r_op (t_fa (off := 0) (k := 1) rfl tyF57_1) ⟨rfl, trivial⟩ ?_))
        refine r_op (t_l 3 1 rfl rfl rfl rfl (.one tyO53)) ⟨rfl, trivial⟩ ?_
        obtain ⟨v129, h130, hF⟩ := bnd hF
        refine r_op (t_ixE (C := api_Part.cod) 1 rfl tyS53 rfl q114 (rdL_some h130).1 (rdL_some h130).2.1) ⟨rfl, k_I _ _, trivial⟩ ?_
        refine r_op (t_ldE (k := 18) 1 rfl rfl h130 rfl (.agg tyA116) rfl) ⟨rfl, trivial⟩ ?_
        refine r_alloc rfl tyZ116q (fun b131 => ?_)
        refine r_op0 (t_s 0 rfl rfl rfl tyA116.s) ⟨rfl, rfl, trivial⟩ ?_
        refine r_nil (r_next ?_)
        obtain ⟨v134, h135, hF⟩ := bnd hF
        obtain ⟨v136, h137, hF⟩ := bnd hF
        obtain ⟨v138, h139, hF⟩ := bnd hF
        refine r_draw [0, 1, 0, 4, 12, 28, 0, 0, 0, 448, 0, 1024, 3072, 0, 8192, 24576, 64512, 131068, 262140, 524287, 1048575, 2097151] 19 3 [.v (.vc (pP (some b20) 2)), .v (.vc (pO b117 n119 c118)), .v (.vc (pP (some b131) 1)), .v (.vc (pP (some b131) 1)), .v (.va (eQ v129.home.x)), .v (.va ((eQ v129.home.x) ++ (eQ 0))), .v (.va ([pI .i64 0] ++ [pI .i64 1] ++ [pI .i64 1])), .v (.va ([pI .i64 3] ++ [pI .i64 4] ++ [pI .i64 5])), .v (.va ([pI .i64 1] ++ [pI .i64 0] ++ [pI .i64 1])), .v (.vc (pS api_Dir.cod [(⟨0, 1, 1⟩ : api_Dir), (⟨3, 4, 5⟩ : api_Dir), (⟨1, 0, 1⟩ : api_Dir)])), .v (.vc (pP (some b131) 1)), .v (.vc (pP (some b131) 5)), .v (.va (eQ v129.home.y)), .v (.vc (pI .i64 v101)), .v (.vc (pI .i64 v134)), .v (.va (eQ v136)), .v (.va (eQ v138)), .v (.va ([pI .i64 0] ++ [pI .i64 1] ++ ((eQ v129.home.x) ++ (eQ 0)) ++ ((eQ 0) ++ (eQ 0)) ++ [pS api_Dir.cod [(⟨0, 1, 1⟩ : api_Dir), (⟨3, 4, 5⟩ : api_Dir), (⟨1, 0, 1⟩ : api_Dir)]] ++ (eQ v138))), .v (.vc (pS api_Rope.cod [(⟨0, 1, (⟨v129.home.x, 0⟩ : api_Vec), (⟨0, 0⟩ : api_Vec), [(⟨0, 1, 1⟩ : api_Dir), (⟨3, 4, 5⟩ : api_Dir), (⟨1, 0, 1⟩ : api_Dir)], v138⟩ : api_Rope)]))] Tryz_mixed ⟨⟨rfl, .run (lo := 0) (n := 1) ⟨fun G132 A => t_fa (off := 0) (k := 2) rfl tyF57_2, trivial⟩ (fun G132 => ⟨rfl, trivial⟩)⟩, ⟨rfl, .run (lo := 0) (n := 1) ⟨fun G132 A => t_l 4 1 rfl rfl rfl rfl (.one tyO54), trivial⟩ (fun G132 => ⟨rfl, trivial⟩)⟩, ⟨rfl, .run (lo := 0) (n := 1) ⟨fun G132 A => t_fa (off := 0) (k := 1) rfl tyF116_1, trivial⟩ (fun G132 => ⟨rfl, trivial⟩)⟩, ⟨rfl, .run (lo := 0) (n := 1) ⟨fun G132 A => t_fa (off := 1) (k := 0) rfl tyF113_0, trivial⟩ (fun G132 => ⟨rfl, trivial⟩)⟩, ⟨rfl, .run (lo := 0) (n := 1) ⟨fun G132 A => t_l 0 4 rfl rfl rfl rfl (.agg tyA35), trivial⟩ (fun G132 => ⟨rfl, trivial⟩)⟩, ⟨rfl, .run (lo := 0) (n := 1) ⟨fun G132 A => t_bld (is := [0]) (xs := [.tmp 120]) (ps := [.va (eQ v129.home.x)]) rfl tyB113q rfl rfl ⟨trivial, trivial⟩ rfl, trivial⟩ (fun G132 => ⟨rfl, trivial⟩)⟩, ⟨rfl, .run (lo := 0) (n := 1) ⟨fun G132 A => t_bld (is := [1, 2]) (xs := [.const (.int .i64 (1)), .const (.int .i64 (1))]) (ps := [.vc (pI .i64 1), .vc (pI .i64 1)]) rfl tyB122q rfl rfl ⟨trivial, trivial, trivial⟩ rfl, trivial⟩ (fun G132 => ⟨k_I _ _, k_I _ _, trivial⟩)⟩, ⟨rfl, .run (lo := 0) (n := 1) ⟨fun G132 A => t_bld (is := [0, 1, 2]) (xs := [.const (.int .i64 (3)), .const (.int .i64 (4)), .const (.int .i64 (5))]) (ps := [.vc (pI .i64 3), .vc (pI .i64 4), .vc (pI .i64 5)]) rfl tyB122q rfl rfl ⟨trivial, trivial, trivial, trivial⟩ rfl, trivial⟩ (fun G132 => ⟨k_I _ _, k_I _ _, k_I _ _, trivial⟩)⟩, ⟨rfl, .run (lo := 0) (n := 1) ⟨fun G132 A => t_bld (is := [0, 2]) (xs := [.const (.int .i64 (1)), .const (.int .i64 (1))]) (ps := [.vc (pI .i64 1), .vc (pI .i64 1)]) rfl tyB122q rfl rfl ⟨trivial, trivial, trivial⟩ rfl, trivial⟩ (fun G132 => ⟨k_I _ _, k_I _ _, trivial⟩)⟩, ⟨rfl, .run (lo := 0) (n := 1) ⟨fun G132 A => t_bs (C := api_Dir.cod) (xs := [.tmp 122, .tmp 123, .tmp 124]) (ps := [.va ([pI .i64 0] ++ [pI .i64 1] ++ [pI .i64 1]), .va ([pI .i64 3] ++ [pI .i64 4] ++ [pI .i64 5]), .va ([pI .i64 1] ++ [pI .i64 0] ++ [pI .i64 1])]) (zs := [(⟨0, 1, 1⟩ : api_Dir), (⟨3, 4, 5⟩ : api_Dir), (⟨1, 0, 1⟩ : api_Dir)]) rfl tyS123 rfl ⟨⟨trivial, rfl⟩, ⟨trivial, rfl⟩, ⟨trivial, rfl⟩, trivial⟩ rfl, trivial⟩ (fun G132 => ⟨rfl, rfl, rfl, trivial⟩)⟩, ⟨rfl, .run (lo := 0) (n := 1) ⟨fun G132 A => t_fa (off := 0) (k := 1) rfl tyF116_1, trivial⟩ (fun G132 => ⟨rfl, trivial⟩)⟩, ⟨rfl, .run (lo := 0) (n := 1) ⟨fun G132 A => t_fa (off := 1) (k := 4) rfl tyF113_1, trivial⟩ (fun G132 => ⟨rfl, trivial⟩)⟩, ⟨rfl, .run (lo := 0) (n := 1) ⟨fun G132 A => t_l 0 4 rfl rfl rfl rfl (.agg tyA35), trivial⟩ (fun G132 => ⟨rfl, trivial⟩)⟩, ⟨rfl, .run (lo := 0) (n := 1) ⟨fun G132 A => t_mv (.inl rfl), trivial⟩ (fun G132 => ⟨rfl, trivial⟩)⟩, ⟨rfl, .run (lo := 0) (n := 1) ⟨fun G132 A => t_quo rfl h135, trivial⟩ (fun G132 => ⟨rfl, k_I _ _, trivial⟩)⟩, ⟨rfl, .run (lo := 0) (n := 1) ⟨fun G132 A => t_call rfl (ct_gantryref15_num h137) rfl, trivial⟩ (fun G132 => ⟨rfl, trivial⟩)⟩, ⟨rfl, .run (lo := 0) (n := 1) ⟨fun G132 A => t_call rfl (qc_gantryref05_Add h139) rfl, trivial⟩ (fun G132 => ⟨rfl, rfl, trivial⟩)⟩, ⟨rfl, .run (lo := 0) (n := 1) ⟨fun G132 A => t_bld (is := [0, 1, 2, 4, 5]) (xs := [.const (.int .i64 (0)), .const (.int .i64 (1)), .tmp 121, .tmp 125, .tmp 132]) (ps := [.vc (pI .i64 0), .vc (pI .i64 1), .va ((eQ v129.home.x) ++ (eQ 0)), .vc (pS api_Dir.cod [(⟨0, 1, 1⟩ : api_Dir), (⟨3, 4, 5⟩ : api_Dir), (⟨1, 0, 1⟩ : api_Dir)]), .va (eQ v138)]) rfl tyB125q rfl rfl ⟨trivial, trivial, trivial, trivial, trivial, trivial⟩ rfl, trivial⟩ (fun G132 => ⟨k_I _ _, k_I _ _, rfl, rfl, rfl, trivial⟩)⟩, ⟨rfl, .run (lo := 0) (n := 1) ⟨fun G132 A => t_bs (C := api_Rope.cod) (xs := [.tmp 133]) (ps := [.va ([pI .i64 0] ++ [pI .i64 1] ++ ((eQ v129.home.x) ++ (eQ 0)) ++ ((eQ 0) ++ (eQ 0)) ++ [pS api_Dir.cod [(⟨0, 1, 1⟩ : api_Dir), (⟨3, 4, 5⟩ : api_Dir), (⟨1, 0, 1⟩ : api_Dir)]] ++ (eQ v138))]) (zs := [(⟨0, 1, (⟨v129.home.x, 0⟩ : api_Vec), (⟨0, 0⟩ : api_Vec), [(⟨0, 1, 1⟩ : api_Dir), (⟨3, 4, 5⟩ : api_Dir), (⟨1, 0, 1⟩ : api_Dir)], v138⟩ : api_Rope)]) rfl tyS54 rfl ⟨⟨trivial, rfl⟩, trivial⟩ rfl, trivial⟩ (fun G132 => ⟨rfl, trivial⟩)⟩, trivial⟩ (fun bs133 G132 => ?_)
        obtain ⟨x140, h141, hF⟩ := bnd hF
        refine r_app 3 rfl tyS54 rfl rfl q120 rfl rfl h141 (fun b142 c143 H144 e145 => ?_)
        cases e145
        refine r_op (t_fa (off := 0) (k := 2) rfl tyF57_2) ⟨rfl, trivial⟩ ?_
        refine r_op0 (t_s 4 rfl rfl rfl tyO54.s) ⟨rfl, rfl, trivial⟩ ?_
        refine r_nil (r_next (r_seq (r_seq (r_reg (r_mv ?_)))))
        refine r_op (t_eq rfl) ⟨rfl, k_I _ _, trivial⟩ ?_
        refine r_mv ?_
        refine r_bool (fun h147 => ?_) (fun h147 => ?_)
        · have hF := cnd_t h147 hF
          refine r_opg (t_fa (off := 0) (k := 1) rfl tyF57_1) ⟨rfl, trivial⟩ ?_
          refine r_opg (t_l 4 1 rfl rfl rfl rfl (.one tyO53)) ⟨rfl, trivial⟩ ?_
          refine r_opg (t_lnE (C := api_Part.cod) (xs := x110) (T := 116) rfl tyS53 q114) ⟨rfl, trivial⟩ ?_
          refine r_opg (t_gt rfl) ⟨rfl, k_I _ _, trivial⟩ ?_
          refine r_op (t_pickT rfl) ⟨rfl, rfl, trivial⟩ ?_
          refine r_nil (r_next (r_if rfl (fun h148 => ?_) (fun h148 => ?_)))
          · have hF := cnd_t h148 hF
            refine r_reg (r_op (t_bld (is := [0, 1]) (xs := [.const (.int .i64 (1)), .const (.int .i64 (2))]) (ps := [.vc (pI .i64 1), .vc (pI .i64 2)]) (qs := a2I (1, 2)) rfl tyB126q rfl rfl ⟨trivial, trivial, trivial⟩ rfl) ⟨k_I _ _, k_I _ _, trivial⟩ ?_)
            refine r_op (t_bs (C := cA2) (xs := [.tmp 145]) (ps := [.va (a2I ((1, 2) : Int × Int))]) (zs := [((1, 2) : Int × Int)]) rfl tyS55 rfl ⟨⟨trivial, rfl⟩, trivial⟩ rfl) ⟨rfl, trivial⟩ ?_
            refine r_op (t_fa (off := 0) (k := 3) rfl tyF57_3) ⟨rfl, trivial⟩ ?_
            refine r_op0 (t_s 4 rfl rfl rfl tyO55.s) ⟨rfl, rfl, trivial⟩ ?_
            refine r_nil (r_next (r_seq (r_reg (r_fbL 1 4 0 rfl q108 rfl rfl rfl rfl rfl ?_))))
            refine r_fbL 1 3 1 rfl q114 rfl rfl rfl rfl rfl ?_
            refine r_fbL 1 2 2 rfl (apL_len h141 q120) rfl rfl rfl rfl rfl ?_
            refine r_op (t_l 1 4 rfl rfl rfl rfl (.agg tyA57)) ⟨rfl, trivial⟩ ?_
            refine r_op0 (t_s 2 rfl rfl rfl tyA57.s) ⟨rfl, rfl, trivial⟩ ?_
            refine r_nil (r_next (r_ret (r_toR ?_)))
            obtain rfl := sm1 hF
            exact r_done1 (.inl rfl) Tryz.results22 (rv_cell 2 4 rfl rfl rfl rfl (.agg tyA57) .nil) rfl rfl
          · have hF := cnd_f h148 hF
            refine r_skip (r_next (r_seq (r_reg (r_fbL 1 4 0 rfl q108 rfl rfl rfl rfl rfl ?_))))
            refine r_fbL 1 3 1 rfl q114 rfl rfl rfl rfl rfl ?_
            refine r_fbL 1 2 2 rfl (apL_len h141 q120) rfl rfl rfl rfl rfl ?_
            refine r_op (t_l 1 4 rfl rfl rfl rfl (.agg tyA57)) ⟨rfl, trivial⟩ ?_
            refine r_op0 (t_s 2 rfl rfl rfl tyA57.s) ⟨rfl, rfl, trivial⟩ ?_
            refine r_nil (r_next (r_ret (r_toR ?_)))
            obtain rfl := sm1 hF
            exact r_done1 (.inl rfl) Tryz.results22 (rv_cell 2 4 rfl rfl rfl rfl (.agg tyA57) .nil) rfl rfl
        · have hF := cnd_f h147 hF
          refine r_opn ?_
          refine r_opn ?_
          refine r_opn ?_
          refine r_opn ?_
          refine r_op (t_pickF rfl) ⟨rfl, k_B _, trivial⟩ ?_
          refine r_nil (r_next (r_ifF rfl ?_))
          refine r_skip (r_next (r_seq (r_reg (r_fbL 1 4 0 rfl q108 rfl rfl rfl rfl rfl ?_))))
          refine r_fbL 1 3 1 rfl q114 rfl rfl rfl rfl rfl ?_
          refine r_fbL 1 2 2 rfl (apL_len h141 q120) rfl rfl rfl rfl rfl ?_
          refine r_op (t_l 1 4 rfl rfl rfl rfl (.agg tyA57)) ⟨rfl, trivial⟩ ?_
          refine r_op0 (t_s 2 rfl rfl rfl tyA57.s) ⟨rfl, rfl, trivial⟩ ?_
          refine r_nil (r_next (r_ret (r_toR ?_)))
          obtain rfl := sm1 hF
          exact r_done1 (.inl rfl) Tryz.results22 (rv_cell 2 4 rfl rfl rfl rfl (.agg tyA57) .nil) rfl rfl
      · have hF := cnd_f h128 hF
        refine r_skip (r_next (r_seq (r_seq (r_reg (r_mv ?_)))))
        refine r_op (t_eq rfl) ⟨rfl, k_I _ _, trivial⟩ ?_
        refine r_mv ?_
        refine r_bool (fun h149 => ?_) (fun h149 => ?_)
        · have hF := cnd_t h149 hF
          refine r_opg (t_fa (off := 0) (k := 1) rfl tyF57_1) ⟨rfl, trivial⟩ ?_
          refine r_opg (t_l 3 1 rfl rfl rfl rfl (.one tyO53)) ⟨rfl, trivial⟩ ?_
          refine r_opg (t_lnE (C := api_Part.cod) (xs := x110) (T := 116) rfl tyS53 q114) ⟨rfl, trivial⟩ ?_
          refine r_opg (t_gt rfl) ⟨rfl, k_I _ _, trivial⟩ ?_
          refine r_op (t_pickT rfl) ⟨rfl, rfl, trivial⟩ ?_
          refine r_nil (r_next (r_if rfl (fun h150 => ?_) (fun h150 => ?_)))
          · have hF := cnd_t h150 hF
            refine r_reg (r_op (t_bld (is := [0, 1]) (xs := [.const (.int .i64 (1)), .const (.int .i64 (2))]) (ps := [.vc (pI .i64 1), .vc (pI .i64 2)]) (qs := a2I (1, 2)) rfl tyB126q rfl rfl ⟨trivial, trivial, trivial⟩ rfl) ⟨k_I _ _, k_I _ _, trivial⟩ ?_)
            refine r_op (t_bs (C := cA2) (xs := [.tmp 145]) (ps := [.va (a2I ((1, 2) : Int × Int))]) (zs := [((1, 2) : Int × Int)]) rfl tyS55 rfl ⟨⟨trivial, rfl⟩, trivial⟩ rfl) ⟨rfl, trivial⟩ ?_
            refine r_op (t_fa (off := 0) (k := 3) rfl tyF57_3) ⟨rfl, trivial⟩ ?_
            refine r_op0 (t_s 3 rfl rfl rfl tyO55.s) ⟨rfl, rfl, trivial⟩ ?_
            refine r_nil (r_next (r_seq (r_reg (r_fbL 0 3 0 rfl q108 rfl rfl rfl rfl rfl ?_))))
            refine r_fbL 0 2 1 rfl q114 rfl rfl rfl rfl rfl ?_
            refine r_fbL 0 1 2 rfl q120 rfl rfl rfl rfl rfl ?_
            refine r_op (t_l 0 4 rfl rfl rfl rfl (.agg tyA57)) ⟨rfl, trivial⟩ ?_
            refine r_op0 (t_s 1 rfl rfl rfl tyA57.s) ⟨rfl, rfl, trivial⟩ ?_
            refine r_nil (r_next (r_ret (r_toR ?_)))
            obtain rfl := sm1 hF
            exact r_done1 (.inl rfl) Tryz.results22 (rv_cell 1 4 rfl rfl rfl rfl (.agg tyA57) .nil) rfl rfl
          · have hF := cnd_f h150 hF
            refine r_skip (r_next (r_seq (r_reg (r_fbL 0 3 0 rfl q108 rfl rfl rfl rfl rfl ?_))))
            refine r_fbL 0 2 1 rfl q114 rfl rfl rfl rfl rfl ?_
            refine r_fbL 0 1 2 rfl q120 rfl rfl rfl rfl rfl ?_
            refine r_op (t_l 0 4 rfl rfl rfl rfl (.agg tyA57)) ⟨rfl, trivial⟩ ?_
            refine r_op0 (t_s 1 rfl rfl rfl tyA57.s) ⟨rfl, rfl, trivial⟩ ?_
            refine r_nil (r_next (r_ret (r_toR ?_)))
            obtain rfl := sm1 hF
            exact r_done1 (.inl rfl) Tryz.results22 (rv_cell 1 4 rfl rfl rfl rfl (.agg tyA57) .nil) rfl rfl
        · have hF := cnd_f h149 hF
          refine r_opn ?_
          refine r_opn ?_
          refine r_opn ?_
          refine r_opn ?_
          refine r_op (t_pickF rfl) ⟨rfl, k_B _, trivial⟩ ?_
          refine r_nil (r_next (r_ifF rfl ?_))
          refine r_skip (r_next (r_seq (r_reg (r_fbL 0 3 0 rfl q108 rfl rfl rfl rfl rfl ?_))))
          refine r_fbL 0 2 1 rfl q114 rfl rfl rfl rfl rfl ?_
          refine r_fbL 0 1 2 rfl q120 rfl rfl rfl rfl rfl ?_
          refine r_op (t_l 0 4 rfl rfl rfl rfl (.agg tyA57)) ⟨rfl, trivial⟩ ?_
          refine r_op0 (t_s 1 rfl rfl rfl tyA57.s) ⟨rfl, rfl, trivial⟩ ?_
          refine r_nil (r_next (r_ret (r_toR ?_)))
          obtain rfl := sm1 hF
          exact r_done1 (.inl rfl) Tryz.results22 (rv_cell 1 4 rfl rfl rfl rfl (.agg tyA57) .nil) rfl rfl
    · skip
      refine r_seq (r_reg (r_mv ?_))
      obtain ⟨v151, h152, hF⟩ := bnd hF
      refine r_op (t_rem rfl h152) ⟨rfl, k_I _ _, trivial⟩ ?_
      refine r_op (t_eq rfl) ⟨rfl, k_I _ _, trivial⟩ ?_
      refine r_mv ?_
      refine r_bool (fun h153 => ?_) (fun h153 => ?_)
      · have hF := cnd_t h153 hF
        refine r_opg (t_fa (off := 0) (k := 0) rfl tyF57_0) ⟨rfl, trivial⟩ ?_
        refine r_opg (t_l 1 1 rfl rfl rfl rfl (.one tyO23)) ⟨rfl, trivial⟩ ?_
        refine r_opg (t_lnE (C := api_Dof.cod) (xs := x92) (T := 66) rfl tyS23 q96) ⟨rfl, trivial⟩ ?_
        refine r_opg (t_lt rfl) ⟨rfl, k_I _ _, trivial⟩ ?_
        refine r_op (t_pickT rfl) ⟨rfl, rfl, trivial⟩ ?_
        refine r_nil (r_next (r_if rfl (fun h154 => ?_) (fun h154 => ?_)))
        · have hF := cnd_t h154 hF
          refine r_reg (r_op (t_l 1 4 rfl rfl rfl rfl (.agg tyA57)) ⟨rfl, trivial⟩ ?_)
          refine r_mv ?_
          obtain ⟨v155, h156, hF⟩ := bnd hF
          refine r_callO [3, 0, 2] [1, 4] rfl (ctO_gantryref15_train h156 q96 q84 q90) ⟨rfl, rfl, trivial⟩ rfl rfl (by decide) ?_
          rintro _ _ ⟨b159, c160, n158, b165, c166, n164, b171, c172, n170, q161, q167, q173, rfl, rfl⟩
          refine r_op0 (t_s 3 rfl rfl rfl tyA57.s) ⟨rfl, rfl, trivial⟩ ?_
          refine r_nil ?_
          exact r_backJ Jj123 ⟨v155.dofs, v155.parts, v155.ropes, v155.skip, b159, c160, n158, b165, c166, n164, b171, c172, n170, hF, q161, q167, q173, rfl, rfl⟩ [0, 1, 2, 3, 4] rfl ⟨rfl, rfl, rfl, trivial⟩
        · have hF := cnd_f h154 hF
          refine r_skip ?_
          exact r_backJ Jj123 ⟨x92, x80, x86, x98, b93, c94, n95, b81, c82, n83, b87, c88, n89, hF, q96, q84, q90, rfl, rfl⟩ [3, 0, 2, 1, 4] rfl ⟨rfl, rfl, rfl, trivial⟩
      · have hF := cnd_f h153 hF
        refine r_opn ?_
        refine r_opn ?_
        refine r_opn ?_
        refine r_opn ?_
        refine r_op (t_pickF rfl) ⟨rfl, k_B _, trivial⟩ ?_
        refine r_nil (r_next (r_ifF rfl ?_))
        refine r_skip ?_
        exact r_backJ Jj123 ⟨x92, x80, x86, x98, b93, c94, n95, b81, c82, n83, b87, c88, n89, hF, q96, q84, q90, rfl, rfl⟩ [3, 0, 2, 1, 4] rfl ⟨rfl, rfl, rfl, trivial⟩
  · skip
    obtain ⟨⟨x80', x86', x92', x98'⟩, hL, hRl99⟩ := bnd hF
    refine r_lp (fun k a w => ∃ (x58 : List api_Part), ∃ (x64 : List api_Rope), ∃ (x70 : List api_Dof), ∃ (x76 : List (Int × Int)), ∃ (x77 : Int), ∃ (x78 : Int), ∃ (x79 : Int), ∃ (b59 : Option Nat), ∃ (c60 : Nat), ∃ (n61 : Nat), ∃ (b65 : Option Nat), ∃ (c66 : Nat), ∃ (n67 : Nat), ∃ (b71 : Option Nat), ∃ (c72 : Nat), ∃ (n73 : Nat), F_gantryref15_Model_l99 K a0 v34 k x58 x64 x70 x76 x77 x78 x79 = some (x80', x86', x92', x98') ∧ x58.length = n61 ∧ x64.length = n67 ∧ x70.length = n73 ∧ hs _ [hO api_Part.cod b59 c60 116 n61 x58, ⟨some b20, 1, 57, 4, 1, ([pO b71 n73 c72] ++ [pO b59 n61 c60] ++ [pO b65 n67 c66] ++ [pS cA2 x76])⟩, hO api_Rope.cod b65 c66 125 n67 x64, hO api_Dof.cod b71 c72 66 n73 x70, ⟨some b1, 1, 57, 4, 1, ([pS api_Dof.cod ([] : List api_Dof)] ++ [pS api_Part.cod ([] : List api_Part)] ++ [pS api_Rope.cod ([] : List api_Rope)] ++ [pS cA2 ([] : List (Int × Int))])⟩] [(0, .vc (pS cI a0)), (2, .vc (pP (some b1) 0)), (3, .vc (pP (some b20) 0)), (5, .vc (pI .i64 v34)), (6, .vc (pI .i64 x77)), (8, .vc (pI .i64 x78)), (9, .vc (pI .i64 x79))] a w) K (fun a w ⟨_, _, _, _, _, _, _, _, _, _, _, _, _, _, _, _, hF, _, _, _, _⟩ => by cases hF) (fun k a w ⟨x58, x64, x70, x76, x77, x78, x79, b59, c60, n61, b65, c66, n67, b71, c72, n73, hF, q62, q68, q74, hh⟩ => r_at ?_ hh) (fun a w hh => ⟨[(⟨[(⟨(-40), (-4)⟩ : api_Point), (⟨60, (-4)⟩ : api_Point), (⟨60, 0⟩ : api_Point), (⟨(-40), 0⟩ : api_Point)], (⟨0, 0⟩ : api_Vec), ([] : List api_Column), v23, v27⟩ : api_Part)], ([] : List api_Rope), ([] : List api_Dof), ([] : List (Int × Int)), (-18), 0, 0, b29, 1, 1, none, 0, 0, none, 0, 0, hL, rfl, rfl, rfl, hs_back [0, 1, 2, 4, 5] rfl (by decide) (by exact ⟨rfl, rfl, rfl, rfl, rfl, rfl, rfl, trivial⟩) hh⟩)
    rw [F_gantryref15_Model_l99.eq_2] at hF
    refine r_seq (r_seq (r_reg (r_mv ?_)))
    refine r_mv ?_
    refine r_op (t_lt rfl) ⟨rfl, rfl, trivial⟩ ?_
    refine r_mv ?_
    refine r_bool (fun h175 => ?_) (fun h175 => ?_)
    · have hF := cnd_t h175 hF
      refine r_opg (t_fa (off := 0) (k := 0) rfl tyF57_0) ⟨rfl, trivial⟩ ?_
      refine r_opg (t_l 1 1 rfl rfl rfl rfl (.one tyO23)) ⟨rfl, trivial⟩ ?_
      refine r_opg (t_lnE (C := api_Dof.cod) (xs := x70) (T := 66) rfl tyS23 q74) ⟨rfl, trivial⟩ ?_
      refine r_opg (t_lt rfl) ⟨rfl, k_I _ _, trivial⟩ ?_
      refine r_op (t_pickT rfl) ⟨rfl, rfl, trivial⟩ ?_
      refine r_nil (r_next (r_if rfl (fun h176 => ?_) (fun h176 => ?_)))
      · have hF := cnd_t h176 hF
        refine r_skip (r_next (r_seq (r_blk (r_seq (r_reg (r_mv ?_))))))
        refine r_mv ?_
        obtain ⟨v177, h178, hF⟩ := bnd hF
        refine r_op (t_mul rfl h178) ⟨k_I _ _, rfl, trivial⟩ ?_
        obtain ⟨v179, h180, hF⟩ := bnd hF
        refine r_op (t_add rfl h180) ⟨k_I _ _, rfl, trivial⟩ ?_
        obtain ⟨v181, h182, hF⟩ := bnd hF
        refine r_op (t_call rfl (ct_gantryref01_At h182) rfl) ⟨rfl, rfl, k_I _ _, trivial⟩ ?_
        refine r_as ?_
        refine r_nil (r_next (r_seq (r_reg (r_mv ?_))))
        obtain ⟨v183, h184, hF⟩ := bnd hF
        refine r_op (t_call rfl (ct_gantryref15_shape h184) rfl) ⟨rfl, trivial⟩ ?_
        refine r_mv ?_
        refine r_op (t_ext2a rfl) ⟨rfl, trivial⟩ ?_
        refine r_op (t_ext2b rfl) ⟨rfl, trivial⟩ ?_
        refine r_as ?_
        refine r_as ?_
        refine r_nil (r_next (r_seq (r_reg (r_mv ?_))))
        refine r_mv ?_
        obtain ⟨v185, h186, hF⟩ := bnd hF
        refine r_op (t_mul rfl h186) ⟨k_I _ _, rfl, trivial⟩ ?_
        obtain ⟨v187, h188, hF⟩ := bnd hF
        refine r_op (t_add rfl h188) ⟨k_I _ _, rfl, trivial⟩ ?_
        obtain ⟨v189, h190, hF⟩ := bnd hF
        refine r_op (t_call rfl (ct_gantryref01_At h190) rfl) ⟨rfl, rfl, k_I _ _, trivial⟩ ?_
        refine r_as ?_
        refine r_nil (r_next (r_seq (r_cutS (fun H E => ∃ (x192 : Int), ∃ (x193 : Int), F_gantryref15_Model_j194 K x58 x64 x70 x76 x79 v181 v183 v189 (F_gantryref15_Model_l99 K a0 v34 k) x192 x193 = some (x80', x86', x92', x98') ∧ H = [hO api_Part.cod b59 c60 116 n61 x58, ⟨some b20, 1, 57, 4, 1, ([pO b71 n73 c72] ++ [pO b59 n61 c60] ++ [pO b65 n67 c66] ++ [pS cA2 x76])⟩, hO api_Rope.cod b65 c66 125 n67 x64, hO api_Dof.cod b71 c72 66 n73 x70, ⟨some b1, 1, 57, 4, 1, ([pS api_Dof.cod ([] : List api_Dof)] ++ [pS api_Part.cod ([] : List api_Part)] ++ [pS api_Rope.cod ([] : List api_Rope)] ++ [pS cA2 ([] : List (Int × Int))])⟩] ∧ E = [(0, .vc (pS cI a0)), (2, .vc (pP (some b1) 0)), (3, .vc (pP (some b20) 0)), (5, .vc (pI .i64 v34)), (6, .vc (pI .i64 x192)), (7, .vc (pI .i64 x193)), (9, .vc (pI .i64 x79)), (10, .vc (pI .i64 v181)), (11, .vc (pS api_Point.cod v183.1)), (12, .vc (pI .i64 v183.2)), (13, .vc (pI .i64 v189)), (38, .vc (pP (some b20) 0)), (39, .vc (pO b71 n73 c72)), (40, .vc (pI .i64 (x70.length : Int))), (41, .vc (pB (decide ((x70.length : Int) < 5))))]) ?_ (fun Jj194 => ?_))))
        · rintro _ _ ⟨x192, x193, hF, rfl, rfl⟩
          unfold F_gantryref15_Model_j194 at hF
          refine r_seq (r_reg (r_op (t_l 1 4 rfl rfl rfl rfl (.agg tyA57)) ⟨rfl, trivial⟩ ?_))
          refine r_mv ?_
          refine r_mv ?_
          refine r_mv ?_
          refine r_mv ?_
          obtain ⟨v195, h196, hF⟩ := bnd hF
          refine r_op (t_quo rfl h196) ⟨rfl, k_I _ _, trivial⟩ ?_
          refine r_mv ?_
          refine r_op (t_eq rfl) ⟨rfl, k_I _ _, trivial⟩ ?_
          refine r_mv ?_
          refine r_bool (fun h197 => ?_) (fun h197 => ?_)
          · have hF := cnd_t h197 hF
            refine r_opg (t_fa (off := 0) (k := 0) rfl tyF57_0) ⟨rfl, trivial⟩ ?_
            refine r_opg (t_l 1 1 rfl rfl rfl rfl (.one tyO23)) ⟨rfl, trivial⟩ ?_
            refine r_opg (t_lnE (C := api_Dof.cod) (xs := x70) (T := 66) rfl tyS23 q74) ⟨rfl, trivial⟩ ?_
            refine r_opg (t_lt rfl) ⟨rfl, k_I _ _, trivial⟩ ?_
            refine r_op (t_pickT rfl) ⟨rfl, rfl, trivial⟩ ?_
            obtain ⟨v198, h199, hF⟩ := bnd hF
            refine r_callO [3, 0, 2] [1, 4] rfl (ctO_gantryref15_block h199 q74 q62 q68) ⟨rfl, rfl, rfl, rfl, rfl, rfl, trivial⟩ rfl rfl (by decide) ?_
            rintro _ _ ⟨b202, c203, n201, b208, c209, n207, b214, c215, n213, q204, q210, q216, rfl, rfl⟩
            refine r_op0 (t_s 3 rfl rfl rfl tyA57.s) ⟨rfl, rfl, trivial⟩ ?_
            refine r_nil (r_next (r_seq (r_reg (r_op (t_mv (.inr rfl)) ⟨k_I _ _, trivial⟩ ?_))))
            refine r_nil (r_next (r_seq (r_reg (r_mv ?_))))
            refine r_op (t_gt rfl) ⟨rfl, k_I _ _, trivial⟩ ?_
            refine r_nil (r_next (r_if rfl (fun h218 => ?_) (fun h218 => ?_)))
            · have hF := cnd_t h218 hF
              refine r_reg (r_mv ?_)
              refine r_mv ?_
              obtain ⟨v219, h220, hF⟩ := bnd hF
              refine r_op (t_add rfl h220) ⟨rfl, rfl, trivial⟩ ?_
              refine r_as ?_
              refine r_nil (r_blkN (r_next (r_reg (r_mv ?_))))
              obtain ⟨v221, h222, hF⟩ := bnd hF
              refine r_op (t_add rfl h222) ⟨rfl, k_I _ _, trivial⟩ ?_
              refine r_as ?_
              refine r_nil ?_
              exact r_round (fun a w hh => ⟨v198.parts, v198.ropes, v198.dofs, v198.skip, x192, v219, v221, b208, c209, n207, b214, c215, n213, b202, c203, n201, hF, q210, q216, q204, hs_back [1, 3, 2, 0, 4] rfl (by decide) (by exact ⟨rfl, rfl, rfl, rfl, rfl, rfl, rfl, trivial⟩) hh⟩)
            · have hF := cnd_f h218 hF
              refine r_skip (r_blkN (r_next (r_reg (r_mv ?_))))
              obtain ⟨v223, h224, hF⟩ := bnd hF
              refine r_op (t_add rfl h224) ⟨rfl, k_I _ _, trivial⟩ ?_
              refine r_as ?_
              refine r_nil ?_
              exact r_round (fun a w hh => ⟨v198.parts, v198.ropes, v198.dofs, v198.skip, x192, 0, v223, b208, c209, n207, b214, c215, n213, b202, c203, n201, hF, q210, q216, q204, hs_back [1, 3, 2, 0, 4] rfl (by decide) (by exact ⟨rfl, rfl, rfl, rfl, rfl, rfl, rfl, trivial⟩) hh⟩)
          · have hF := cnd_f h197 hF
            refine r_opn ?_
            refine r_opn ?_
            refine r_opn ?_
            refine r_opn ?_
            refine r_op (t_pickF rfl) ⟨rfl, k_B _, trivial⟩ ?_
            obtain ⟨v225, h226, hF⟩ := bnd hF
            refine r_callO [3, 0, 2] [1, 4] rfl (ctO_gantryref15_block h226 q74 q62 q68) ⟨rfl, rfl, rfl, rfl, rfl, rfl, trivial⟩ rfl rfl (by decide) ?_
            rintro _ _ ⟨b229, c230, n228, b235, c236, n234, b241, c242, n240, q231, q237, q243, rfl, rfl⟩
            refine r_op0 (t_s 3 rfl rfl rfl tyA57.s) ⟨rfl, rfl, trivial⟩ ?_
            refine r_nil (r_next (r_seq (r_reg (r_op (t_mv (.inr rfl)) ⟨k_I _ _, trivial⟩ ?_))))
            refine r_nil (r_next (r_seq (r_reg (r_mv ?_))))
            refine r_op (t_gt rfl) ⟨rfl, k_I _ _, trivial⟩ ?_
            refine r_nil (r_next (r_if rfl (fun h245 => ?_) (fun h245 => ?_)))
            · have hF := cnd_t h245 hF
              refine r_reg (r_mv ?_)
              refine r_mv ?_
              obtain ⟨v246, h247, hF⟩ := bnd hF
              refine r_op (t_add rfl h247) ⟨rfl, rfl, trivial⟩ ?_
              refine r_as ?_
              refine r_nil (r_blkN (r_next (r_reg (r_mv ?_))))
              obtain ⟨v248, h249, hF⟩ := bnd hF
              refine r_op (t_add rfl h249) ⟨rfl, k_I _ _, trivial⟩ ?_
              refine r_as ?_
              refine r_nil ?_
              exact r_round (fun a w hh => ⟨v225.parts, v225.ropes, v225.dofs, v225.skip, x192, v246, v248, b235, c236, n234, b241, c242, n240, b229, c230, n228, hF, q237, q243, q231, hs_back [1, 3, 2, 0, 4] rfl (by decide) (by exact ⟨rfl, rfl, rfl, rfl, rfl, rfl, rfl, trivial⟩) hh⟩)
            · have hF := cnd_f h245 hF
              refine r_skip (r_blkN (r_next (r_reg (r_mv ?_))))
              obtain ⟨v250, h251, hF⟩ := bnd hF
              refine r_op (t_add rfl h251) ⟨rfl, k_I _ _, trivial⟩ ?_
              refine r_as ?_
              refine r_nil ?_
              exact r_round (fun a w hh => ⟨v225.parts, v225.ropes, v225.dofs, v225.skip, x192, 0, v250, b235, c236, n234, b241, c242, n240, b229, c230, n228, hF, q237, q243, q231, hs_back [1, 3, 2, 0, 4] rfl (by decide) (by exact ⟨rfl, rfl, rfl, rfl, rfl, rfl, rfl, trivial⟩) hh⟩)
        · skip
          refine r_seq (r_reg (r_mv ?_))
          refine r_op (t_gt rfl) ⟨rfl, k_I _ _, trivial⟩ ?_
          refine r_mv ?_
          refine r_bool (fun h252 => ?_) (fun h252 => ?_)
          · have hF := cnd_t h252 hF
            refine r_opg (t_mv (.inl rfl)) ⟨rfl, trivial⟩ ?_
            refine r_opg (t_lt rfl) ⟨rfl, k_I _ _, trivial⟩ ?_
            refine r_op (t_pickT rfl) ⟨rfl, rfl, trivial⟩ ?_
            refine r_nil (r_next (r_if rfl (fun h253 => ?_) (fun h253 => ?_)))
            · have hF := cnd_t h253 hF
              refine r_reg (r_mv ?_)
              refine r_as ?_
              refine r_nil ?_
              exact r_backJ Jj194 ⟨x77, x78, hF, rfl, rfl⟩ [0, 1, 2, 3, 4] rfl ⟨rfl, rfl, rfl, rfl, rfl, rfl, rfl, rfl, rfl, rfl, rfl, rfl, rfl, rfl, rfl, trivial⟩
            · have hF := cnd_f h253 hF
              refine r_seq (r_reg (r_mv ?_))
              obtain ⟨v254, h255, hF⟩ := bnd hF
              refine r_op (t_add rfl h255) ⟨rfl, k_I _ _, trivial⟩ ?_
              refine r_as ?_
              refine r_nil (r_next (r_seq (r_reg (r_op (t_mv (.inr rfl)) ⟨k_I _ _, trivial⟩ ?_))))
              refine r_nil (r_next (r_seq (r_reg (r_mv ?_))))
              refine r_op (t_gt rfl) ⟨rfl, k_I _ _, trivial⟩ ?_
              refine r_nil (r_next (r_if rfl (fun h256 => ?_) (fun h256 => ?_)))
              · have hF := cnd_t h256 hF
                refine r_reg (r_mv ?_)
                obtain ⟨v257, h258, hF⟩ := bnd hF
                refine r_op (t_rem rfl h258) ⟨rfl, k_I _ _, trivial⟩ ?_
                obtain ⟨v259, h260, hF⟩ := bnd hF
                refine r_op (t_add rfl h260) ⟨k_I _ _, rfl, trivial⟩ ?_
                refine r_as ?_
                refine r_nil ?_
                exact r_backJ Jj194 ⟨v254, v259, hF, rfl, rfl⟩ [0, 1, 2, 3, 4] rfl ⟨rfl, rfl, rfl, rfl, rfl, rfl, rfl, rfl, rfl, rfl, rfl, rfl, rfl, rfl, rfl, trivial⟩
              · have hF := cnd_f h256 hF
                refine r_skip ?_
                exact r_backJ Jj194 ⟨v254, 0, hF, rfl, rfl⟩ [0, 1, 2, 3, 4] rfl ⟨rfl, rfl, rfl, rfl, rfl, rfl, rfl, rfl, rfl, rfl, rfl, rfl, rfl, rfl, rfl, trivial⟩
          · have hF := cnd_f h252 hF
            refine r_opn ?_
            refine r_opn ?_
            refine r_op (t_pickF rfl) ⟨rfl, k_B _, trivial⟩ ?_
            refine r_nil (r_next (r_ifF rfl ?_))
            refine r_seq (r_reg (r_mv ?_))
            obtain ⟨v261, h262, hF⟩ := bnd hF
            refine r_op (t_add rfl h262) ⟨rfl, k_I _ _, trivial⟩ ?_
            refine r_as ?_
            refine r_nil (r_next (r_seq (r_reg (r_op (t_mv (.inr rfl)) ⟨k_I _ _, trivial⟩ ?_))))
            refine r_nil (r_next (r_seq (r_reg (r_mv ?_))))
            refine r_op (t_gt rfl) ⟨rfl, k_I _ _, trivial⟩ ?_
            refine r_nil (r_next (r_if rfl (fun h263 => ?_) (fun h263 => ?_)))
            · have hF := cnd_t h263 hF
              refine r_reg (r_mv ?_)
              obtain ⟨v264, h265, hF⟩ := bnd hF
              refine r_op (t_rem rfl h265) ⟨rfl, k_I _ _, trivial⟩ ?_
              obtain ⟨v266, h267, hF⟩ := bnd hF
              refine r_op (t_add rfl h267) ⟨k_I _ _, rfl, trivial⟩ ?_
              refine r_as ?_
              refine r_nil ?_
              exact r_backJ Jj194 ⟨v261, v266, hF, rfl, rfl⟩ [0, 1, 2, 3, 4] rfl ⟨rfl, rfl, rfl, rfl, rfl, rfl, rfl, rfl, rfl, rfl, rfl, rfl, rfl, rfl, rfl, trivial⟩
            · have hF := cnd_f h263 hF
              refine r_skip ?_
              exact r_backJ Jj194 ⟨v261, 0, hF, rfl, rfl⟩ [0, 1, 2, 3, 4] rfl ⟨rfl, rfl, rfl, rfl, rfl, rfl, rfl, rfl, rfl, rfl, rfl, rfl, rfl, rfl, rfl, trivial⟩
      · have hF := cnd_f h176 hF
        refine r_brk ?_
        obtain ⟨rfl, rfl, rfl, rfl⟩ := sm4 hF
        exact r_backJ Jj100 ⟨x58, x64, x70, x76, b59, c60, n61, b65, c66, n67, b71, c72, n73, hRl99, q62, q68, q74, rfl, rfl⟩ [0, 1, 2, 3, 4] rfl ⟨rfl, rfl, rfl, trivial⟩
    · have hF := cnd_f h175 hF
      refine r_opn ?_
      refine r_opn ?_
      refine r_opn ?_
      refine r_opn ?_
      refine r_op (t_pickF rfl) ⟨rfl, k_B _, trivial⟩ ?_
      refine r_nil (r_next (r_ifF rfl ?_))
      refine r_brk ?_
      obtain ⟨rfl, rfl, rfl, rfl⟩ := sm4 hF
      exact r_backJ Jj100 ⟨x58, x64, x70, x76, b59, c60, n61, b65, c66, n67, b71, c72, n73, hRl99, q62, q68, q74, rfl, rfl⟩ [0, 1, 2, 3, 4] rfl ⟨rfl, rfl, rfl, trivial⟩

abbrev N_gantryref05_Small : Nat := 13
def F_gantryref05_Small (a0 : Int) : Option Rat :=
  (F_gantryref01_Around a0 1099511627776).bind fun v2 => (chr v2 6).bind fun v4 => (chk (1 + v4)).bind fun v6 => (chq v2 6).bind fun v8 => (chk (16 * v6)).bind fun v10 => (chk (v10 + 1)).bind fun v12 => (chr v8 v12).bind fun v14 => (chk (8 * v6)).bind fun v16 => (chk (v14 - v16)).bind fun v18 => (qof v18 v6).bind fun v20 => some v20
set_option maxRecDepth 100000 in
theorem ct_gantryref05_Small {a0 : Int} {r : Rat} (hF : F_gantryref05_Small a0 = some r) : Ct Tryz.prog 13 [.vc (pI .i64 a0)] (.va (eQ r)) := by
  unfold F_gantryref05_Small at hF
  refine ctO_intro Tryz.func13 rfl (by kernel_rfl) Tryz.ntmps13 rfl (fun w0 M0 => ?_)
  refine r_seq (r_reg (r_alloc rfl tyZ35q (fun b1 => ?_)))
  refine r_nil (r_next (r_seq (r_reg (r_mv ?_))))
  obtain ⟨v2, h3, hF⟩ := bnd hF
  refine r_op (t_call rfl (ct_gantryref01_Around h3) rfl) ⟨rfl, k_I _ _, trivial⟩ ?_
  refine r_as ?_
  refine r_nil (r_next (r_seq (r_reg (r_mv ?_))))
  obtain ⟨v4, h5, hF⟩ := bnd hF
  refine r_op (t_rem rfl h5) ⟨rfl, k_I _ _, trivial⟩ ?_
  obtain ⟨v6, h7, hF⟩ := bnd hF
  refine r_op (t_add rfl h7) ⟨k_I _ _, rfl, trivial⟩ ?_
  refine r_as ?_
  refine r_nil (r_next (r_seq (r_reg (r_mv ?_))))
  obtain ⟨v8, h9, hF⟩ := bnd hF
  refine r_op (t_quo rfl h9) ⟨rfl, k_I _ _, trivial⟩ ?_
  refine r_mv ?_
  obtain ⟨v10, h11, hF⟩ := bnd hF
  refine r_op (t_mul rfl h11) ⟨k_I _ _, rfl, trivial⟩ ?_
  obtain ⟨v12, h13, hF⟩ := bnd hF
  refine r_op (t_add rfl h13) ⟨rfl, k_I _ _, trivial⟩ ?_
  obtain ⟨v14, h15, hF⟩ := bnd hF
  refine r_op (t_rem rfl h15) ⟨rfl, rfl, trivial⟩ ?_
  refine r_mv ?_
  obtain ⟨v16, h17, hF⟩ := bnd hF
  refine r_op (t_mul rfl h17) ⟨k_I _ _, rfl, trivial⟩ ?_
  obtain ⟨v18, h19, hF⟩ := bnd hF
  refine r_op (t_sub rfl h19) ⟨rfl, rfl, trivial⟩ ?_
  refine r_mv ?_
  obtain ⟨v20, h21, hF⟩ := bnd hF
  refine r_op (t_call rfl (qc_gantryref05_Of h21) rfl) ⟨rfl, rfl, trivial⟩ ?_
  refine r_op0 (t_s 0 rfl rfl rfl tyA35.s) ⟨rfl, rfl, trivial⟩ ?_
  refine r_nil (r_next (r_ret (r_toR ?_)))
  obtain rfl := sm1 hF
  exact r_done1 (.inl rfl) Tryz.results13 (rv_cell 0 4 rfl rfl rfl rfl (.agg tyA35) .nil) rfl rfl

abbrev N_gantrylaw21_numbers : Nat := 23
def F_gantrylaw21_numbers_j24 (K : Nat) (x17 : List Rat) : Option (List Rat) :=
  some x17
def F_gantrylaw21_numbers_l23 (K : Nat) (a0 : List Int) (a1 : Int) (a2 : Int) : Nat → (List Rat) → Int → Option (List Rat)
  | 0, _, _ => none
  | k + 1, x10, x16 => bif (decide (x16 < a2)) then ((chk (a1 + x16)).bind fun v26 => (F_gantryref01_At a0 v26 1073741824).bind fun v28 => (F_gantryref05_Small v28).bind fun v30 => (apL x10 [v30]).bind fun x32 => (chk (x16 + 1)).bind fun v39 => F_gantrylaw21_numbers_l23 K a0 a1 a2 k x32 v39) else (some x10)
def F_gantrylaw21_numbers (K : Nat) (a0 : List Int) (a1 : Int) (a2 : Int) : Option (List Rat) :=
  (F_gantrylaw21_numbers_l23 K a0 a1 a2 K ([] : List Rat) 0).bind fun x17 => F_gantrylaw21_numbers_j24 K x17
set_option maxRecDepth 100000 in
theorem ct_gantrylaw21_numbers {K : Nat} {a0 : List Int} {a1 : Int} {a2 : Int} {r : List Rat} (hF : F_gantrylaw21_numbers K a0 a1 a2 = some r) : Ct Tryz.prog 23 [.vc (pS cI a0), .vc (pI .i64 a1), .vc (pI .i64 a2)] (.vc (pS cQ r)) := by
  unfold F_gantrylaw21_numbers at hF
  refine ctO_intro Tryz.func23 rfl (by kernel_rfl) Tryz.ntmps23 rfl (fun w0 M0 => ?_)
  refine r_seq (r_reg (r_op (t_mv (.inr rfl)) ⟨k_nil cQ, trivial⟩ ?_))
  refine r_nil (r_next (r_seq (r_reg (r_nilO cQ 35 rfl ?_))))
  refine r_nil (r_next (r_seq (r_seq (r_reg (r_op (t_mv (.inr rfl)) ⟨k_I _ _, trivial⟩ ?_)))))
  refine r_nil (r_next (r_blk (r_cutN (fun H E => ∃ (x17 : List Rat), ∃ (b18 : Option Nat), ∃ (c19 : Nat), ∃ (n20 : Nat), F_gantrylaw21_numbers_j24 K x17 = some r ∧ x17.length = n20 ∧ H = [hO cQ b18 c19 35 n20 x17] ∧ E = [(7, .vc (pO b18 n20 c19))]) ?_ (fun Jj24 => ?_))))
  · rintro _ _ ⟨x17, b18, c19, n20, hF, q21, rfl, rfl⟩
    unfold F_gantrylaw21_numbers_j24 at hF
    refine r_next (r_seq (r_reg (r_mv ?_)))
    refine r_as ?_
    refine r_nil (r_next (r_ret (r_toR (r_fzX 0 [6, 7, 23] rfl q21 ⟨rfl, rfl, rfl, trivial⟩ rfl ?_))))
    obtain rfl := sm1 hF
    exact r_done1 (.inl rfl) Tryz.results23 (.tmp rfl .nil) rfl rfl
  · skip
    obtain ⟨x17', hL, hRl23⟩ := bnd hF
    refine r_lp (fun k a w => ∃ (x10 : List Rat), ∃ (x16 : Int), ∃ (b11 : Option Nat), ∃ (c12 : Nat), ∃ (n13 : Nat), F_gantrylaw21_numbers_l23 K a0 a1 a2 k x10 x16 = some x17' ∧ x10.length = n13 ∧ hs _ [hO cQ b11 c12 35 n13 x10] [(0, .vc (pS cI a0)), (1, .vc (pI .i64 a1)), (2, .vc (pI .i64 a2)), (7, .vc (pO b11 n13 c12)), (8, .vc (pI .i64 x16))] a w) K (fun a w ⟨_, _, _, _, _, hF, _, _⟩ => by cases hF) (fun k a w ⟨x10, x16, b11, c12, n13, hF, q14, hh⟩ => r_at ?_ hh) (fun a w hh => ⟨([] : List Rat), 0, none, 0, 0, hL, rfl, hs_back [0] rfl (by decide) (by exact ⟨rfl, rfl, rfl, rfl, rfl, trivial⟩) hh⟩)
    rw [F_gantrylaw21_numbers_l23.eq_2] at hF
    refine r_seq (r_seq (r_reg (r_mv ?_)))
    refine r_mv ?_
    refine r_op (t_lt rfl) ⟨rfl, rfl, trivial⟩ ?_
    refine r_nil (r_next (r_if rfl (fun h25 => ?_) (fun h25 => ?_)))
    · have hF := cnd_t h25 hF
      refine r_skip (r_next (r_seq (r_blk (r_reg (r_mv ?_)))))
      refine r_mv ?_
      refine r_mv ?_
      refine r_mv ?_
      obtain ⟨v26, h27, hF⟩ := bnd hF
      refine r_op (t_add rfl h27) ⟨rfl, rfl, trivial⟩ ?_
      obtain ⟨v28, h29, hF⟩ := bnd hF
      refine r_op (t_call rfl (ct_gantryref01_At h29) rfl) ⟨rfl, rfl, k_I _ _, trivial⟩ ?_
      obtain ⟨v30, h31, hF⟩ := bnd hF
      refine r_op (t_call rfl (ct_gantryref05_Small h31) rfl) ⟨rfl, trivial⟩ ?_
      refine r_op (t_bs (C := cQ) (xs := [.tmp 20]) (ps := [.va (eQ v30)]) (zs := [v30]) rfl tyS24 rfl ⟨⟨trivial, rfl⟩, trivial⟩ rfl) ⟨rfl, trivial⟩ ?_
      obtain ⟨x32, h33, hF⟩ := bnd hF
      refine r_app 0 rfl tyS24 rfl rfl q14 rfl rfl h33 (fun b34 c35 H36 e37 => ?_)
      cases e37
      refine r_as ?_
      refine r_nil (r_blkN (r_next (r_reg (r_mv ?_))))
      obtain ⟨v39, h40, hF⟩ := bnd hF
      refine r_op (t_add rfl h40) ⟨rfl, k_I _ _, trivial⟩ ?_
      refine r_as ?_
      refine r_nil ?_
      exact r_round (fun a w hh => ⟨x32, v39, b34, c35, (n13 + [v30].length), hF, (apL_len h33 q14), hs_back [0] rfl (by decide) (by exact ⟨rfl, rfl, rfl, rfl, rfl, trivial⟩) hh⟩)
    · have hF := cnd_f h25 hF
      refine r_brk ?_
      obtain rfl := sm1 hF
      exact r_backJ Jj24 ⟨x10, b11, c12, n13, hRl23, q14, rfl, rfl⟩ [0] rfl ⟨rfl, trivial⟩

abbrev N_gantryref21_Loads : Nat := 24
def F_gantryref21_Loads_j24 (K : Nat) (x17 : List Rat) : Option (List Rat) :=
  some x17
def F_gantryref21_Loads_l23 (K : Nat) (a0 : List api_Dof) (a1 : List Rat) : Nat → (List Rat) → Int → Option (List Rat)
  | 0, _, _ => none
  | k + 1, x10, x16 => bif (decide (x16 < (a0.length : Int))) then ((rdL a0 x16).bind fun v28 => (rdL a1 x16).bind fun v30 => (qadd v28.load v30).bind fun v32 => (apL x10 [v32]).bind fun x34 => (chk (x16 + 1)).bind fun v41 => F_gantryref21_Loads_l23 K a0 a1 k x34 v41) else (some x10)
def F_gantryref21_Loads (K : Nat) (a0 : List api_Dof) (a1 : List Rat) : Option (List Rat) :=
  (F_gantryref21_Loads_l23 K a0 a1 K ([] : List Rat) 0).bind fun x17 => F_gantryref21_Loads_j24 K x17
set_option maxRecDepth 100000 in
theorem ct_gantryref21_Loads {K : Nat} {a0 : List api_Dof} {a1 : List Rat} {r : List Rat} (hF : F_gantryref21_Loads K a0 a1 = some r) : Ct Tryz.prog 24 [.vc (pS api_Dof.cod a0), .vc (pS cQ a1)] (.vc (pS cQ r)) := by
  unfold F_gantryref21_Loads at hF
  refine ctO_intro Tryz.func24 rfl (by kernel_rfl) Tryz.ntmps24 rfl (fun w0 M0 => ?_)
  refine r_seq (r_reg (r_op (t_mv (.inr rfl)) ⟨k_nil cQ, trivial⟩ ?_))
  refine r_nil (r_next (r_seq (r_reg (r_nilO cQ 35 rfl ?_))))
  refine r_nil (r_next (r_seq (r_seq (r_reg (r_op (t_mv (.inr rfl)) ⟨k_I _ _, trivial⟩ ?_)))))
  refine r_nil (r_next (r_blk (r_cutN (fun H E => ∃ (x17 : List Rat), ∃ (b18 : Option Nat), ∃ (c19 : Nat), ∃ (n20 : Nat), F_gantryref21_Loads_j24 K x17 = some r ∧ x17.length = n20 ∧ H = [hO cQ b18 c19 35 n20 x17] ∧ E = [(5, .vc (pO b18 n20 c19))]) ?_ (fun Jj24 => ?_))))
  · rintro _ _ ⟨x17, b18, c19, n20, hF, q21, rfl, rfl⟩
    unfold F_gantryref21_Loads_j24 at hF
    refine r_next (r_seq (r_reg (r_mv ?_)))
    refine r_as ?_
    refine r_nil (r_next (r_ret (r_toR (r_fzX 0 [4, 5, 26] rfl q21 ⟨rfl, rfl, rfl, trivial⟩ rfl ?_))))
    obtain rfl := sm1 hF
    exact r_done1 (.inl rfl) Tryz.results24 (.tmp rfl .nil) rfl rfl
  · skip
    obtain ⟨x17', hL, hRl23⟩ := bnd hF
    refine r_lp (fun k a w => ∃ (x10 : List Rat), ∃ (x16 : Int), ∃ (b11 : Option Nat), ∃ (c12 : Nat), ∃ (n13 : Nat), F_gantryref21_Loads_l23 K a0 a1 k x10 x16 = some x17' ∧ x10.length = n13 ∧ hs _ [hO cQ b11 c12 35 n13 x10] [(0, .vc (pS api_Dof.cod a0)), (1, .vc (pS cQ a1)), (5, .vc (pO b11 n13 c12)), (6, .vc (pI .i64 x16))] a w) K (fun a w ⟨_, _, _, _, _, hF, _, _⟩ => by cases hF) (fun k a w ⟨x10, x16, b11, c12, n13, hF, q14, hh⟩ => r_at ?_ hh) (fun a w hh => ⟨([] : List Rat), 0, none, 0, 0, hL, rfl, hs_back [0] rfl (by decide) (by exact ⟨rfl, rfl, rfl, rfl, trivial⟩) hh⟩)
    rw [F_gantryref21_Loads_l23.eq_2] at hF
    refine r_seq (r_seq (r_reg (r_mv ?_)))
    refine r_mv ?_
    refine r_op (t_ln rfl tyS23) ⟨rfl, trivial⟩ ?_
    refine r_op (t_lt rfl) ⟨rfl, rfl, trivial⟩ ?_
    refine r_nil (r_next (r_if rfl (fun h25 => ?_) (fun h25 => ?_)))
    · have hF := cnd_t h25 hF
      refine r_skip (r_next (r_seq (r_blk ?_)))
      obtain ⟨v28, h29, hF⟩ := bnd hF
      obtain ⟨v30, h31, hF⟩ := bnd hF
      obtain ⟨v32, h33, hF⟩ := bnd hF
      refine r_draw [0, 0, 0, 6, 14, 30, 0, 0, 192, 448, 1022, 2046, 4095, 8191] 12 2 [.v (.vc (pO b11 n13 c12)), .v (.vc (pS api_Dof.cod a0)), .v (.vc (pI .i64 x16)), .v (.vc (pM (api_Dof.cod.e v28))), .v (.vc (pM ((api_Dof.cod.e v28).drop 4))), .v (.va (eQ v28.load)), .v (.vc (pS cQ a1)), .v (.vc (pI .i64 x16)), .v (.vc (pM (cQ.e v30))), .v (.va (eQ v30)), .v (.va (eQ v32)), .v (.vc (pS cQ [v32]))] Tryz_mixed ⟨⟨rfl, .run (lo := 0) (n := 1) ⟨fun G26 A => t_mv (.inl rfl), trivial⟩ (fun G26 => ⟨rfl, trivial⟩)⟩, ⟨rfl, .run (lo := 0) (n := 1) ⟨fun G26 A => t_mv (.inl rfl), trivial⟩ (fun G26 => ⟨rfl, trivial⟩)⟩, ⟨rfl, .run (lo := 0) (n := 1) ⟨fun G26 A => t_mv (.inl rfl), trivial⟩ (fun G26 => ⟨rfl, trivial⟩)⟩, ⟨rfl, .run (lo := 0) (n := 1) ⟨fun G26 A => t_ix rfl tyS23 h29, trivial⟩ (fun G26 => ⟨rfl, rfl, trivial⟩)⟩, ⟨rfl, .run (lo := 0) (n := 1) ⟨fun G26 A => t_faM (ps := (api_Dof.cod.e v28)) (k := 4) rfl tyF66_1, trivial⟩ (fun G26 => ⟨rfl, trivial⟩)⟩, ⟨rfl, .run (lo := 0) (n := 1) ⟨fun G26 A => t_lM 4 rfl rfl (.agg tyA35), trivial⟩ (fun G26 => ⟨rfl, trivial⟩)⟩, ⟨rfl, .run (lo := 0) (n := 1) ⟨fun G26 A => t_mv (.inl rfl), trivial⟩ (fun G26 => ⟨rfl, trivial⟩)⟩, ⟨rfl, .run (lo := 0) (n := 1) ⟨fun G26 A => t_mv (.inl rfl), trivial⟩ (fun G26 => ⟨rfl, trivial⟩)⟩, ⟨rfl, .run (lo := 0) (n := 1) ⟨fun G26 A => t_ix rfl tyS24 h31, trivial⟩ (fun G26 => ⟨rfl, rfl, trivial⟩)⟩, ⟨rfl, .run (lo := 0) (n := 1) ⟨fun G26 A => t_lM 4 rfl rfl (.agg tyA35), trivial⟩ (fun G26 => ⟨rfl, trivial⟩)⟩, ⟨rfl, .run (lo := 0) (n := 1) ⟨fun G26 A => t_call rfl (qc_gantryref05_Add h33) rfl, trivial⟩ (fun G26 => ⟨rfl, rfl, trivial⟩)⟩, ⟨rfl, .run (lo := 0) (n := 1) ⟨fun G26 A => t_bs (C := cQ) (xs := [.tmp 23]) (ps := [.va (eQ v32)]) (zs := [v32]) rfl tyS24 rfl ⟨⟨trivial, rfl⟩, trivial⟩ rfl, trivial⟩ (fun G26 => ⟨rfl, trivial⟩)⟩, trivial⟩ (fun bs27 G26 => ?_)
      obtain ⟨x34, h35, hF⟩ := bnd hF
      refine r_app 0 rfl tyS24 rfl rfl q14 rfl rfl h35 (fun b36 c37 H38 e39 => ?_)
      cases e39
      refine r_as ?_
      refine r_nil (r_blkN (r_next (r_reg (r_mv ?_))))
      obtain ⟨v41, h42, hF⟩ := bnd hF
      refine r_op (t_add rfl h42) ⟨rfl, k_I _ _, trivial⟩ ?_
      refine r_as ?_
      refine r_nil ?_
      exact r_round (fun a w hh => ⟨x34, v41, b36, c37, (n13 + [v32].length), hF, (apL_len h35 q14), hs_back [0] rfl (by decide) (by exact ⟨rfl, rfl, rfl, rfl, trivial⟩) hh⟩)
    · have hF := cnd_f h25 hF
      refine r_brk ?_
      obtain rfl := sm1 hF
      exact r_backJ Jj24 ⟨x10, b11, c12, n13, hRl23, q14, rfl, rfl⟩ [0] rfl ⟨rfl, trivial⟩

abbrev N_energy_Total : Nat := 33
def F_energy_Total (K : Nat) (a0 : api_Model) (a1 : api_State) : Option Rat :=
  (F_energy_kinetic a0.dofs a1.v).bind fun v6 => (F_energy_stored a0.dofs a1.q).bind fun v8 => (F_energy_sum K [v6, v8]).bind fun v10 => some v10
set_option maxRecDepth 100000 in
theorem ct_energy_Total {K : Nat} {a0 : api_Model} {a1 : api_State} {r : Rat} (hF : F_energy_Total K a0 a1 = some r) : Ct Tryz.prog 33 [.va (api_Model.enc a0), .va (api_State.enc a1)] (.va (eQ r)) := by
  unfold F_energy_Total at hF
  refine ctO_intro Tryz.func33 rfl (by kernel_rfl) Tryz.ntmps33 rfl (fun w0 M0 => ?_)
  refine r_seq (r_reg (r_box rfl rfl trivial (fun b1 => ?_)))
  refine r_box rfl rfl trivial (fun b2 => ?_)
  refine r_alloc rfl tyZ35q (fun b3 => ?_)
  refine r_nil (r_next (r_seq ?_))
  obtain ⟨v6, h7, hF⟩ := bnd hF
  obtain ⟨v8, h9, hF⟩ := bnd hF
  obtain ⟨v10, h11, hF⟩ := bnd hF
  refine r_draw [0, 1, 0, 4, 15, 0, 32, 0, 128, 511, 1023, 2047, 4095] 12 1 [.v (.vc (pP (some b1) 0)), .v (.vc (pS api_Dof.cod a0.dofs)), .v (.vc (pP (some b2) 2)), .v (.vc (pS cQ a1.v)), .v (.va (energy_account.enc v6)), .v (.vc (pP (some b1) 0)), .v (.vc (pS api_Dof.cod a0.dofs)), .v (.vc (pP (some b2) 1)), .v (.vc (pS cQ a1.q)), .v (.va (energy_account.enc v8)), .v (.vc (pS energy_account.cod [v6, v8])), .v (.va (eQ v10))] Tryz_mixed ⟨⟨rfl, .run (lo := 0) (n := 1) ⟨fun G4 A => t_fa (off := 0) (k := 0) rfl tyF57_0, trivial⟩ (fun G4 => ⟨rfl, trivial⟩)⟩, ⟨rfl, .run (lo := 0) (n := 1) ⟨fun G4 A => t_l 2 1 rfl rfl rfl rfl (.one tyO23), trivial⟩ (fun G4 => ⟨rfl, trivial⟩)⟩, ⟨rfl, .run (lo := 0) (n := 1) ⟨fun G4 A => t_fa (off := 0) (k := 2) rfl tyF62_2, trivial⟩ (fun G4 => ⟨rfl, trivial⟩)⟩, ⟨rfl, .run (lo := 0) (n := 1) ⟨fun G4 A => t_l 1 1 rfl rfl rfl rfl (.one tyO24), trivial⟩ (fun G4 => ⟨rfl, trivial⟩)⟩, ⟨rfl, .run (lo := 0) (n := 1) ⟨fun G4 A => t_call rfl (ct_energy_kinetic h7) rfl, trivial⟩ (fun G4 => ⟨rfl, rfl, trivial⟩)⟩, ⟨rfl, .run (lo := 0) (n := 1) ⟨fun G4 A => t_fa (off := 0) (k := 0) rfl tyF57_0, trivial⟩ (fun G4 => ⟨rfl, trivial⟩)⟩, ⟨rfl, .run (lo := 0) (n := 1) ⟨fun G4 A => t_l 2 1 rfl rfl rfl rfl (.one tyO23), trivial⟩ (fun G4 => ⟨rfl, trivial⟩)⟩, ⟨rfl, .run (lo := 0) (n := 1) ⟨fun G4 A => t_fa (off := 0) (k := 1) rfl tyF62_1, trivial⟩ (fun G4 => ⟨rfl, trivial⟩)⟩, ⟨rfl, .run (lo := 0) (n := 1) ⟨fun G4 A => t_l 1 1 rfl rfl rfl rfl (.one tyO24), trivial⟩ (fun G4 => ⟨rfl, trivial⟩)⟩, ⟨rfl, .run (lo := 0) (n := 1) ⟨fun G4 A => t_call rfl (ct_energy_stored h9) rfl, trivial⟩ (fun G4 => ⟨rfl, rfl, trivial⟩)⟩, ⟨rfl, .run (lo := 0) (n := 1) ⟨fun G4 A => t_bs (C := energy_account.cod) (xs := [.tmp 9, .tmp 14]) (ps := [.va (energy_account.enc v6), .va (energy_account.enc v8)]) (zs := [v6, v8]) rfl tyS155 rfl ⟨⟨trivial, rfl⟩, ⟨trivial, rfl⟩, trivial⟩ rfl, trivial⟩ (fun G4 => ⟨rfl, rfl, trivial⟩)⟩, ⟨rfl, .run (lo := 0) (n := 1) ⟨fun G4 A => t_call rfl (ct_energy_sum h11) rfl, trivial⟩ (fun G4 => ⟨rfl, trivial⟩)⟩, trivial⟩ (fun bs5 G4 => ?_)
  refine r_op0 (t_s 0 rfl rfl rfl tyA35.s) ⟨rfl, rfl, trivial⟩ ?_
  refine r_nil (r_next (r_ret (r_toR ?_)))
  obtain rfl := sm1 hF
  exact r_done1 (.inl rfl) Tryz.results33 (rv_cell 0 4 rfl rfl rfl rfl (.agg tyA35) .nil) rfl rfl

abbrev N_energy_work_1 : Nat := 145
def F_energy_work_1 (c0 : List Rat) (c1 : api_State) (c2 : api_State) (a0 : Int) : Option Rat :=
  (rdL c0 a0).bind fun v4 => (rdL c1.q a0).bind fun v6 => (rdL c2.q a0).bind fun v8 => (qsub v6 v8).bind fun v10 => (F_energy_double v4 v10).bind fun v12 => some v12
set_option maxRecDepth 100000 in
theorem ct_energy_work_1 {c0 : List Rat} {c1 : api_State} {c2 : api_State} {a0 : Int} {r : Rat} (hF : F_energy_work_1 c0 c1 c2 a0 = some r) : Ct Tryz.prog 145 [.vc (pI .i64 a0), .vc (pM ((cSl cQ).e c0)), .vc (pM (api_State.cod.e c1)), .vc (pM (api_State.cod.e c2))] (.va (eQ r)) := by
  unfold F_energy_work_1 at hF
  refine ctO_intro Tryz.func145 rfl (by kernel_rfl) Tryz.ntmps145 rfl (fun w0 M0 => ?_)
  refine r_seq (r_reg (r_alloc rfl tyZ35q (fun b1 => ?_)))
  refine r_nil (r_next (r_seq ?_))
  obtain ⟨v4, h5, hF⟩ := bnd hF
  obtain ⟨v6, h7, hF⟩ := bnd hF
  obtain ⟨v8, h9, hF⟩ := bnd hF
  obtain ⟨v10, h11, hF⟩ := bnd hF
  obtain ⟨v12, h13, hF⟩ := bnd hF
  refine r_draw [0, 0, 3, 7, 0, 16, 0, 112, 240, 0, 512, 0, 3584, 7680, 16368, 32767, 65535] 16 1 [.v (.vc (pS cQ c0)), .v (.vc (pI .i64 a0)), .v (.vc (pM (cQ.e v4))), .v (.va (eQ v4)), .v (.vc (pM ((api_State.cod.e c1).drop 1))), .v (.vc (pS cQ c1.q)), .v (.vc (pI .i64 a0)), .v (.vc (pM (cQ.e v6))), .v (.va (eQ v6)), .v (.vc (pM ((api_State.cod.e c2).drop 1))), .v (.vc (pS cQ c2.q)), .v (.vc (pI .i64 a0)), .v (.vc (pM (cQ.e v8))), .v (.va (eQ v8)), .v (.va (eQ v10)), .v (.va (eQ v12))] Tryz_mixed ⟨⟨rfl, .run (lo := 0) (n := 1) ⟨fun G2 A => t_lM 1 rfl rfl (.one tyO24), trivial⟩ (fun G2 => ⟨rfl, trivial⟩)⟩, ⟨rfl, .run (lo := 0) (n := 1) ⟨fun G2 A => t_mv (.inl rfl), trivial⟩ (fun G2 => ⟨rfl, trivial⟩)⟩, ⟨rfl, .run (lo := 0) (n := 1) ⟨fun G2 A => t_ix rfl tyS24 h5, trivial⟩ (fun G2 => ⟨rfl, rfl, trivial⟩)⟩, ⟨rfl, .run (lo := 0) (n := 1) ⟨fun G2 A => t_lM 4 rfl rfl (.agg tyA35), trivial⟩ (fun G2 => ⟨rfl, trivial⟩)⟩, ⟨rfl, .run (lo := 0) (n := 1) ⟨fun G2 A => t_faM (ps := (api_State.cod.e c1)) (k := 1) rfl tyF62_1, trivial⟩ (fun G2 => ⟨rfl, trivial⟩)⟩, ⟨rfl, .run (lo := 0) (n := 1) ⟨fun G2 A => t_lM 1 rfl rfl (.one tyO24), trivial⟩ (fun G2 => ⟨rfl, trivial⟩)⟩, ⟨rfl, .run (lo := 0) (n := 1) ⟨fun G2 A => t_mv (.inl rfl), trivial⟩ (fun G2 => ⟨rfl, trivial⟩)⟩, ⟨rfl, .run (lo := 0) (n := 1) ⟨fun G2 A => t_ix rfl tyS24 h7, trivial⟩ (fun G2 => ⟨rfl, rfl, trivial⟩)⟩, ⟨rfl, .run (lo := 0) (n := 1) ⟨fun G2 A => t_lM 4 rfl rfl (.agg tyA35), trivial⟩ (fun G2 => ⟨rfl, trivial⟩)⟩, ⟨rfl, .run (lo := 0) (n := 1) ⟨fun G2 A => t_faM (ps := (api_State.cod.e c2)) (k := 1) rfl tyF62_1, trivial⟩ (fun G2 => ⟨rfl, trivial⟩)⟩, ⟨rfl, .run (lo := 0) (n := 1) ⟨fun G2 A => t_lM 1 rfl rfl (.one tyO24), trivial⟩ (fun G2 => ⟨rfl, trivial⟩)⟩, ⟨rfl, .run (lo := 0) (n := 1) ⟨fun G2 A => t_mv (.inl rfl), trivial⟩ (fun G2 => ⟨rfl, trivial⟩)⟩, ⟨rfl, .run (lo := 0) (n := 1) ⟨fun G2 A => t_ix rfl tyS24 h9, trivial⟩ (fun G2 => ⟨rfl, rfl, trivial⟩)⟩, ⟨rfl, .run (lo := 0) (n := 1) ⟨fun G2 A => t_lM 4 rfl rfl (.agg tyA35), trivial⟩ (fun G2 => ⟨rfl, trivial⟩)⟩, ⟨rfl, .run (lo := 0) (n := 1) ⟨fun G2 A => t_call rfl (qc_rat_Sub h11) rfl, trivial⟩ (fun G2 => ⟨rfl, rfl, trivial⟩)⟩, ⟨rfl, .run (lo := 0) (n := 1) ⟨fun G2 A => t_call rfl (ct_energy_double h13) rfl, trivial⟩ (fun G2 => ⟨rfl, rfl, trivial⟩)⟩, trivial⟩ (fun bs3 G2 => ?_)
  refine r_op0 (t_s 0 rfl rfl rfl tyA35.s) ⟨rfl, rfl, trivial⟩ ?_
  refine r_nil (r_next (r_ret (r_toR ?_)))
  obtain rfl := sm1 hF
  exact r_done1 (.inl rfl) Tryz.results145 (rv_cell 0 4 rfl rfl rfl rfl (.agg tyA35) .nil) rfl rfl

abbrev N_energy_work : Nat := 93
def F_energy_work (a0 : List Rat) (a1 : api_State) (a2 : api_State) : Option energy_account :=
  some (⟨(a0.length : Int), (F_energy_work_1 a0 a2 a1)⟩ : energy_account)
set_option maxRecDepth 100000 in
theorem ct_energy_work {a0 : List Rat} {a1 : api_State} {a2 : api_State} {r : energy_account} (hF : F_energy_work a0 a1 a2 = some r) : Ct Tryz.prog 93 [.vc (pS cQ a0), .va (api_State.enc a1), .va (api_State.enc a2)] (.va (energy_account.enc r)) := by
  unfold F_energy_work at hF
  refine ctO_intro Tryz.func93 rfl (by kernel_rfl) Tryz.ntmps93 rfl (fun w0 M0 => ?_)
  refine r_seq (r_reg (r_box rfl rfl trivial (fun b1 => ?_)))
  refine r_box rfl rfl trivial (fun b2 => ?_)
  refine r_box rfl rfl trivial (fun b3 => ?_)
  refine r_alloc rfl tyZ104q (fun b4 => ?_)
  refine r_nil (r_next (r_seq (r_reg (r_op (t_l 3 1 rfl rfl rfl rfl (.one tyO24)) ⟨rfl, trivial⟩ ?_))))
  refine r_op (t_ln rfl tyS24) ⟨rfl, trivial⟩ ?_
  refine r_fvL 3 [(3, 0)] rfl ⟨rfl, trivial⟩ rfl ?_
  refine r_fvL 1 [(5, 0)] rfl ⟨rfl, trivial⟩ rfl ?_
  refine r_fvL 1 [(4, 0)] rfl ⟨rfl, trivial⟩ rfl ?_
  refine r_op (t_fnF (φ := (F_energy_work_1 a0 a2 a1)) (pre := fun x : Int => [.vc (pI .i64 x)]) (post := fun r : Rat => .va (eQ r)) (xs := [.tmp 3, .tmp 5, .tmp 4]) (cs := [pM ((cSl cQ).e a0), pM (api_State.cod.e a2), pM (api_State.cod.e a1)]) rfl rfl (fun x r h => ct_energy_work_1 h)) ⟨rfl, rfl, rfl, trivial⟩ ?_
  refine r_op (t_bld (is := [0, 1]) (xs := [.tmp 8, .tmp 9]) (ps := [.vc (pI .i64 (a0.length : Int)), .vc (pFn Tryz.prog (fun x : Int => [.vc (pI .i64 x)]) (fun r : Rat => .va (eQ r)) (F_energy_work_1 a0 a2 a1))]) rfl tyB104q rfl rfl ⟨trivial, trivial, trivial⟩ rfl) ⟨rfl, rfl, trivial⟩ ?_
  refine r_op0 (t_s 0 rfl rfl rfl tyA104.s) ⟨rfl, rfl, trivial⟩ ?_
  refine r_nil (r_next (r_ret (r_toR ?_)))
  obtain rfl := sm1 hF
  exact r_done1 (.inl rfl) Tryz.results93 (rv_cell 0 2 rfl rfl rfl rfl (.agg tyA104) .nil) rfl rfl

abbrev N_energy_Lost : Nat := 27
def F_energy_Lost (K : Nat) (a0 : api_Model) (a1 : List Rat) (a2 : api_State) (a3 : api_State) : Option Rat :=
  (F_energy_kinetic a0.dofs a2.v).bind fun v7 => (F_energy_stored a0.dofs a2.q).bind fun v9 => (F_energy_work a1 a2 a3).bind fun v11 => (F_energy_sum K [v7, v9, v11]).bind fun v13 => (F_energy_Total K a0 a3).bind fun v15 => (qsub v13 v15).bind fun v17 => some v17
set_option maxRecDepth 100000 in
theorem ct_energy_Lost {K : Nat} {a0 : api_Model} {a1 : List Rat} {a2 : api_State} {a3 : api_State} {r : Rat} (hF : F_energy_Lost K a0 a1 a2 a3 = some r) : Ct Tryz.prog 27 [.va (api_Model.enc a0), .vc (pS cQ a1), .va (api_State.enc a2), .va (api_State.enc a3)] (.va (eQ r)) := by
  unfold F_energy_Lost at hF
  refine ctO_intro Tryz.func27 rfl (by kernel_rfl) Tryz.ntmps27 rfl (fun w0 M0 => ?_)
  refine r_seq (r_reg (r_box rfl rfl trivial (fun b1 => ?_)))
  refine r_box rfl rfl trivial (fun b2 => ?_)
  refine r_box rfl rfl trivial (fun b3 => ?_)
  refine r_alloc rfl tyZ35q (fun b4 => ?_)
  refine r_nil (r_next (r_seq ?_))
  obtain ⟨v7, h8, hF⟩ := bnd hF
  obtain ⟨v9, h10, hF⟩ := bnd hF
  obtain ⟨v11, h12, hF⟩ := bnd hF
  obtain ⟨v13, h14, hF⟩ := bnd hF
  obtain ⟨v15, h16, hF⟩ := bnd hF
  obtain ⟨v17, h18, hF⟩ := bnd hF
  refine r_draw [0, 1, 0, 4, 15, 0, 32, 0, 128, 511, 0, 0, 0, 8191, 16383, 32767, 0, 0, 262143, 524287, 1048575] 20 1 [.v (.vc (pP (some b1) 0)), .v (.vc (pS api_Dof.cod a0.dofs)), .v (.vc (pP (some b2) 2)), .v (.vc (pS cQ a2.v)), .v (.va (energy_account.enc v7)), .v (.vc (pP (some b1) 0)), .v (.vc (pS api_Dof.cod a0.dofs)), .v (.vc (pP (some b2) 1)), .v (.vc (pS cQ a2.q)), .v (.va (energy_account.enc v9)), .v (.vc (pS cQ a1)), .v (.va (api_State.enc a2)), .v (.va (api_State.enc a3)), .v (.va (energy_account.enc v11)), .v (.vc (pS energy_account.cod [v7, v9, v11])), .v (.va (eQ v13)), .v (.va (api_Model.enc a0)), .v (.va (api_State.enc a3)), .v (.va (eQ v15)), .v (.va (eQ v17))] Tryz_mixed ⟨⟨rfl, .run (lo := 0) (n := 1) ⟨fun G5 A => t_fa (off := 0) (k := 0) rfl tyF57_0, trivial⟩ (fun G5 => ⟨rfl, trivial⟩)⟩, ⟨rfl, .run (lo := 0) (n := 1) ⟨fun G5 A => t_l 3 1 rfl rfl rfl rfl (.one tyO23), trivial⟩ (fun G5 => ⟨rfl, trivial⟩)⟩, ⟨rfl, .run (lo := 0) (n := 1) ⟨fun G5 A => t_fa (off := 0) (k := 2) rfl tyF62_2, trivial⟩ (fun G5 => ⟨rfl, trivial⟩)⟩, ⟨rfl, .run (lo := 0) (n := 1) ⟨fun G5 A => t_l 2 1 rfl rfl rfl rfl (.one tyO24), trivial⟩ (fun G5 => ⟨rfl, trivial⟩)⟩, ⟨rfl, .run (lo := 0) (n := 1) ⟨fun G5 A => t_call rfl (ct_energy_kinetic h8) rfl, trivial⟩ (fun G5 => ⟨rfl, rfl, trivial⟩)⟩, ⟨rfl, .run (lo := 0) (n := 1) ⟨fun G5 A => t_fa (off := 0) (k := 0) rfl tyF57_0, trivial⟩ (fun G5 => ⟨rfl, trivial⟩)⟩, ⟨rfl, .run (lo := 0) (n := 1) ⟨fun G5 A => t_l 3 1 rfl rfl rfl rfl (.one tyO23), trivial⟩ (fun G5 => ⟨rfl, trivial⟩)⟩, ⟨rfl, .run (lo := 0) (n := 1) ⟨fun G5 A => t_fa (off := 0) (k := 1) rfl tyF62_1, trivial⟩ (fun G5 => ⟨rfl, trivial⟩)⟩, ⟨rfl, .run (lo := 0) (n := 1) ⟨fun G5 A => t_l 2 1 rfl rfl rfl rfl (.one tyO24), trivial⟩ (fun G5 => ⟨rfl, trivial⟩)⟩, ⟨rfl, .run (lo := 0) (n := 1) ⟨fun G5 A => t_call rfl (ct_energy_stored h10) rfl, trivial⟩ (fun G5 => ⟨rfl, rfl, trivial⟩)⟩, ⟨rfl, .run (lo := 0) (n := 1) ⟨fun G5 A => t_mv (.inl rfl), trivial⟩ (fun G5 => ⟨rfl, trivial⟩)⟩, ⟨rfl, .run (lo := 0) (n := 1) ⟨fun G5 A => t_l 2 4 rfl rfl rfl rfl (.agg tyA62), trivial⟩ (fun G5 => ⟨rfl, trivial⟩)⟩, ⟨rfl, .run (lo := 0) (n := 1) ⟨fun G5 A => t_l 1 4 rfl rfl rfl rfl (.agg tyA62), trivial⟩ (fun G5 => ⟨rfl, trivial⟩)⟩, ⟨rfl, .run (lo := 0) (n := 1) ⟨fun G5 A => t_call rfl (ct_energy_work h12) rfl, trivial⟩ (fun G5 => ⟨rfl, rfl, rfl, trivial⟩)⟩, ⟨rfl, .run (lo := 0) (n := 1) ⟨fun G5 A => t_bs (C := energy_account.cod) (xs := [.tmp 13, .tmp 18, .tmp 22]) (ps := [.va (energy_account.enc v7), .va (energy_account.enc v9), .va (energy_account.enc v11)]) (zs := [v7, v9, v11]) rfl tyS155 rfl ⟨⟨trivial, rfl⟩, ⟨trivial, rfl⟩, ⟨trivial, rfl⟩, trivial⟩ rfl, trivial⟩ (fun G5 => ⟨rfl, rfl, rfl, trivial⟩)⟩, ⟨rfl, .run (lo := 0) (n := 1) ⟨fun G5 A => t_call rfl (ct_energy_sum h14) rfl, trivial⟩ (fun G5 => ⟨rfl, trivial⟩)⟩, ⟨rfl, .run (lo := 0) (n := 1) ⟨fun G5 A => t_l 3 4 rfl rfl rfl rfl (.agg tyA57), trivial⟩ (fun G5 => ⟨rfl, trivial⟩)⟩, ⟨rfl, .run (lo := 0) (n := 1) ⟨fun G5 A => t_l 1 4 rfl rfl rfl rfl (.agg tyA62), trivial⟩ (fun G5 => ⟨rfl, trivial⟩)⟩, ⟨rfl, .run (lo := 0) (n := 1) ⟨fun G5 A => t_call rfl (ct_energy_Total h16) rfl, trivial⟩ (fun G5 => ⟨rfl, rfl, trivial⟩)⟩, ⟨rfl, .run (lo := 0) (n := 1) ⟨fun G5 A => t_call rfl (qc_rat_Sub h18) rfl, trivial⟩ (fun G5 => ⟨rfl, rfl, trivial⟩)⟩, trivial⟩ (fun bs6 G5 => ?_)
  refine r_op0 (t_s 0 rfl rfl rfl tyA35.s) ⟨rfl, rfl, trivial⟩ ?_
  refine r_nil (r_next (r_ret (r_toR ?_)))
  obtain rfl := sm1 hF
  exact r_done1 (.inl rfl) Tryz.results27 (rv_cell 0 4 rfl rfl rfl rfl (.agg tyA35) .nil) rfl rfl

abbrev N_gantryref21_After : Nat := 94
def F_gantryref21_After_j33 (K : Nat) (a0 : api_State) (a2 : List Rat) (v3 : Int) (x26 : List Rat) : Option api_State :=
  some (⟨v3, x26, a2, a0.here⟩ : api_State)
def F_gantryref21_After_l32 (K : Nat) (a0 : api_State) (a1 : List Rat) : Nat → (List Rat) → Int → Option (List Rat)
  | 0, _, _ => none
  | k + 1, x19, x25 => bif (decide (x25 < (a0.q.length : Int))) then ((rdL a0.q x25).bind fun v37 => (rdL a1 x25).bind fun v39 => (qadd v37 v39).bind fun v41 => (apL x19 [v41]).bind fun x43 => (chk (x25 + 1)).bind fun v50 => F_gantryref21_After_l32 K a0 a1 k x43 v50) else (some x19)
def F_gantryref21_After (K : Nat) (a0 : api_State) (a1 : List Rat) (a2 : List Rat) : Option api_State :=
  (chk (a0.tick + 1)).bind fun v3 => (F_gantryref21_After_l32 K a0 a1 K ([] : List Rat) 0).bind fun x26 => F_gantryref21_After_j33 K a0 a2 v3 x26
set_option maxRecDepth 100000 in
theorem ct_gantryref21_After {K : Nat} {a0 : api_State} {a1 : List Rat} {a2 : List Rat} {r : api_State} (hF : F_gantryref21_After K a0 a1 a2 = some r) : Ct Tryz.prog 94 [.va (api_State.enc a0), .vc (pS cQ a1), .vc (pS cQ a2)] (.va (api_State.enc r)) := by
  unfold F_gantryref21_After at hF
  refine ctO_intro Tryz.func94 rfl (by kernel_rfl) Tryz.ntmps94 rfl (fun w0 M0 => ?_)
  refine r_seq (r_reg (r_box rfl rfl trivial (fun b1 => ?_)))
  refine r_alloc rfl tyZ62q (fun b2 => ?_)
  refine r_nil (r_next (r_seq (r_reg (r_op (t_fa (off := 0) (k := 0) rfl tyF62_0) ⟨rfl, trivial⟩ ?_))))
  refine r_op (t_l 1 1 rfl rfl rfl rfl (.one tyO3)) ⟨rfl, trivial⟩ ?_
  obtain ⟨v3, h4, hF⟩ := bnd hF
  refine r_op (t_add rfl h4) ⟨rfl, k_I _ _, trivial⟩ ?_
  refine r_mv ?_
  refine r_op (t_fa (off := 0) (k := 3) rfl tyF62_3) ⟨rfl, trivial⟩ ?_
  refine r_op (t_l 1 1 rfl rfl rfl rfl (.one tyO60)) ⟨rfl, trivial⟩ ?_
  refine r_newL cQ 35 ?_
  refine r_op (t_bld (is := [0, 2, 3]) (xs := [.tmp 11, .tmp 12, .tmp 14]) (ps := [.vc (pI .i64 v3), .vc (pS cQ a2), .vc (pS cB a0.here)]) rfl tyB62_o1q rfl rfl ⟨trivial, trivial, trivial, trivial⟩ rfl) ⟨rfl, rfl, rfl, trivial⟩ ?_
  refine r_alloc rfl tyZ62q (fun b11 => ?_)
  refine r_op0 (t_s 0 rfl rfl rfl tyA62.s) ⟨rfl, rfl, trivial⟩ ?_
  refine r_nil (r_next (r_seq (r_seq (r_reg (r_op (t_mv (.inr rfl)) ⟨k_I _ _, trivial⟩ ?_)))))
  refine r_nil (r_next (r_blk (r_cutN (fun H E => ∃ (x26 : List Rat), ∃ (b27 : Option Nat), ∃ (c28 : Nat), ∃ (n29 : Nat), F_gantryref21_After_j33 K a0 a2 v3 x26 = some r ∧ x26.length = n29 ∧ H = [⟨some b11, 1, 62, 4, 1, ([pI .i64 v3] ++ [pO b27 n29 c28] ++ [pS cQ a2] ++ [pS cB a0.here])⟩, hO cQ b27 c28 35 n29 x26, ⟨some b2, 1, 62, 4, 1, ([pI .i64 0] ++ [pS cQ ([] : List Rat)] ++ [pS cQ ([] : List Rat)] ++ [pS cB ([] : List Bool)])⟩] ∧ E = [(6, .vc (pP (some b2) 0)), (7, .vc (pP (some b11) 0))]) ?_ (fun Jj33 => ?_))))
  · rintro _ _ ⟨x26, b27, c28, n29, hF, q30, rfl, rfl⟩
    unfold F_gantryref21_After_j33 at hF
    refine r_next (r_seq (r_reg (r_fbL 1 0 1 rfl q30 rfl rfl rfl rfl rfl ?_)))
    refine r_op (t_l 0 4 rfl rfl rfl rfl (.agg tyA62)) ⟨rfl, trivial⟩ ?_
    refine r_op0 (t_s 1 rfl rfl rfl tyA62.s) ⟨rfl, rfl, trivial⟩ ?_
    refine r_nil (r_next (r_ret (r_toR ?_)))
    obtain rfl := sm1 hF
    exact r_done1 (.inl rfl) Tryz.results94 (rv_cell 1 4 rfl rfl rfl rfl (.agg tyA62) .nil) rfl rfl
  · skip
    obtain ⟨x26', hL, hRl32⟩ := bnd hF
    refine r_lp (fun k a w => ∃ (x19 : List Rat), ∃ (x25 : Int), ∃ (b20 : Option Nat), ∃ (c21 : Nat), ∃ (n22 : Nat), F_gantryref21_After_l32 K a0 a1 k x19 x25 = some x26' ∧ x19.length = n22 ∧ hs _ [⟨some b11, 1, 62, 4, 1, ([pI .i64 v3] ++ [pO b20 n22 c21] ++ [pS cQ a2] ++ [pS cB a0.here])⟩, hO cQ b20 c21 35 n22 x19, ⟨some b2, 1, 62, 4, 1, ([pI .i64 0] ++ [pS cQ ([] : List Rat)] ++ [pS cQ ([] : List Rat)] ++ [pS cB ([] : List Bool)])⟩, ⟨some b1, 1, 62, 4, 1, (api_State.enc a0)⟩] [(1, .vc (pS cQ a1)), (3, .vc (pP (some b1) 0)), (6, .vc (pP (some b2) 0)), (7, .vc (pP (some b11) 0)), (8, .vc (pI .i64 x25))] a w) K (fun a w ⟨_, _, _, _, _, hF, _, _⟩ => by cases hF) (fun k a w ⟨x19, x25, b20, c21, n22, hF, q23, hh⟩ => r_at ?_ hh) (fun a w hh => ⟨([] : List Rat), 0, none, 0, 0, hL, rfl, hs_back [0, 1, 2, 3] rfl (by decide) (by exact ⟨rfl, rfl, rfl, rfl, rfl, trivial⟩) hh⟩)
    rw [F_gantryref21_After_l32.eq_2] at hF
    refine r_seq (r_seq (r_reg (r_mv ?_)))
    refine r_op (t_fa (off := 0) (k := 1) rfl tyF62_1) ⟨rfl, trivial⟩ ?_
    refine r_op (t_l 3 1 rfl rfl rfl rfl (.one tyO24)) ⟨rfl, trivial⟩ ?_
    refine r_op (t_ln rfl tyS24) ⟨rfl, trivial⟩ ?_
    refine r_op (t_lt rfl) ⟨rfl, rfl, trivial⟩ ?_
    refine r_nil (r_next (r_if rfl (fun h34 => ?_) (fun h34 => ?_)))
    · have hF := cnd_t h34 hF
      refine r_skip (r_next (r_seq (r_blk ?_)))
      obtain ⟨v37, h38, hF⟩ := bnd hF
      obtain ⟨v39, h40, hF⟩ := bnd hF
      obtain ⟨v41, h42, hF⟩ := bnd hF
      refine r_draw [0, 1, 0, 4, 0, 28, 60, 0, 0, 384, 896, 2044, 4092, 8191, 16383, 32767] 13 3 [.v (.vc (pP (some b11) 1)), .v (.vc (pO b20 n22 c21)), .v (.vc (pP (some b1) 1)), .v (.vc (pS cQ a0.q)), .v (.vc (pI .i64 x25)), .v (.vc (pM (cQ.e v37))), .v (.va (eQ v37)), .v (.vc (pS cQ a1)), .v (.vc (pI .i64 x25)), .v (.vc (pM (cQ.e v39))), .v (.va (eQ v39)), .v (.va (eQ v41)), .v (.vc (pS cQ [v41]))] Tryz_mixed ⟨⟨rfl, .run (lo := 0) (n := 1) ⟨fun G35 A => t_fa (off := 0) (k := 1) rfl tyF62_1, trivial⟩ (fun G35 => ⟨rfl, trivial⟩)⟩, ⟨rfl, .run (lo := 0) (n := 1) ⟨fun G35 A => t_l 0 1 rfl rfl rfl rfl (.one tyO24), trivial⟩ (fun G35 => ⟨rfl, trivial⟩)⟩, ⟨rfl, .run (lo := 0) (n := 1) ⟨fun G35 A => t_fa (off := 0) (k := 1) rfl tyF62_1, trivial⟩ (fun G35 => ⟨rfl, trivial⟩)⟩, ⟨rfl, .run (lo := 0) (n := 1) ⟨fun G35 A => t_l 3 1 rfl rfl rfl rfl (.one tyO24), trivial⟩ (fun G35 => ⟨rfl, trivial⟩)⟩, ⟨rfl, .run (lo := 0) (n := 1) ⟨fun G35 A => t_mv (.inl rfl), trivial⟩ (fun G35 => ⟨rfl, trivial⟩)⟩, ⟨rfl, .run (lo := 0) (n := 1) ⟨fun G35 A => t_ix rfl tyS24 h38, trivial⟩ (fun G35 => ⟨rfl, rfl, trivial⟩)⟩, ⟨rfl, .run (lo := 0) (n := 1) ⟨fun G35 A => t_lM 4 rfl rfl (.agg tyA35), trivial⟩ (fun G35 => ⟨rfl, trivial⟩)⟩, ⟨rfl, .run (lo := 0) (n := 1) ⟨fun G35 A => t_mv (.inl rfl), trivial⟩ (fun G35 => ⟨rfl, trivial⟩)⟩, ⟨rfl, .run (lo := 0) (n := 1) ⟨fun G35 A => t_mv (.inl rfl), trivial⟩ (fun G35 => ⟨rfl, trivial⟩)⟩, ⟨rfl, .run (lo := 0) (n := 1) ⟨fun G35 A => t_ix rfl tyS24 h40, trivial⟩ (fun G35 => ⟨rfl, rfl, trivial⟩)⟩, ⟨rfl, .run (lo := 0) (n := 1) ⟨fun G35 A => t_lM 4 rfl rfl (.agg tyA35), trivial⟩ (fun G35 => ⟨rfl, trivial⟩)⟩, ⟨rfl, .run (lo := 0) (n := 1) ⟨fun G35 A => t_call rfl (qc_gantryref05_Add h42) rfl, trivial⟩ (fun G35 => ⟨rfl, rfl, trivial⟩)⟩, ⟨rfl, .run (lo := 0) (n := 1) ⟨fun G35 A => t_bs (C := cQ) (xs := [.tmp 34]) (ps := [.va (eQ v41)]) (zs := [v41]) rfl tyS24 rfl ⟨⟨trivial, rfl⟩, trivial⟩ rfl, trivial⟩ (fun G35 => ⟨rfl, trivial⟩)⟩, trivial⟩ (fun bs36 G35 => ?_)
      obtain ⟨x43, h44, hF⟩ := bnd hF
      refine r_app 1 rfl tyS24 rfl rfl q23 rfl rfl h44 (fun b45 c46 H47 e48 => ?_)
      cases e48
      refine r_op (t_fa (off := 0) (k := 1) rfl tyF62_1) ⟨rfl, trivial⟩ ?_
      refine r_op0 (t_s 0 rfl rfl rfl tyO24.s) ⟨rfl, rfl, trivial⟩ ?_
      refine r_nil (r_blkN (r_next (r_reg (r_mv ?_))))
      obtain ⟨v50, h51, hF⟩ := bnd hF
      refine r_op (t_add rfl h51) ⟨rfl, k_I _ _, trivial⟩ ?_
      refine r_as ?_
      refine r_nil ?_
      exact r_round (fun a w hh => ⟨x43, v50, b45, c46, (n22 + [v41].length), hF, (apL_len h44 q23), hs_back [0, 1, 2, 3] rfl (by decide) (by exact ⟨rfl, rfl, rfl, rfl, rfl, trivial⟩) hh⟩)
    · have hF := cnd_f h34 hF
      refine r_brk ?_
      obtain rfl := sm1 hF
      exact r_backJ Jj33 ⟨x19, b20, c21, n22, hRl32, q23, rfl, rfl⟩ [0, 1, 2] rfl ⟨rfl, rfl, trivial⟩

abbrev N_gantryref21_Pressed : Nat := 28
def F_gantryref21_Pressed_j49 (K : Nat) (a0 : api_State) (x36 : List Rat) (x42 : List Rat) : Option api_State :=
  (F_gantryref21_After K a0 x42 x36).bind fun v50 => some v50
def F_gantryref21_Pressed_l48 (K : Nat) (a0 : api_State) (a1 : List Rat) (v7 : Rat) : Nat → (List Rat) → (List Rat) → Int → Option ((List Rat) × (List Rat))
  | 0, _, _, _ => none
  | k + 1, x23, x29, x35 => bif (decide (x35 < (a1.length : Int))) then ((rdL a0.v x35).bind fun v55 => (rdL a1 x35).bind fun v57 => (qmul v7 v57).bind fun v59 => (qadd v55 v59).bind fun v61 => (apL x29 [v61]).bind fun x63 => (rdL a0.v x35).bind fun v72 => (rdL a1 x35).bind fun v74 => (qadd v72 v74).bind fun v76 => (apL x23 [v76]).bind fun x78 => (chk (x35 + 1)).bind fun v85 => F_gantryref21_Pressed_l48 K a0 a1 v7 k x78 x63 v85) else (some (x23, x29))
def F_gantryref21_Pressed (K : Nat) (a0 : api_State) (a1 : List Rat) : Option api_State :=
  (qof 1 2).bind fun v7 => (F_gantryref21_Pressed_l48 K a0 a1 v7 K ([] : List Rat) ([] : List Rat) 0).bind fun (x36, x42) => F_gantryref21_Pressed_j49 K a0 x36 x42
set_option maxRecDepth 100000 in
theorem ct_gantryref21_Pressed {K : Nat} {a0 : api_State} {a1 : List Rat} {r : api_State} (hF : F_gantryref21_Pressed K a0 a1 = some r) : Ct Tryz.prog 28 [.va (api_State.enc a0), .vc (pS cQ a1)] (.va (api_State.enc r)) := by
  unfold F_gantryref21_Pressed at hF
  refine ctO_intro Tryz.func28 rfl (by kernel_rfl) Tryz.ntmps28 rfl (fun w0 M0 => ?_)
  refine r_seq (r_reg (r_box rfl rfl trivial (fun b1 => ?_)))
  refine r_alloc rfl tyZ62q (fun b2 => ?_)
  refine r_nil (r_next (r_seq (r_reg (r_nilO cQ 35 rfl ?_))))
  refine r_nil (r_next (r_seq (r_reg (r_nilO cQ 35 rfl ?_))))
  refine r_nil (r_next (r_seq (r_reg ?_)))
  obtain ⟨v7, h8, hF⟩ := bnd hF
  refine r_op (t_call rfl (qc_gantryref05_Of h8) rfl) ⟨k_I _ _, k_I _ _, trivial⟩ ?_
  refine r_alloc rfl tyZ35q (fun b9 => ?_)
  refine r_op0 (t_s 0 rfl rfl rfl tyA35.s) ⟨rfl, rfl, trivial⟩ ?_
  refine r_nil (r_next (r_seq (r_seq (r_reg (r_op (t_mv (.inr rfl)) ⟨k_I _ _, trivial⟩ ?_)))))
  refine r_nil (r_next (r_blk (r_cutN (fun H E => ∃ (x36 : List Rat), ∃ (x42 : List Rat), ∃ (b37 : Option Nat), ∃ (c38 : Nat), ∃ (n39 : Nat), ∃ (b43 : Option Nat), ∃ (c44 : Nat), ∃ (n45 : Nat), F_gantryref21_Pressed_j49 K a0 x36 x42 = some r ∧ x36.length = n39 ∧ x42.length = n45 ∧ H = [hO cQ b37 c38 35 n39 x36, hO cQ b43 c44 35 n45 x42, ⟨some b2, 1, 62, 4, 1, ([pI .i64 0] ++ [pS cQ ([] : List Rat)] ++ [pS cQ ([] : List Rat)] ++ [pS cB ([] : List Bool)])⟩, ⟨some b1, 1, 62, 4, 1, (api_State.enc a0)⟩] ∧ E = [(2, .vc (pP (some b1) 0)), (4, .vc (pP (some b2) 0)), (5, .vc (pO b43 n45 c44)), (6, .vc (pO b37 n39 c38))]) ?_ (fun Jj49 => ?_))))
  · rintro _ _ ⟨x36, x42, b37, c38, n39, b43, c44, n45, hF, q40, q46, rfl, rfl⟩
    unfold F_gantryref21_Pressed_j49 at hF
    refine r_next (r_seq (r_reg (r_op (t_l 3 4 rfl rfl rfl rfl (.agg tyA62)) ⟨rfl, trivial⟩ ?_)))
    refine r_mv ?_
    refine r_mv ?_
    refine r_fzL 1 [5, 45] rfl q46 ⟨rfl, rfl, trivial⟩ rfl ?_
    refine r_fzL 0 [6, 46] rfl q40 ⟨rfl, rfl, trivial⟩ rfl ?_
    obtain ⟨v50, h51, hF⟩ := bnd hF
    refine r_op (t_call rfl (ct_gantryref21_After h51) rfl) ⟨rfl, rfl, rfl, trivial⟩ ?_
    refine r_op0 (t_s 0 rfl rfl rfl tyA62.s) ⟨rfl, rfl, trivial⟩ ?_
    refine r_nil (r_next (r_ret (r_toR ?_)))
    obtain rfl := sm1 hF
    exact r_done1 (.inl rfl) Tryz.results28 (rv_cell 0 4 rfl rfl rfl rfl (.agg tyA62) .nil) rfl rfl
  · skip
    obtain ⟨⟨x36', x42'⟩, hL, hRl48⟩ := bnd hF
    refine r_lp (fun k a w => ∃ (x23 : List Rat), ∃ (x29 : List Rat), ∃ (x35 : Int), ∃ (b24 : Option Nat), ∃ (c25 : Nat), ∃ (n26 : Nat), ∃ (b30 : Option Nat), ∃ (c31 : Nat), ∃ (n32 : Nat), F_gantryref21_Pressed_l48 K a0 a1 v7 k x23 x29 x35 = some (x36', x42') ∧ x23.length = n26 ∧ x29.length = n32 ∧ hs _ [⟨some b9, 1, 35, 4, 1, (eQ v7)⟩, hO cQ b24 c25 35 n26 x23, hO cQ b30 c31 35 n32 x29, ⟨some b2, 1, 62, 4, 1, ([pI .i64 0] ++ [pS cQ ([] : List Rat)] ++ [pS cQ ([] : List Rat)] ++ [pS cB ([] : List Bool)])⟩, ⟨some b1, 1, 62, 4, 1, (api_State.enc a0)⟩] [(1, .vc (pS cQ a1)), (2, .vc (pP (some b1) 0)), (4, .vc (pP (some b2) 0)), (5, .vc (pO b30 n32 c31)), (6, .vc (pO b24 n26 c25)), (7, .vc (pP (some b9) 0)), (8, .vc (pI .i64 x35))] a w) K (fun a w ⟨_, _, _, _, _, _, _, _, _, hF, _, _, _⟩ => by cases hF) (fun k a w ⟨x23, x29, x35, b24, c25, n26, b30, c31, n32, hF, q27, q33, hh⟩ => r_at ?_ hh) (fun a w hh => ⟨([] : List Rat), ([] : List Rat), 0, none, 0, 0, none, 0, 0, hL, rfl, rfl, hs_back [0, 1, 2, 3, 4] rfl (by decide) (by exact ⟨rfl, rfl, rfl, rfl, rfl, rfl, rfl, trivial⟩) hh⟩)
    rw [F_gantryref21_Pressed_l48.eq_2] at hF
    refine r_seq (r_seq (r_reg (r_mv ?_)))
    refine r_mv ?_
    refine r_op (t_ln rfl tyS24) ⟨rfl, trivial⟩ ?_
    refine r_op (t_lt rfl) ⟨rfl, rfl, trivial⟩ ?_
    refine r_nil (r_next (r_if rfl (fun h52 => ?_) (fun h52 => ?_)))
    · have hF := cnd_t h52 hF
      refine r_skip (r_next (r_seq (r_blk (r_seq ?_))))
      obtain ⟨v55, h56, hF⟩ := bnd hF
      obtain ⟨v57, h58, hF⟩ := bnd hF
      obtain ⟨v59, h60, hF⟩ := bnd hF
      obtain ⟨v61, h62, hF⟩ := bnd hF
      refine r_draw [0, 0, 2, 0, 14, 30, 0, 0, 0, 384, 896, 1984, 4094, 8190, 16383, 32767] 14 2 [.v (.vc (pO b30 n32 c31)), .v (.vc (pP (some b1) 2)), .v (.vc (pS cQ a0.v)), .v (.vc (pI .i64 x35)), .v (.vc (pM (cQ.e v55))), .v (.va (eQ v55)), .v (.va (eQ v7)), .v (.vc (pS cQ a1)), .v (.vc (pI .i64 x35)), .v (.vc (pM (cQ.e v57))), .v (.va (eQ v57)), .v (.va (eQ v59)), .v (.va (eQ v61)), .v (.vc (pS cQ [v61]))] Tryz_mixed ⟨⟨rfl, .run (lo := 0) (n := 1) ⟨fun G53 A => t_mv (.inl rfl), trivial⟩ (fun G53 => ⟨rfl, trivial⟩)⟩, ⟨rfl, .run (lo := 0) (n := 1) ⟨fun G53 A => t_fa (off := 0) (k := 2) rfl tyF62_2, trivial⟩ (fun G53 => ⟨rfl, trivial⟩)⟩, ⟨rfl, .run (lo := 0) (n := 1) ⟨fun G53 A => t_l 4 1 rfl rfl rfl rfl (.one tyO24), trivial⟩ (fun G53 => ⟨rfl, trivial⟩)⟩, ⟨rfl, .run (lo := 0) (n := 1) ⟨fun G53 A => t_mv (.inl rfl), trivial⟩ (fun G53 => ⟨rfl, trivial⟩)⟩, ⟨rfl, .run (lo := 0) (n := 1) ⟨fun G53 A => t_ix rfl tyS24 h56, trivial⟩ (fun G53 => ⟨rfl, rfl, trivial⟩)⟩, ⟨rfl, .run (lo := 0) (n := 1) ⟨fun G53 A => t_lM 4 rfl rfl (.agg tyA35), trivial⟩ (fun G53 => ⟨rfl, trivial⟩)⟩, ⟨rfl, .run (lo := 0) (n := 1) ⟨fun G53 A => t_l 0 4 rfl rfl rfl rfl (.agg tyA35), trivial⟩ (fun G53 => ⟨rfl, trivial⟩)⟩, ⟨rfl, .run (lo := 0) (n := 1) ⟨fun G53 A => t_mv (.inl rfl), trivial⟩ (fun G53 => ⟨rfl, trivial⟩)⟩, ⟨rfl, .run (lo := 0) (n := 1) ⟨fun G53 A => t_mv (.inl rfl), trivial⟩ (fun G53 => ⟨rfl, trivial⟩)⟩, ⟨rfl, .run (lo := 0) (n := 1) ⟨fun G53 A => t_ix rfl tyS24 h58, trivial⟩ (fun G53 => ⟨rfl, rfl, trivial⟩)⟩, ⟨rfl, .run (lo := 0) (n := 1) ⟨fun G53 A => t_lM 4 rfl rfl (.agg tyA35), trivial⟩ (fun G53 => ⟨rfl, trivial⟩)⟩, ⟨rfl, .run (lo := 0) (n := 1) ⟨fun G53 A => t_call rfl (qc_gantryref05_Mul h60) rfl, trivial⟩ (fun G53 => ⟨rfl, rfl, trivial⟩)⟩, ⟨rfl, .run (lo := 0) (n := 1) ⟨fun G53 A => t_call rfl (qc_gantryref05_Add h62) rfl, trivial⟩ (fun G53 => ⟨rfl, rfl, trivial⟩)⟩, ⟨rfl, .run (lo := 0) (n := 1) ⟨fun G53 A => t_bs (C := cQ) (xs := [.tmp 28]) (ps := [.va (eQ v61)]) (zs := [v61]) rfl tyS24 rfl ⟨⟨trivial, rfl⟩, trivial⟩ rfl, trivial⟩ (fun G53 => ⟨rfl, trivial⟩)⟩, trivial⟩ (fun bs54 G53 => ?_)
      obtain ⟨x63, h64, hF⟩ := bnd hF
      refine r_app 2 rfl tyS24 rfl rfl q33 rfl rfl h64 (fun b65 c66 H67 e68 => ?_)
      cases e68
      refine r_as ?_
      refine r_nil (r_next ?_)
      obtain ⟨v72, h73, hF⟩ := bnd hF
      obtain ⟨v74, h75, hF⟩ := bnd hF
      obtain ⟨v76, h77, hF⟩ := bnd hF
      refine r_draw [0, 0, 2, 0, 14, 30, 0, 0, 192, 448, 1022, 2046, 4095, 8191] 12 2 [.v (.vc (pO b24 n26 c25)), .v (.vc (pP (some b1) 2)), .v (.vc (pS cQ a0.v)), .v (.vc (pI .i64 x35)), .v (.vc (pM (cQ.e v72))), .v (.va (eQ v72)), .v (.vc (pS cQ a1)), .v (.vc (pI .i64 x35)), .v (.vc (pM (cQ.e v74))), .v (.va (eQ v74)), .v (.va (eQ v76)), .v (.vc (pS cQ [v76]))] Tryz_mixed ⟨⟨rfl, .run (lo := 0) (n := 1) ⟨fun G70 A => t_mv (.inl rfl), trivial⟩ (fun G70 => ⟨rfl, trivial⟩)⟩, ⟨rfl, .run (lo := 0) (n := 1) ⟨fun G70 A => t_fa (off := 0) (k := 2) rfl tyF62_2, trivial⟩ (fun G70 => ⟨rfl, trivial⟩)⟩, ⟨rfl, .run (lo := 0) (n := 1) ⟨fun G70 A => t_l 4 1 rfl rfl rfl rfl (.one tyO24), trivial⟩ (fun G70 => ⟨rfl, trivial⟩)⟩, ⟨rfl, .run (lo := 0) (n := 1) ⟨fun G70 A => t_mv (.inl rfl), trivial⟩ (fun G70 => ⟨rfl, trivial⟩)⟩, ⟨rfl, .run (lo := 0) (n := 1) ⟨fun G70 A => t_ix rfl tyS24 h73, trivial⟩ (fun G70 => ⟨rfl, rfl, trivial⟩)⟩, ⟨rfl, .run (lo := 0) (n := 1) ⟨fun G70 A => t_lM 4 rfl rfl (.agg tyA35), trivial⟩ (fun G70 => ⟨rfl, trivial⟩)⟩, ⟨rfl, .run (lo := 0) (n := 1) ⟨fun G70 A => t_mv (.inl rfl), trivial⟩ (fun G70 => ⟨rfl, trivial⟩)⟩, ⟨rfl, .run (lo := 0) (n := 1) ⟨fun G70 A => t_mv (.inl rfl), trivial⟩ (fun G70 => ⟨rfl, trivial⟩)⟩, ⟨rfl, .run (lo := 0) (n := 1) ⟨fun G70 A => t_ix rfl tyS24 h75, trivial⟩ (fun G70 => ⟨rfl, rfl, trivial⟩)⟩, ⟨rfl, .run (lo := 0) (n := 1) ⟨fun G70 A => t_lM 4 rfl rfl (.agg tyA35), trivial⟩ (fun G70 => ⟨rfl, trivial⟩)⟩, ⟨rfl, .run (lo := 0) (n := 1) ⟨fun G70 A => t_call rfl (qc_gantryref05_Add h77) rfl, trivial⟩ (fun G70 => ⟨rfl, rfl, trivial⟩)⟩, ⟨rfl, .run (lo := 0) (n := 1) ⟨fun G70 A => t_bs (C := cQ) (xs := [.tmp 41]) (ps := [.va (eQ v76)]) (zs := [v76]) rfl tyS24 rfl ⟨⟨trivial, rfl⟩, trivial⟩ rfl, trivial⟩ (fun G70 => ⟨rfl, trivial⟩)⟩, trivial⟩ (fun bs71 G70 => ?_)
      obtain ⟨x78, h79, hF⟩ := bnd hF
      refine r_app 1 rfl tyS24 rfl rfl q27 rfl rfl h79 (fun b80 c81 H82 e83 => ?_)
      cases e83
      refine r_as ?_
      refine r_nil (r_blkN (r_next (r_reg (r_mv ?_))))
      obtain ⟨v85, h86, hF⟩ := bnd hF
      refine r_op (t_add rfl h86) ⟨rfl, k_I _ _, trivial⟩ ?_
      refine r_as ?_
      refine r_nil ?_
      exact r_round (fun a w hh => ⟨x78, x63, v85, b80, c81, (n26 + [v76].length), b65, c66, (n32 + [v61].length), hF, (apL_len h79 q27), (apL_len h64 q33), hs_back [0, 1, 2, 3, 4] rfl (by decide) (by exact ⟨rfl, rfl, rfl, rfl, rfl, rfl, rfl, trivial⟩) hh⟩)
    · have hF := cnd_f h52 hF
      refine r_brk ?_
      obtain ⟨rfl, rfl⟩ := sm2 hF
      exact r_backJ Jj49 ⟨x23, x29, b24, c25, n26, b30, c31, n32, hRl48, q27, q33, rfl, rfl⟩ [1, 2, 3, 4] rfl ⟨rfl, rfl, rfl, rfl, trivial⟩

abbrev N_gantrylaw21_EnergyFree : Nat := 4
def F_gantrylaw21_EnergyFree_j39 (K : Nat) (v1 : api_Model) (v6 : List Rat) (v8 : List Rat) (x10 : List Bool) (v12 : List Rat) (x32 : List Rat) : Option Bool :=
  (F_gantryref21_Pressed K (⟨0, v6, v8, x10⟩ : api_State) x32).bind fun v42 => (F_energy_Lost K v1 v12 (⟨0, v6, v8, x10⟩ : api_State) v42).bind fun v44 => (qsgn v44).bind fun v46 => bif (v46 == 0) then ((F_gantrylaw21_lives K ).bind fun v49 => some v49) else (some false)
def F_gantrylaw21_EnergyFree_l38 (K : Nat) (v1 : api_Model) (v14 : List Rat) : Nat → (List Rat) → Int → Option (List Rat)
  | 0, _, _ => none
  | k + 1, x25, x31 => bif (decide (x31 < (v1.dofs.length : Int))) then ((rdL v1.dofs x31).bind fun v54 => (rdL v14 x31).bind fun v56 => (qmul v54.inv v56).bind fun v58 => (apL x25 [v58]).bind fun x60 => (chk (x31 + 1)).bind fun v67 => F_gantrylaw21_EnergyFree_l38 K v1 v14 k x60 v67) else (some x25)
def F_gantrylaw21_EnergyFree (K : Nat) (a0 : List Int) (a1 : List Int) : Option Bool :=
  (F_gantryref15_Model K a0).bind fun v1 => (F_gantrylaw21_numbers K a1 0 (v1.dofs.length : Int)).bind fun v6 => (F_gantrylaw21_numbers K a1 12 (v1.dofs.length : Int)).bind fun v8 => (mkL (v1.parts.length : Int) false).bind fun x10 => (F_gantrylaw21_numbers K a1 24 (v1.dofs.length : Int)).bind fun v12 => (F_gantryref21_Loads K v1.dofs v12).bind fun v14 => (F_gantrylaw21_EnergyFree_l38 K v1 v14 K ([] : List Rat) 0).bind fun x32 => F_gantrylaw21_EnergyFree_j39 K v1 v6 v8 x10 v12 x32
set_option maxRecDepth 100000 in
theorem ct_gantrylaw21_EnergyFree {K : Nat} {a0 : List Int} {a1 : List Int} {r : Bool} (hF : F_gantrylaw21_EnergyFree K a0 a1 = some r) : Ct Tryz.prog 4 [.vc (pS cI a0), .vc (pS cI a1)] (.vc (pB r)) := by
  unfold F_gantrylaw21_EnergyFree at hF
  refine ctO_intro Tryz.func4 rfl (by kernel_rfl) Tryz.ntmps4 rfl (fun w0 M0 => ?_)
  refine r_seq (r_reg (r_op (t_mv (.inr rfl)) ⟨k_B _, trivial⟩ ?_))
  refine r_nil (r_next (r_seq (r_reg (r_mv ?_))))
  obtain ⟨v1, h2, hF⟩ := bnd hF
  refine r_op (t_call rfl (ct_gantryref15_Model h2) rfl) ⟨rfl, trivial⟩ ?_
  refine r_alloc rfl tyZ57q (fun b3 => ?_)
  refine r_op0 (t_s 0 rfl rfl rfl tyA57.s) ⟨rfl, rfl, trivial⟩ ?_
  refine r_nil (r_next (r_seq (r_reg (r_op (t_fa (off := 0) (k := 0) rfl tyF57_0) ⟨rfl, trivial⟩ ?_))))
  refine r_op (t_l 0 1 rfl rfl rfl rfl (.one tyO23)) ⟨rfl, trivial⟩ ?_
  refine r_op (t_ln rfl tyS23) ⟨rfl, trivial⟩ ?_
  refine r_as ?_
  refine r_nil (r_next (r_seq ?_))
  obtain ⟨v6, h7, hF⟩ := bnd hF
  obtain ⟨v8, h9, hF⟩ := bnd hF
  obtain ⟨x10, h11, hF⟩ := bnd hF
  refine r_draw [0, 0, 3, 0, 0, 31, 0, 64, 192, 448, 1023, 0, 4095] 12 1 [.v (.vc (pS cI a1)), .v (.vc (pI .i64 (v1.dofs.length : Int))), .v (.vc (pS cQ v6)), .v (.vc (pS cI a1)), .v (.vc (pI .i64 (v1.dofs.length : Int))), .v (.vc (pS cQ v8)), .v (.vc (pP (some b3) 1)), .v (.vc (pS api_Part.cod v1.parts)), .v (.vc (pI .i64 (v1.parts.length : Int))), .v (.vc (pS cB x10)), .v (.va ([pI .i64 0] ++ [pS cQ v6] ++ [pS cQ v8] ++ [pS cB x10])), .a 62 ([pI .i64 0] ++ [pS cQ ([] : List Rat)] ++ [pS cQ ([] : List Rat)] ++ [pS cB ([] : List Bool)])] Tryz_mixed ⟨⟨rfl, .run (lo := 0) (n := 1) ⟨fun G4 A => t_mv (.inl rfl), trivial⟩ (fun G4 => ⟨rfl, trivial⟩)⟩, ⟨rfl, .run (lo := 0) (n := 1) ⟨fun G4 A => t_mv (.inl rfl), trivial⟩ (fun G4 => ⟨rfl, trivial⟩)⟩, ⟨rfl, .run (lo := 0) (n := 1) ⟨fun G4 A => t_call rfl (ct_gantrylaw21_numbers h7) rfl, trivial⟩ (fun G4 => ⟨rfl, k_I _ _, rfl, trivial⟩)⟩, ⟨rfl, .run (lo := 0) (n := 1) ⟨fun G4 A => t_mv (.inl rfl), trivial⟩ (fun G4 => ⟨rfl, trivial⟩)⟩, ⟨rfl, .run (lo := 0) (n := 1) ⟨fun G4 A => t_mv (.inl rfl), trivial⟩ (fun G4 => ⟨rfl, trivial⟩)⟩, ⟨rfl, .run (lo := 0) (n := 1) ⟨fun G4 A => t_call rfl (ct_gantrylaw21_numbers h9) rfl, trivial⟩ (fun G4 => ⟨rfl, k_I _ _, rfl, trivial⟩)⟩, ⟨rfl, .run (lo := 0) (n := 1) ⟨fun G4 A => t_fa (off := 0) (k := 1) rfl tyF57_1, trivial⟩ (fun G4 => ⟨rfl, trivial⟩)⟩, ⟨rfl, .run (lo := 0) (n := 1) ⟨fun G4 A => t_l 0 1 rfl rfl rfl rfl (.one tyO53), trivial⟩ (fun G4 => ⟨rfl, trivial⟩)⟩, ⟨rfl, .run (lo := 0) (n := 1) ⟨fun G4 A => t_ln rfl tyS53, trivial⟩ (fun G4 => ⟨rfl, trivial⟩)⟩, ⟨rfl, .run (lo := 0) (n := 1) ⟨fun G4 A => tr_frz 0 (hv_make (C := cB) rfl tyS60 rfl tyZ4q h11) (fun _ _ => rfl) rfl (fun _ _ => rfl), trivial⟩ (fun G4 => ⟨rfl, trivial⟩)⟩, ⟨rfl, .run (lo := 0) (n := 1) ⟨fun G4 A => t_bld (is := [1, 2, 3]) (xs := [.tmp 19, .tmp 22, .tmp 26]) (ps := [.vc (pS cQ v6), .vc (pS cQ v8), .vc (pS cB x10)]) rfl tyB62q rfl rfl ⟨trivial, trivial, trivial, trivial⟩ rfl, trivial⟩ (fun G4 => ⟨rfl, rfl, rfl, trivial⟩)⟩, ⟨rfl, .alc tyZ62q⟩, trivial⟩ (fun bs5 G4 => ?_)
  refine r_op0 (t_s 0 rfl rfl rfl tyA62.s) ⟨rfl, rfl, trivial⟩ ?_
  refine r_nil (r_next (r_seq (r_reg (r_mv ?_))))
  refine r_mv ?_
  obtain ⟨v12, h13, hF⟩ := bnd hF
  refine r_op (t_call rfl (ct_gantrylaw21_numbers h13) rfl) ⟨rfl, k_I _ _, rfl, trivial⟩ ?_
  refine r_as ?_
  refine r_nil (r_next (r_seq (r_reg (r_op (t_fa (off := 0) (k := 0) rfl tyF57_0) ⟨rfl, trivial⟩ ?_))))
  refine r_op (t_l 1 1 rfl rfl rfl rfl (.one tyO23)) ⟨rfl, trivial⟩ ?_
  refine r_mv ?_
  obtain ⟨v14, h15, hF⟩ := bnd hF
  refine r_op (t_call rfl (ct_gantryref21_Loads h15) rfl) ⟨rfl, rfl, trivial⟩ ?_
  refine r_as ?_
  refine r_nil (r_next (r_seq (r_reg (r_nilO cQ 35 rfl ?_))))
  refine r_nil (r_next (r_seq (r_seq (r_reg (r_op (t_mv (.inr rfl)) ⟨k_I _ _, trivial⟩ ?_)))))
  refine r_nil (r_next (r_blk (r_cutN (fun H E => ∃ (x32 : List Rat), ∃ (b33 : Option Nat), ∃ (c34 : Nat), ∃ (n35 : Nat), F_gantrylaw21_EnergyFree_j39 K v1 v6 v8 x10 v12 x32 = some r ∧ x32.length = n35 ∧ H = [hO cQ b33 c34 35 n35 x32, ⟨some (bs5 11), 1, 62, 4, 1, ([pI .i64 0] ++ [pS cQ v6] ++ [pS cQ v8] ++ [pS cB x10])⟩, ⟨some b3, 1, 57, 4, 1, (api_Model.enc v1)⟩] ∧ E = [(5, .vc (pP (some b3) 0)), (7, .vc (pP (some (bs5 11)) 0)), (8, .vc (pS cQ v12)), (10, .vc (pO b33 n35 c34))]) ?_ (fun Jj39 => ?_))))
  · rintro _ _ ⟨x32, b33, c34, n35, hF, q36, rfl, rfl⟩
    unfold F_gantrylaw21_EnergyFree_j39 at hF
    refine r_next (r_seq (r_fzC 0 [10] rfl q36 ⟨rfl, trivial⟩ rfl ?_))
    obtain ⟨v42, h43, hF⟩ := bnd hF
    obtain ⟨v44, h45, hF⟩ := bnd hF
    obtain ⟨v46, h47, hF⟩ := bnd hF
    rcases Bool.eq_false_or_eq_true (v46 == 0) with h48 | h48
    · have hF := cnd_t h48 hF
      obtain ⟨v49, h50, hF⟩ := bnd hF
      refine r_draw [0, 0, 0, 0, 0, 24, 63, 127, 255, 511, 1023, 2047, 4095] 13 0 [.v (.va (api_Model.enc v1)), .v (.vc (pS cQ v12)), .v (.va ([pI .i64 0] ++ [pS cQ v6] ++ [pS cQ v8] ++ [pS cB x10])), .v (.va ([pI .i64 0] ++ [pS cQ v6] ++ [pS cQ v8] ++ [pS cB x10])), .v (.vc (pS cQ x32)), .v (.va (api_State.enc v42)), .v (.va (eQ v44)), .v (.vc (pI .i64 v46)), .v (.vc (pB (v46 == 0))), .v (.vc (pB true)), .v (.vc (pB v49)), .v (.vc (pB v49)), .v (.vc (pB v49))] Tryz_mixed ⟨⟨rfl, .run (lo := 0) (n := 1) ⟨fun G40 A => t_l 1 4 rfl rfl rfl rfl (.agg tyA57), trivial⟩ (fun G40 => ⟨rfl, trivial⟩)⟩, ⟨rfl, .run (lo := 0) (n := 1) ⟨fun G40 A => t_mv (.inl rfl), trivial⟩ (fun G40 => ⟨rfl, trivial⟩)⟩, ⟨rfl, .run (lo := 0) (n := 1) ⟨fun G40 A => t_l 0 4 rfl rfl rfl rfl (.agg tyA62), trivial⟩ (fun G40 => ⟨rfl, trivial⟩)⟩, ⟨rfl, .run (lo := 0) (n := 1) ⟨fun G40 A => t_l 0 4 rfl rfl rfl rfl (.agg tyA62), trivial⟩ (fun G40 => ⟨rfl, trivial⟩)⟩, ⟨rfl, .run (lo := 0) (n := 1) ⟨fun G40 A => t_mv (.inl rfl), trivial⟩ (fun G40 => ⟨rfl, trivial⟩)⟩, ⟨rfl, .run (lo := 0) (n := 1) ⟨fun G40 A => t_call rfl (ct_gantryref21_Pressed h43) rfl, trivial⟩ (fun G40 => ⟨rfl, rfl, trivial⟩)⟩, ⟨rfl, .run (lo := 0) (n := 1) ⟨fun G40 A => t_call rfl (ct_energy_Lost h45) rfl, trivial⟩ (fun G40 => ⟨rfl, rfl, rfl, rfl, trivial⟩)⟩, ⟨rfl, .run (lo := 0) (n := 1) ⟨fun G40 A => t_call rfl (qc_rat_Sign h47) rfl, trivial⟩ (fun G40 => ⟨rfl, trivial⟩)⟩, ⟨rfl, .run (lo := 0) (n := 1) ⟨fun G40 A => t_eq rfl, trivial⟩ (fun G40 => ⟨rfl, k_I _ _, trivial⟩)⟩, ⟨rfl, .run (lo := 0) (n := 1) ⟨fun G40 A => tr_bool (t_mv (.inl rfl)) h48, trivial⟩ (fun G40 => ⟨rfl, trivial⟩)⟩, ⟨rfl, .runG (lo := 0) (n := 1) ⟨fun G40 A => t_call rfl (ct_gantrylaw21_lives h50) rfl, trivial⟩ (fun G40 => trivial)⟩, ⟨rfl, .run (lo := 0) (n := 1) ⟨fun G40 A => t_pickT rfl, trivial⟩ (fun G40 => ⟨rfl, rfl, trivial⟩)⟩, ⟨rfl, .run (lo := 0) (n := 1) ⟨fun G40 A => t_mv (.inr rfl), trivial⟩ (fun G40 => ⟨rfl, trivial⟩)⟩, trivial⟩ (fun bs41 G40 => ?_)
      refine r_nil (r_next (r_ret (r_toR ?_)))
      obtain rfl := sm1 hF
      exact r_done1 (.inl rfl) Tryz.results4 (.tmp rfl .nil) rfl rfl
    · have hF := cnd_f h48 hF
      refine r_draw [0, 0, 0, 0, 0, 24, 63, 127, 255, 511, 1023, 2047, 4095] 13 0 [.v (.va (api_Model.enc v1)), .v (.vc (pS cQ v12)), .v (.va ([pI .i64 0] ++ [pS cQ v6] ++ [pS cQ v8] ++ [pS cB x10])), .v (.va ([pI .i64 0] ++ [pS cQ v6] ++ [pS cQ v8] ++ [pS cB x10])), .v (.vc (pS cQ x32)), .v (.va (api_State.enc v42)), .v (.va (eQ v44)), .v (.vc (pI .i64 v46)), .v (.vc (pB (v46 == 0))), .v (.vc (pB false)), .v .any, .v (.vc (pB false)), .v (.vc (pB false))] Tryz_mixed ⟨⟨rfl, .run (lo := 0) (n := 1) ⟨fun G40 A => t_l 1 4 rfl rfl rfl rfl (.agg tyA57), trivial⟩ (fun G40 => ⟨rfl, trivial⟩)⟩, ⟨rfl, .run (lo := 0) (n := 1) ⟨fun G40 A => t_mv (.inl rfl), trivial⟩ (fun G40 => ⟨rfl, trivial⟩)⟩, ⟨rfl, .run (lo := 0) (n := 1) ⟨fun G40 A => t_l 0 4 rfl rfl rfl rfl (.agg tyA62), trivial⟩ (fun G40 => ⟨rfl, trivial⟩)⟩, ⟨rfl, .run (lo := 0) (n := 1) ⟨fun G40 A => t_l 0 4 rfl rfl rfl rfl (.agg tyA62), trivial⟩ (fun G40 => ⟨rfl, trivial⟩)⟩, ⟨rfl, .run (lo := 0) (n := 1) ⟨fun G40 A => t_mv (.inl rfl), trivial⟩ (fun G40 => ⟨rfl, trivial⟩)⟩, ⟨rfl, .run (lo := 0) (n := 1) ⟨fun G40 A => t_call rfl (ct_gantryref21_Pressed h43) rfl, trivial⟩ (fun G40 => ⟨rfl, rfl, trivial⟩)⟩, ⟨rfl, .run (lo := 0) (n := 1) ⟨fun G40 A => t_call rfl (ct_energy_Lost h45) rfl, trivial⟩ (fun G40 => ⟨rfl, rfl, rfl, rfl, trivial⟩)⟩, ⟨rfl, .run (lo := 0) (n := 1) ⟨fun G40 A => t_call rfl (qc_rat_Sign h47) rfl, trivial⟩ (fun G40 => ⟨rfl, trivial⟩)⟩, ⟨rfl, .run (lo := 0) (n := 1) ⟨fun G40 A => t_eq rfl, trivial⟩ (fun G40 => ⟨rfl, k_I _ _, trivial⟩)⟩, ⟨rfl, .run (lo := 0) (n := 1) ⟨fun G40 A => tr_bool (t_mv (.inl rfl)) h48, trivial⟩ (fun G40 => ⟨rfl, trivial⟩)⟩, ⟨rfl, .skip⟩, ⟨rfl, .run (lo := 0) (n := 1) ⟨fun G40 A => t_pickF rfl, trivial⟩ (fun G40 => ⟨rfl, k_B _, trivial⟩)⟩, ⟨rfl, .run (lo := 0) (n := 1) ⟨fun G40 A => t_mv (.inr rfl), trivial⟩ (fun G40 => ⟨rfl, trivial⟩)⟩, trivial⟩ (fun bs41 G40 => ?_)
      refine r_nil (r_next (r_ret (r_toR ?_)))
      obtain rfl := sm1 hF
      exact r_done1 (.inl rfl) Tryz.results4 (.tmp rfl .nil) rfl rfl
  · skip
    obtain ⟨x32', hL, hRl38⟩ := bnd hF
    refine r_lp (fun k a w => ∃ (x25 : List Rat), ∃ (x31 : Int), ∃ (b26 : Option Nat), ∃ (c27 : Nat), ∃ (n28 : Nat), F_gantrylaw21_EnergyFree_l38 K v1 v14 k x25 x31 = some x32' ∧ x25.length = n28 ∧ hs _ [hO cQ b26 c27 35 n28 x25, ⟨some (bs5 11), 1, 62, 4, 1, ([pI .i64 0] ++ [pS cQ v6] ++ [pS cQ v8] ++ [pS cB x10])⟩, ⟨some b3, 1, 57, 4, 1, (api_Model.enc v1)⟩] [(5, .vc (pP (some b3) 0)), (6, .vc (pI .i64 (v1.dofs.length : Int))), (7, .vc (pP (some (bs5 11)) 0)), (8, .vc (pS cQ v12)), (9, .vc (pS cQ v14)), (10, .vc (pO b26 n28 c27)), (11, .vc (pI .i64 x31))] a w) K (fun a w ⟨_, _, _, _, _, hF, _, _⟩ => by cases hF) (fun k a w ⟨x25, x31, b26, c27, n28, hF, q29, hh⟩ => r_at ?_ hh) (fun a w hh => ⟨([] : List Rat), 0, none, 0, 0, hL, rfl, hs_back [0, 1, 2] rfl (by decide) (by exact ⟨rfl, rfl, rfl, rfl, rfl, rfl, rfl, trivial⟩) hh⟩)
    rw [F_gantrylaw21_EnergyFree_l38.eq_2] at hF
    refine r_seq (r_seq (r_reg (r_mv ?_)))
    refine r_mv ?_
    refine r_op (t_lt rfl) ⟨rfl, rfl, trivial⟩ ?_
    refine r_nil (r_next (r_if rfl (fun h51 => ?_) (fun h51 => ?_)))
    · have hF := cnd_t h51 hF
      refine r_skip (r_next (r_seq (r_blk ?_)))
      obtain ⟨v54, h55, hF⟩ := bnd hF
      obtain ⟨v56, h57, hF⟩ := bnd hF
      obtain ⟨v58, h59, hF⟩ := bnd hF
      refine r_draw [0, 0, 2, 0, 14, 30, 62, 0, 0, 384, 896, 2046, 4094, 8191, 16383] 13 2 [.v (.vc (pO b26 n28 c27)), .v (.vc (pP (some b3) 0)), .v (.vc (pS api_Dof.cod v1.dofs)), .v (.vc (pI .i64 x31)), .v (.vc (pM (api_Dof.cod.e v54))), .v (.vc (pM (api_Dof.cod.e v54))), .v (.va (eQ v54.inv)), .v (.vc (pS cQ v14)), .v (.vc (pI .i64 x31)), .v (.vc (pM (cQ.e v56))), .v (.va (eQ v56)), .v (.va (eQ v58)), .v (.vc (pS cQ [v58]))] Tryz_mixed ⟨⟨rfl, .run (lo := 0) (n := 1) ⟨fun G52 A => t_mv (.inl rfl), trivial⟩ (fun G52 => ⟨rfl, trivial⟩)⟩, ⟨rfl, .run (lo := 0) (n := 1) ⟨fun G52 A => t_fa (off := 0) (k := 0) rfl tyF57_0, trivial⟩ (fun G52 => ⟨rfl, trivial⟩)⟩, ⟨rfl, .run (lo := 0) (n := 1) ⟨fun G52 A => t_l 2 1 rfl rfl rfl rfl (.one tyO23), trivial⟩ (fun G52 => ⟨rfl, trivial⟩)⟩, ⟨rfl, .run (lo := 0) (n := 1) ⟨fun G52 A => t_mv (.inl rfl), trivial⟩ (fun G52 => ⟨rfl, trivial⟩)⟩, ⟨rfl, .run (lo := 0) (n := 1) ⟨fun G52 A => t_ix rfl tyS23 h55, trivial⟩ (fun G52 => ⟨rfl, rfl, trivial⟩)⟩, ⟨rfl, .run (lo := 0) (n := 1) ⟨fun G52 A => t_faM (ps := (api_Dof.cod.e v54)) (k := 0) rfl tyF66_0, trivial⟩ (fun G52 => ⟨rfl, trivial⟩)⟩, ⟨rfl, .run (lo := 0) (n := 1) ⟨fun G52 A => t_lM 4 rfl rfl (.agg tyA35), trivial⟩ (fun G52 => ⟨rfl, trivial⟩)⟩, ⟨rfl, .run (lo := 0) (n := 1) ⟨fun G52 A => t_mv (.inl rfl), trivial⟩ (fun G52 => ⟨rfl, trivial⟩)⟩, ⟨rfl, .run (lo := 0) (n := 1) ⟨fun G52 A => t_mv (.inl rfl), trivial⟩ (fun G52 => ⟨rfl, trivial⟩)⟩, ⟨rfl, .run (lo := 0) (n := 1) ⟨fun G52 A => t_ix rfl tyS24 h57, trivial⟩ (fun G52 => ⟨rfl, rfl, trivial⟩)⟩, ⟨rfl, .run (lo := 0) (n := 1) ⟨fun G52 A => t_lM 4 rfl rfl (.agg tyA35), trivial⟩ (fun G52 => ⟨rfl, trivial⟩)⟩, ⟨rfl, .run (lo := 0) (n := 1) ⟨fun G52 A => t_call rfl (qc_rat_Mul h59) rfl, trivial⟩ (fun G52 => ⟨rfl, rfl, trivial⟩)⟩, ⟨rfl, .run (lo := 0) (n := 1) ⟨fun G52 A => t_bs (C := cQ) (xs := [.tmp 51]) (ps := [.va (eQ v58)]) (zs := [v58]) rfl tyS24 rfl ⟨⟨trivial, rfl⟩, trivial⟩ rfl, trivial⟩ (fun G52 => ⟨rfl, trivial⟩)⟩, trivial⟩ (fun bs53 G52 => ?_)
      obtain ⟨x60, h61, hF⟩ := bnd hF
      refine r_app 0 rfl tyS24 rfl rfl q29 rfl rfl h61 (fun b62 c63 H64 e65 => ?_)
      cases e65
      refine r_as ?_
      refine r_nil (r_blkN (r_next (r_reg (r_mv ?_))))
      obtain ⟨v67, h68, hF⟩ := bnd hF
      refine r_op (t_add rfl h68) ⟨rfl, k_I _ _, trivial⟩ ?_
      refine r_as ?_
      refine r_nil ?_
      exact r_round (fun a w hh => ⟨x60, v67, b62, c63, (n28 + [v58].length), hF, (apL_len h61 q29), hs_back [0, 1, 2] rfl (by decide) (by exact ⟨rfl, rfl, rfl, rfl, rfl, rfl, rfl, trivial⟩) hh⟩)
    · have hF := cnd_f h51 hF
      refine r_brk ?_
      obtain rfl := sm1 hF
      exact r_backJ Jj39 ⟨x25, b26, c27, n28, hRl38, q29, rfl, rfl⟩ [0, 1, 2] rfl ⟨rfl, rfl, rfl, rfl, trivial⟩

end Go.Proofs.YtkjnngaceacmdaaGreat
