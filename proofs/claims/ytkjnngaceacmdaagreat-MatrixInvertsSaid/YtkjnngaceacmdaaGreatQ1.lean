import Derived.Test.YtkjnngaceacmdaaGreatPR
set_option linter.unusedVariables false
set_option maxRecDepth 100000
namespace Go.Proofs.YtkjnngaceacmdaaGreat
structure St135 where
  rows : List (List Rat)
  pivots : List Int
  det : Rat
noncomputable def St135.enc (x : St135) : List CP := [pS (cSl cQ) x.rows] ++ [pS cI x.pivots] ++ (eQ x.det)
structure matrix_form where
  rows : List (List Rat)
  pivots : List Int
  det : Rat
noncomputable def matrix_form.enc (x : matrix_form) : List CP := [pS (cSl cQ) x.rows] ++ [pS cI x.pivots] ++ (eQ x.det)
theorem tyA136 : TyA Tryz.prog 136 6 := mkA Tryz.underlying136 rfl (by kernel_rfl)
theorem tyB136_o0_o1q : TyB Tryz.prog 136 [(0, 1), (1, 1), (2, 4)] ([pO none 0 0] ++ [pO none 0 0] ++ (eQ 0)) := mkB (z := .agg #[.slice none 0 0, .slice none 0 0, .bool false, .slice none 0 0, .bool false, .slice none 0 0]) (by kernel_rfl) Tryz.underlying136 (by kernel_rfl) (fun M => All2.app (All2.app (show All2 M [pO none 0 0] [.slice none 0 0] from ⟨.inl rfl, trivial⟩) (show All2 M [pO none 0 0] [.slice none 0 0] from ⟨.inl rfl, trivial⟩)) (eQ0 M))
theorem tyB35q : TyB Tryz.prog 35 [(0, 2), (2, 2)] (eQ 0) := mkB (z := .agg #[.bool false, .slice none 0 0, .bool false, .slice none 0 0]) (by kernel_rfl) Tryz.underlying35 (by kernel_rfl) (fun M => eQ0 M)
theorem tyF136_0 : TyF Tryz.prog 136 0 0 := mkF (ft := 47) (k := 0) Tryz.underlying136 rfl rfl rfl (by kernel_rfl)
theorem tyF136_1 : TyF Tryz.prog 136 1 1 := mkF (ft := 22) (k := 0) Tryz.underlying136 rfl rfl rfl (by kernel_rfl)
theorem tyF136_2 : TyF Tryz.prog 136 2 2 := mkF (ft := 35) (k := 3) Tryz.underlying136 rfl rfl rfl (by kernel_rfl)
theorem tyG136_1 : TyG Tryz.prog 136 1 1 22 := ⟨⟨_, _, Tryz.underlying136, rfl, rfl, rfl⟩, mk1 Tryz.underlying22 rfl (by kernel_rfl)⟩
theorem tyO24 : Ty1 Tryz.prog 24 := mk1 Tryz.underlying24 rfl (by kernel_rfl)
theorem tyO47 : Ty1 Tryz.prog 47 := mk1 Tryz.underlying47 rfl (by kernel_rfl)
theorem tyS24 : TyS Tryz.prog 24 35 4 64 := mkS (z := .agg #[.bool false, .slice none 0 0, .bool false, .slice none 0 0]) (k := 3) Tryz.underlying24 (by kernel_rfl) rfl
theorem tyS47 : TyS Tryz.prog 47 24 1 24 := mkS (z := .slice none 0 0) (k := 0) Tryz.underlying47 (by kernel_rfl) rfl
theorem tyZ136q : TyZ Tryz.prog 136 ([pS (cSl cQ) ([] : List (List Rat))] ++ [pS cI ([] : List Int)] ++ (eQ 0)) := mkZ (z := .agg #[.slice none 0 0, .slice none 0 0, .bool false, .slice none 0 0, .bool false, .slice none 0 0]) (k := 6) (by kernel_rfl) rfl (fun M => All2.app (All2.app (show All2 M [pS (cSl cQ) ([] : List (List Rat))] [.slice none 0 0] from ⟨k_nil (cSl cQ) M, trivial⟩) (show All2 M [pS cI ([] : List Int)] [.slice none 0 0] from ⟨k_nil cI M, trivial⟩)) (eQ0 M))
theorem tyZ24q : TyZ Tryz.prog 24 [pS cQ ([] : List Rat)] := mkZ (z := .slice none 0 0) (k := 1) (by kernel_rfl) rfl (fun M => show All2 M [pS cQ ([] : List Rat)] [.slice none 0 0] from ⟨k_nil cQ M, trivial⟩)
theorem tyZ24_oq : TyZ Tryz.prog 24 [pO none 0 0] := mkZ (z := .slice none 0 0) (k := 1) (by kernel_rfl) rfl (fun M => show All2 M [pO none 0 0] [.slice none 0 0] from ⟨.inl rfl, trivial⟩)
theorem tyZ3q : TyZ Tryz.prog 3 [pI .i64 0] := mkZ (z := .int .i64 0) (k := 1) (by kernel_rfl) rfl (fun M => show All2 M [pI .i64 0] [.int .i64 0] from ⟨rfl, trivial⟩)
theorem tyZ35q : TyZ Tryz.prog 35 (eQ 0) := mkZ (z := .agg #[.bool false, .slice none 0 0, .bool false, .slice none 0 0]) (k := 4) (by kernel_rfl) rfl (fun M => eQ0 M)
def F_gantryref09_SameRow_j5 (K : Nat) : Option Bool :=
  some true
def F_gantryref09_SameRow_l4 (K : Nat) (a0 : List Rat) (a1 : List Rat) : Nat → Int → Option (LR Bool Unit)
  | 0, _ => none
  | k + 1, x3 => bif (decide (x3 < (a0.length : Int))) then ((rdL a0 x3).bind fun v9 => (rdL a1 x3).bind fun v11 => (qsame v9 v11).bind fun v13 => bif (!v13) then (some (.ret false)) else ((chk (x3 + 1)).bind fun v16 => F_gantryref09_SameRow_l4 K a0 a1 k v16)) else (some (.go ()))
def F_gantryref09_SameRow (K : Nat) (a0 : List Rat) (a1 : List Rat) : Option Bool :=
  bif ((a0.length : Int) != (a1.length : Int)) then (some false) else ((F_gantryref09_SameRow_l4 K a0 a1 K 0).bind fun o => match o with | .ret r => some r | .go _ => F_gantryref09_SameRow_j5 K )
theorem ct_gantryref09_SameRow {K : Nat} {a0 : List Rat} {a1 : List Rat} {r : Bool} (hF : F_gantryref09_SameRow K a0 a1 = some r) : Ct Tryz.prog 52 [.vc (pS cQ a0), .vc (pS cQ a1)] (.vc (pB r)) := by
  unfold F_gantryref09_SameRow at hF
  refine ctO_intro Tryz.func52 rfl (by kernel_rfl) Tryz.ntmps52 rfl (fun w0 M0 => ?_)
  refine r_seq (r_reg (r_op (t_mv (.inr rfl)) ⟨k_B _, trivial⟩ ?_))
  refine r_nil (r_next (r_seq (r_seq (r_reg (r_mv ?_)))))
  refine r_op (t_ln rfl tyS24) ⟨rfl, trivial⟩ ?_
  refine r_mv ?_
  refine r_op (t_ln rfl tyS24) ⟨rfl, trivial⟩ ?_
  refine r_op (t_ne rfl) ⟨rfl, rfl, trivial⟩ ?_
  refine r_nil (r_next (r_if rfl (fun h1 => ?_) (fun h1 => ?_)))
  · have hF := cnd_t h1 hF
    refine r_seq (r_reg (r_op (t_mv (.inr rfl)) ⟨k_B _, trivial⟩ ?_))
    refine r_nil (r_next (r_ret (r_toR ?_)))
    obtain rfl := sm1 hF
    exact r_done1 (.inl rfl) Tryz.results52 (.tmp rfl .nil) rfl rfl
  have hF := cnd_f h1 hF
  refine r_skip (r_next (r_seq (r_seq (r_reg (r_op (t_mv (.inr rfl)) ⟨k_I _ _, trivial⟩ ?_)))))
  refine r_nil (r_next (r_blk (r_cutN (fun H E => F_gantryref09_SameRow_j5 K = some r ∧ H = [] ∧ E = []) ?_ (fun Jj5 => ?_))))
  · rintro _ _ ⟨hF, rfl, rfl⟩
    unfold F_gantryref09_SameRow_j5 at hF
    refine r_next (r_seq (r_reg (r_op (t_mv (.inr rfl)) ⟨k_B _, trivial⟩ ?_)))
    refine r_nil (r_next (r_ret (r_toR ?_)))
    obtain rfl := sm1 hF
    exact r_done1 (.inl rfl) Tryz.results52 (.tmp rfl .nil) rfl rfl
  obtain ⟨ol4, hL, hRl4⟩ := bnd hF
  refine r_lp (fun k a w => ∃ (x3 : Int), F_gantryref09_SameRow_l4 K a0 a1 k x3 = some ol4 ∧ hs _ [] [(0, .vc (pS cQ a0)), (1, .vc (pS cQ a1)), (5, .vc (pI .i64 x3))] a w) K (fun a w ⟨_, hF, _⟩ => by cases hF) (fun k a w ⟨x3, hF, hh⟩ => r_at ?_ hh) (fun a w hh => ⟨0, hL, hs_back [] rfl (by decide) (by exact ⟨rfl, rfl, rfl, trivial⟩) hh⟩)
  rw [F_gantryref09_SameRow_l4.eq_2] at hF
  refine r_seq (r_seq (r_reg (r_mv ?_)))
  refine r_mv ?_
  refine r_op (t_ln rfl tyS24) ⟨rfl, trivial⟩ ?_
  refine r_op (t_lt rfl) ⟨rfl, rfl, trivial⟩ ?_
  refine r_nil (r_next (r_if rfl (fun h6 => ?_) (fun h6 => ?_)))
  · have hF := cnd_t h6 hF
    refine r_skip (r_next (r_seq (r_blk (r_seq ?_))))
    obtain ⟨v9, h10, hF⟩ := bnd hF
    obtain ⟨v11, h12, hF⟩ := bnd hF
    obtain ⟨v13, h14, hF⟩ := bnd hF
    refine r_draw [0, 0, 3, 7, 0, 0, 48, 112, 255, 511] 10 0 [.v (.vc (pS cQ a0)), .v (.vc (pI .i64 x3)), .v (.vc (pM (cQ.e v9))), .v (.va (eQ v9)), .v (.vc (pS cQ a1)), .v (.vc (pI .i64 x3)), .v (.vc (pM (cQ.e v11))), .v (.va (eQ v11)), .v (.vc (pB v13)), .v (.vc (pB (!v13)))] Tryz_mixed ⟨d0 (t_mv (.inl rfl)) ⟨rfl, trivial⟩, d0 (t_mv (.inl rfl)) ⟨rfl, trivial⟩, d0 (t_ix rfl tyS24 h10) ⟨rfl, rfl, trivial⟩, d0 (t_lM 4 rfl rfl (.agg tyA35)) ⟨rfl, trivial⟩, d0 (t_mv (.inl rfl)) ⟨rfl, trivial⟩, d0 (t_mv (.inl rfl)) ⟨rfl, trivial⟩, d0 (t_ix rfl tyS24 h12) ⟨rfl, rfl, trivial⟩, d0 (t_lM 4 rfl rfl (.agg tyA35)) ⟨rfl, trivial⟩, d0 (t_call rfl (qc_gantryref05_Same h14) rfl) ⟨rfl, rfl, trivial⟩, d0 (t_not rfl) ⟨rfl, trivial⟩, trivial⟩ (fun bs8 G7 => ?_)
    refine r_nil (r_next (r_if rfl (fun h15 => ?_) (fun h15 => ?_)))
    · have hF := cnd_t h15 hF
      refine r_seq (r_reg (r_op (t_mv (.inr rfl)) ⟨k_B _, trivial⟩ ?_))
      refine r_nil (r_next (r_ret (r_toR ?_)))
      obtain rfl := sm1 hF
      obtain rfl := sm1 hRl4
      exact r_done1 (.inl rfl) Tryz.results52 (.tmp rfl .nil) rfl rfl
    have hF := cnd_f h15 hF
    refine r_skip (r_blkN (r_next (r_reg (r_mv ?_))))
    obtain ⟨v16, h17, hF⟩ := bnd hF
    refine r_op (t_add rfl h17) ⟨rfl, k_I _ _, trivial⟩ ?_
    refine r_as ?_
    refine r_nil ?_
    exact r_round (fun a w hh => ⟨v16, hF, hs_back [] rfl (by decide) (by exact ⟨rfl, rfl, rfl, trivial⟩) hh⟩)
  have hF := cnd_f h6 hF
  refine r_brk ?_
  obtain rfl := sm1 hF
  exact r_backJ Jj5 ⟨hRl4, rfl, rfl⟩ [] rfl trivial
def F_gantryref09_Same_j5 (K : Nat) : Option Bool :=
  some true
def F_gantryref09_Same_l4 (K : Nat) (a0 : List (List Rat)) (a1 : List (List Rat)) : Nat → Int → Option (LR Bool Unit)
  | 0, _ => none
  | k + 1, x3 => bif (decide (x3 < (a0.length : Int))) then ((rdL a0 x3).bind fun v9 => (rdL a1 x3).bind fun v11 => (F_gantryref09_SameRow K v9 v11).bind fun v13 => bif (!v13) then (some (.ret false)) else ((chk (x3 + 1)).bind fun v16 => F_gantryref09_Same_l4 K a0 a1 k v16)) else (some (.go ()))
def F_gantryref09_Same (K : Nat) (a0 : List (List Rat)) (a1 : List (List Rat)) : Option Bool :=
  bif ((a0.length : Int) != (a1.length : Int)) then (some false) else ((F_gantryref09_Same_l4 K a0 a1 K 0).bind fun o => match o with | .ret r => some r | .go _ => F_gantryref09_Same_j5 K )
theorem ct_gantryref09_Same {K : Nat} {a0 : List (List Rat)} {a1 : List (List Rat)} {r : Bool} (hF : F_gantryref09_Same K a0 a1 = some r) : Ct Tryz.prog 20 [.vc (pS (cSl cQ) a0), .vc (pS (cSl cQ) a1)] (.vc (pB r)) := by
  unfold F_gantryref09_Same at hF
  refine ctO_intro Tryz.func20 rfl (by kernel_rfl) Tryz.ntmps20 rfl (fun w0 M0 => ?_)
  refine r_seq (r_reg (r_op (t_mv (.inr rfl)) ⟨k_B _, trivial⟩ ?_))
  refine r_nil (r_next (r_seq (r_seq (r_reg (r_mv ?_)))))
  refine r_op (t_ln rfl tyS47) ⟨rfl, trivial⟩ ?_
  refine r_mv ?_
  refine r_op (t_ln rfl tyS47) ⟨rfl, trivial⟩ ?_
  refine r_op (t_ne rfl) ⟨rfl, rfl, trivial⟩ ?_
  refine r_nil (r_next (r_if rfl (fun h1 => ?_) (fun h1 => ?_)))
  · have hF := cnd_t h1 hF
    refine r_seq (r_reg (r_op (t_mv (.inr rfl)) ⟨k_B _, trivial⟩ ?_))
    refine r_nil (r_next (r_ret (r_toR ?_)))
    obtain rfl := sm1 hF
    exact r_done1 (.inl rfl) Tryz.results20 (.tmp rfl .nil) rfl rfl
  have hF := cnd_f h1 hF
  refine r_skip (r_next (r_seq (r_seq (r_reg (r_op (t_mv (.inr rfl)) ⟨k_I _ _, trivial⟩ ?_)))))
  refine r_nil (r_next (r_blk (r_cutN (fun H E => F_gantryref09_Same_j5 K = some r ∧ H = [] ∧ E = []) ?_ (fun Jj5 => ?_))))
  · rintro _ _ ⟨hF, rfl, rfl⟩
    unfold F_gantryref09_Same_j5 at hF
    refine r_next (r_seq (r_reg (r_op (t_mv (.inr rfl)) ⟨k_B _, trivial⟩ ?_)))
    refine r_nil (r_next (r_ret (r_toR ?_)))
    obtain rfl := sm1 hF
    exact r_done1 (.inl rfl) Tryz.results20 (.tmp rfl .nil) rfl rfl
  obtain ⟨ol4, hL, hRl4⟩ := bnd hF
  refine r_lp (fun k a w => ∃ (x3 : Int), F_gantryref09_Same_l4 K a0 a1 k x3 = some ol4 ∧ hs _ [] [(0, .vc (pS (cSl cQ) a0)), (1, .vc (pS (cSl cQ) a1)), (5, .vc (pI .i64 x3))] a w) K (fun a w ⟨_, hF, _⟩ => by cases hF) (fun k a w ⟨x3, hF, hh⟩ => r_at ?_ hh) (fun a w hh => ⟨0, hL, hs_back [] rfl (by decide) (by exact ⟨rfl, rfl, rfl, trivial⟩) hh⟩)
  rw [F_gantryref09_Same_l4.eq_2] at hF
  refine r_seq (r_seq (r_reg (r_mv ?_)))
  refine r_mv ?_
  refine r_op (t_ln rfl tyS47) ⟨rfl, trivial⟩ ?_
  refine r_op (t_lt rfl) ⟨rfl, rfl, trivial⟩ ?_
  refine r_nil (r_next (r_if rfl (fun h6 => ?_) (fun h6 => ?_)))
  · have hF := cnd_t h6 hF
    refine r_skip (r_next (r_seq (r_blk (r_seq ?_))))
    obtain ⟨v9, h10, hF⟩ := bnd hF
    obtain ⟨v11, h12, hF⟩ := bnd hF
    obtain ⟨v13, h14, hF⟩ := bnd hF
    refine r_draw [0, 0, 3, 7, 0, 0, 48, 112, 255, 511] 10 0 [.v (.vc (pS (cSl cQ) a0)), .v (.vc (pI .i64 x3)), .v (.vc (pM ((cSl cQ).e v9))), .v (.vc (pS cQ v9)), .v (.vc (pS (cSl cQ) a1)), .v (.vc (pI .i64 x3)), .v (.vc (pM ((cSl cQ).e v11))), .v (.vc (pS cQ v11)), .v (.vc (pB v13)), .v (.vc (pB (!v13)))] Tryz_mixed ⟨d0 (t_mv (.inl rfl)) ⟨rfl, trivial⟩, d0 (t_mv (.inl rfl)) ⟨rfl, trivial⟩, d0 (t_ix rfl tyS47 h10) ⟨rfl, rfl, trivial⟩, d0 (t_lM 1 rfl rfl (.one tyO24)) ⟨rfl, trivial⟩, d0 (t_mv (.inl rfl)) ⟨rfl, trivial⟩, d0 (t_mv (.inl rfl)) ⟨rfl, trivial⟩, d0 (t_ix rfl tyS47 h12) ⟨rfl, rfl, trivial⟩, d0 (t_lM 1 rfl rfl (.one tyO24)) ⟨rfl, trivial⟩, d0 (t_call rfl (ct_gantryref09_SameRow h14) rfl) ⟨rfl, rfl, trivial⟩, d0 (t_not rfl) ⟨rfl, trivial⟩, trivial⟩ (fun bs8 G7 => ?_)
    refine r_nil (r_next (r_if rfl (fun h15 => ?_) (fun h15 => ?_)))
    · have hF := cnd_t h15 hF
      refine r_seq (r_reg (r_op (t_mv (.inr rfl)) ⟨k_B _, trivial⟩ ?_))
      refine r_nil (r_next (r_ret (r_toR ?_)))
      obtain rfl := sm1 hF
      obtain rfl := sm1 hRl4
      exact r_done1 (.inl rfl) Tryz.results20 (.tmp rfl .nil) rfl rfl
    have hF := cnd_f h15 hF
    refine r_skip (r_blkN (r_next (r_reg (r_mv ?_))))
    obtain ⟨v16, h17, hF⟩ := bnd hF
    refine r_op (t_add rfl h17) ⟨rfl, k_I _ _, trivial⟩ ?_
    refine r_as ?_
    refine r_nil ?_
    exact r_round (fun a w hh => ⟨v16, hF, hs_back [] rfl (by decide) (by exact ⟨rfl, rfl, rfl, trivial⟩) hh⟩)
  have hF := cnd_f h6 hF
  refine r_brk ?_
  obtain rfl := sm1 hF
  exact r_backJ Jj5 ⟨hRl4, rfl, rfl⟩ [] rfl trivial
def F_gantryref01_Around (a0 : Int) (a1 : Int) : Option Int :=
  bif (decide (a0 < 0)) then ((chk (a0 + 1)).bind fun v2 => (chk (-v2)).bind fun v4 => (chr v4 a1).bind fun v6 => some v6) else ((chr a0 a1).bind fun v8 => some v8)
theorem ct_gantryref01_Around {a0 : Int} {a1 : Int} {r : Int} (hF : F_gantryref01_Around a0 a1 = some r) : Ct Tryz.prog 11 [.vc (pI .i64 a0), .vc (pI .i64 a1)] (.vc (pI .i64 r)) := by
  unfold F_gantryref01_Around at hF
  refine ctO_intro Tryz.func11 rfl (by kernel_rfl) Tryz.ntmps11 rfl (fun w0 M0 => ?_)
  refine r_seq (r_reg (r_op (t_mv (.inr rfl)) ⟨k_I _ _, trivial⟩ ?_))
  refine r_nil (r_next (r_seq (r_seq (r_reg (r_mv ?_)))))
  refine r_op (t_lt rfl) ⟨rfl, k_I _ _, trivial⟩ ?_
  refine r_nil (r_next (r_if rfl (fun h1 => ?_) (fun h1 => ?_)))
  · have hF := cnd_t h1 hF
    refine r_reg (r_mv ?_)
    obtain ⟨v2, h3, hF⟩ := bnd hF
    refine r_op (t_add rfl h3) ⟨rfl, k_I _ _, trivial⟩ ?_
    obtain ⟨v4, h5, hF⟩ := bnd hF
    refine r_op (t_neg rfl h5) ⟨rfl, trivial⟩ ?_
    refine r_as ?_
    refine r_nil (r_next (r_seq (r_reg (r_mv ?_))))
    refine r_mv ?_
    obtain ⟨v6, h7, hF⟩ := bnd hF
    refine r_op (t_rem rfl h7) ⟨rfl, rfl, trivial⟩ ?_
    refine r_as ?_
    refine r_nil (r_next (r_ret (r_toR ?_)))
    obtain rfl := sm1 hF
    exact r_done1 (.inl rfl) Tryz.results11 (.tmp rfl .nil) rfl rfl
  have hF := cnd_f h1 hF
  refine r_skip (r_next (r_seq (r_reg (r_mv ?_))))
  refine r_mv ?_
  obtain ⟨v8, h9, hF⟩ := bnd hF
  refine r_op (t_rem rfl h9) ⟨rfl, rfl, trivial⟩ ?_
  refine r_as ?_
  refine r_nil (r_next (r_ret (r_toR ?_)))
  obtain rfl := sm1 hF
  exact r_done1 (.inl rfl) Tryz.results11 (.tmp rfl .nil) rfl rfl
def F_gantrylaw09_sizes (a0 : Int) : Option (Int × Int) :=
  (F_gantryref01_Around a0 6).bind fun v1 => (chq a0 6).bind fun v3 => (F_gantryref01_Around v3 6).bind fun v5 => bif (v1 == 0) then (some (v1, 0)) else (some (v1, v5))
theorem ct_gantrylaw09_sizes {a0 : Int} {r : Int × Int} (hF : F_gantrylaw09_sizes a0 = some r) : Ct Tryz.prog 38 [.vc (pI .i64 a0)] (.t2 (.vc (pI .i64 r.1)) (.vc (pI .i64 r.2))) := by
  unfold F_gantrylaw09_sizes at hF
  refine ctO_intro Tryz.func38 rfl (by kernel_rfl) Tryz.ntmps38 rfl (fun w0 M0 => ?_)
  refine r_seq (r_reg (r_op (t_mv (.inr rfl)) ⟨k_I _ _, trivial⟩ ?_))
  refine r_op (t_mv (.inr rfl)) ⟨k_I _ _, trivial⟩ ?_
  refine r_nil (r_next (r_seq (r_reg (r_mv ?_))))
  obtain ⟨v1, h2, hF⟩ := bnd hF
  refine r_op (t_call rfl (ct_gantryref01_Around h2) rfl) ⟨rfl, k_I _ _, trivial⟩ ?_
  refine r_as ?_
  refine r_nil (r_next (r_seq (r_reg (r_mv ?_))))
  obtain ⟨v3, h4, hF⟩ := bnd hF
  refine r_op (t_quo rfl h4) ⟨rfl, k_I _ _, trivial⟩ ?_
  obtain ⟨v5, h6, hF⟩ := bnd hF
  refine r_op (t_call rfl (ct_gantryref01_Around h6) rfl) ⟨rfl, k_I _ _, trivial⟩ ?_
  refine r_as ?_
  refine r_nil (r_next (r_seq (r_seq (r_reg (r_mv ?_)))))
  refine r_op (t_eq rfl) ⟨rfl, k_I _ _, trivial⟩ ?_
  refine r_nil (r_next (r_if rfl (fun h7 => ?_) (fun h7 => ?_)))
  · have hF := cnd_t h7 hF
    refine r_reg (r_op (t_mv (.inr rfl)) ⟨k_I _ _, trivial⟩ ?_)
    refine r_nil (r_next (r_seq (r_reg (r_mv ?_))))
    refine r_mv ?_
    refine r_as ?_
    refine r_as ?_
    refine r_nil (r_next (r_ret (r_toR ?_)))
    obtain rfl := sm1 hF
    exact r_done1 (.inl rfl) Tryz.results38 (.tmp rfl (.tmp rfl .nil)) rfl rfl
  have hF := cnd_f h7 hF
  refine r_skip (r_next (r_seq (r_reg (r_mv ?_))))
  refine r_mv ?_
  refine r_as ?_
  refine r_as ?_
  refine r_nil (r_next (r_ret (r_toR ?_)))
  obtain rfl := sm1 hF
  exact r_done1 (.inl rfl) Tryz.results38 (.tmp rfl (.tmp rfl .nil)) rfl rfl
def F_gantryref01_At (a0 : List Int) (a1 : Int) (a2 : Int) : Option Int :=
  bif (decide (a1 < 0)) then (some 0) else (bif (decide ((a0.length : Int) ≤ a1)) then (some 0) else ((rdL a0 a1).bind fun v3 => (F_gantryref01_Around v3 a2).bind fun v5 => some v5))
theorem ct_gantryref01_At {a0 : List Int} {a1 : Int} {a2 : Int} {r : Int} (hF : F_gantryref01_At a0 a1 a2 = some r) : Ct Tryz.prog 12 [.vc (pS cI a0), .vc (pI .i64 a1), .vc (pI .i64 a2)] (.vc (pI .i64 r)) := by
  unfold F_gantryref01_At at hF
  refine ctO_intro Tryz.func12 rfl (by kernel_rfl) Tryz.ntmps12 rfl (fun w0 M0 => ?_)
  refine r_seq (r_reg (r_op (t_mv (.inr rfl)) ⟨k_I _ _, trivial⟩ ?_))
  refine r_nil (r_next (r_seq (r_seq (r_reg (r_mv ?_)))))
  refine r_op (t_lt rfl) ⟨rfl, k_I _ _, trivial⟩ ?_
  refine r_mv ?_
  refine r_bool (fun h1 => ?_) (fun h1 => ?_)
  · have hF := cnd_t h1 hF
    refine r_opn ?_
    refine r_opn ?_
    refine r_opn ?_
    refine r_opn ?_
    refine r_op (t_pickT rfl) ⟨rfl, k_B _, trivial⟩ ?_
    refine r_nil (r_next (r_ifT rfl ?_))
    refine r_seq (r_reg (r_op (t_mv (.inr rfl)) ⟨k_I _ _, trivial⟩ ?_))
    refine r_nil (r_next (r_ret (r_toR ?_)))
    obtain rfl := sm1 hF
    exact r_done1 (.inl rfl) Tryz.results12 (.tmp rfl .nil) rfl rfl
  have hF := cnd_f h1 hF
  refine r_opg (t_mv (.inl rfl)) ⟨rfl, trivial⟩ ?_
  refine r_opg (t_mv (.inl rfl)) ⟨rfl, trivial⟩ ?_
  refine r_opg (t_ln rfl tyS22) ⟨rfl, trivial⟩ ?_
  refine r_opg (t_ge rfl) ⟨rfl, rfl, trivial⟩ ?_
  refine r_op (t_pickF rfl) ⟨rfl, rfl, trivial⟩ ?_
  refine r_nil (r_next (r_if rfl (fun h2 => ?_) (fun h2 => ?_)))
  · have hF := cnd_t h2 hF
    refine r_seq (r_reg (r_op (t_mv (.inr rfl)) ⟨k_I _ _, trivial⟩ ?_))
    refine r_nil (r_next (r_ret (r_toR ?_)))
    obtain rfl := sm1 hF
    exact r_done1 (.inl rfl) Tryz.results12 (.tmp rfl .nil) rfl rfl
  have hF := cnd_f h2 hF
  refine r_skip (r_next (r_seq (r_reg (r_mv ?_))))
  refine r_mv ?_
  obtain ⟨v3, h4, hF⟩ := bnd hF
  refine r_op (t_ix rfl tyS22 h4) ⟨rfl, rfl, trivial⟩ ?_
  refine r_op (t_lM 1 rfl rfl (.one tyO3)) ⟨rfl, trivial⟩ ?_
  refine r_mv ?_
  obtain ⟨v5, h6, hF⟩ := bnd hF
  refine r_op (t_call rfl (ct_gantryref01_Around h6) rfl) ⟨rfl, rfl, trivial⟩ ?_
  refine r_as ?_
  refine r_nil (r_next (r_ret (r_toR ?_)))
  obtain rfl := sm1 hF
  exact r_done1 (.inl rfl) Tryz.results12 (.tmp rfl .nil) rfl rfl
def F_gantryref05_Small (a0 : Int) : Option Rat :=
  (F_gantryref01_Around a0 1099511627776).bind fun v2 => (chr v2 6).bind fun v4 => (chk (1 + v4)).bind fun v6 => (chq v2 6).bind fun v8 => (chk (16 * v6)).bind fun v10 => (chk (v10 + 1)).bind fun v12 => (chr v8 v12).bind fun v14 => (chk (8 * v6)).bind fun v16 => (chk (v14 - v16)).bind fun v18 => (qof v18 v6).bind fun v20 => some v20
theorem ct_gantryref05_Small {a0 : Int} {r : Rat} (hF : F_gantryref05_Small a0 = some r) : Ct Tryz.prog 13 [.vc (pI .i64 a0)] (.va (eQ r)) := by
  unfold F_gantryref05_Small at hF
  refine ctO_intro Tryz.func13 rfl (by kernel_rfl) Tryz.ntmps13 rfl (fun w0 M0 => ?_)
  refine r_seq (r_reg (r_alloc rfl tyZ35q (fun b1 => ?_)))
  refine r_nil (r_next (r_seq (r_reg (r_mv ?_))))
  obtain ⟨v2, h3, hF⟩ := bnd hF
  refine r_op (t_call rfl (ct_gantryref01_Around h3) rfl) ⟨rfl, k_I _ _, trivial⟩ ?_
  refine r_as ?_
  refine r_nil (r_next (r_seq (r_reg (r_mv ?_))))
  obtain ⟨v4, h5, hF⟩ := bnd hF
  refine r_op (t_rem rfl h5) ⟨rfl, k_I _ _, trivial⟩ ?_
  obtain ⟨v6, h7, hF⟩ := bnd hF
  refine r_op (t_add rfl h7) ⟨k_I _ _, rfl, trivial⟩ ?_
  refine r_as ?_
  refine r_nil (r_next (r_seq (r_reg (r_mv ?_))))
  obtain ⟨v8, h9, hF⟩ := bnd hF
  refine r_op (t_quo rfl h9) ⟨rfl, k_I _ _, trivial⟩ ?_
  refine r_mv ?_
  obtain ⟨v10, h11, hF⟩ := bnd hF
  refine r_op (t_mul rfl h11) ⟨k_I _ _, rfl, trivial⟩ ?_
  obtain ⟨v12, h13, hF⟩ := bnd hF
  refine r_op (t_add rfl h13) ⟨rfl, k_I _ _, trivial⟩ ?_
  obtain ⟨v14, h15, hF⟩ := bnd hF
  refine r_op (t_rem rfl h15) ⟨rfl, rfl, trivial⟩ ?_
  refine r_mv ?_
  obtain ⟨v16, h17, hF⟩ := bnd hF
  refine r_op (t_mul rfl h17) ⟨k_I _ _, rfl, trivial⟩ ?_
  obtain ⟨v18, h19, hF⟩ := bnd hF
  refine r_op (t_sub rfl h19) ⟨rfl, rfl, trivial⟩ ?_
  refine r_mv ?_
  obtain ⟨v20, h21, hF⟩ := bnd hF
  refine r_op (t_call rfl (qc_gantryref05_Of h21) rfl) ⟨rfl, rfl, trivial⟩ ?_
  refine r_op0 (t_s 0 rfl rfl rfl tyA35.s) ⟨rfl, rfl, trivial⟩ ?_
  refine r_nil (r_next (r_ret (r_toR ?_)))
  obtain rfl := sm1 hF
  exact r_done1 (.inl rfl) Tryz.results13 (rv_cell 0 4 rfl rfl rfl rfl (.agg tyA35) .nil) rfl rfl
def F_gantryref09_value_j8 (v2 : Int) (v4 : Int) (x7 : Bool) : Option Rat :=
  bif x7 then (some 0) else (bif (v4 == 2) then (bif (v4 == 2) then ((chq v2 5).bind fun v12 => (chr v12 9).bind fun v14 => (chk (v14 - 4)).bind fun v16 => (qof v16 1).bind fun v18 => some v18) else ((chq v2 5).bind fun v20 => (F_gantryref05_Small v20).bind fun v22 => some v22)) else (bif (v4 == 3) then ((chq v2 5).bind fun v25 => (chr v25 9).bind fun v27 => (chk (v27 - 4)).bind fun v29 => (qof v29 1).bind fun v31 => some v31) else ((chq v2 5).bind fun v33 => (F_gantryref05_Small v33).bind fun v35 => some v35)))
def F_gantryref09_value (a0 : Int) : Option Rat :=
  (F_gantryref01_Around a0 1099511627776).bind fun v2 => (chr v2 5).bind fun v4 => bif (v4 == 0) then (F_gantryref09_value_j8 v2 v4 (v4 == 0)) else (F_gantryref09_value_j8 v2 v4 (v4 == 1))
theorem ct_gantryref09_value {a0 : Int} {r : Rat} (hF : F_gantryref09_value a0 = some r) : Ct Tryz.prog 98 [.vc (pI .i64 a0)] (.va (eQ r)) := by
  unfold F_gantryref09_value at hF
  refine ctO_intro Tryz.func98 rfl (by kernel_rfl) Tryz.ntmps98 rfl (fun w0 M0 => ?_)
  refine r_seq (r_reg (r_alloc rfl tyZ35q (fun b1 => ?_)))
  refine r_nil (r_next (r_seq (r_reg (r_mv ?_))))
  obtain ⟨v2, h3, hF⟩ := bnd hF
  refine r_op (t_call rfl (ct_gantryref01_Around h3) rfl) ⟨rfl, k_I _ _, trivial⟩ ?_
  refine r_as ?_
  refine r_nil (r_next (r_seq (r_seq (r_reg (r_mv ?_)))))
  obtain ⟨v4, h5, hF⟩ := bnd hF
  refine r_op (t_rem rfl h5) ⟨rfl, k_I _ _, trivial⟩ ?_
  refine r_nil (r_next (r_blk (r_seq (r_cutS (fun H E => ∃ (x7 : Bool), F_gantryref09_value_j8 v2 v4 x7 = some r ∧ H = [⟨some b1, 1, 35, 4, 1, (eQ 0)⟩] ∧ E = [(2, .vc (pP (some b1) 0)), (3, .vc (pI .i64 v2)), (7, .vc (pI .i64 v4)), (8, .vc (pB x7))]) ?_ (fun Jj8 => ?_)))))
  · rintro _ _ ⟨x7, hF, rfl, rfl⟩
    unfold F_gantryref09_value_j8 at hF
    refine r_if rfl (fun h9 => ?_) (fun h9 => ?_)
    · have hF := cnd_t h9 hF
      refine r_seq (r_reg (r_op (t_bld (is := []) (xs := []) (ps := []) rfl tyB35q rfl rfl trivial rfl) trivial ?_))
      refine r_op0 (t_s 0 rfl rfl rfl tyA35.s) ⟨rfl, rfl, trivial⟩ ?_
      refine r_nil (r_next (r_ret (r_toR ?_)))
      obtain rfl := sm1 hF
      exact r_done1 (.inl rfl) Tryz.results98 (rv_cell 0 4 rfl rfl rfl rfl (.agg tyA35) .nil) rfl rfl
    have hF := cnd_f h9 hF
    refine r_seq (r_seq (r_reg (r_op (t_eq rfl) ⟨rfl, k_I _ _, trivial⟩ ?_)))
    refine r_as ?_
    refine r_nil (r_next (r_if rfl (fun h10 => ?_) (fun h10 => ?_)))
    · have hF := cnd_t h10 hF
      refine r_skip (r_next (r_if rfl (fun h11 => ?_) (fun h11 => ?_)))
      · have hF := cnd_t h11 hF
        refine r_seq (r_reg (r_mv ?_))
        obtain ⟨v12, h13, hF⟩ := bnd hF
        refine r_op (t_quo rfl h13) ⟨rfl, k_I _ _, trivial⟩ ?_
        obtain ⟨v14, h15, hF⟩ := bnd hF
        refine r_op (t_rem rfl h15) ⟨rfl, k_I _ _, trivial⟩ ?_
        obtain ⟨v16, h17, hF⟩ := bnd hF
        refine r_op (t_sub rfl h17) ⟨rfl, k_I _ _, trivial⟩ ?_
        obtain ⟨v18, h19, hF⟩ := bnd hF
        refine r_op (t_call rfl (qc_gantryref05_Of h19) rfl) ⟨rfl, k_I _ _, trivial⟩ ?_
        refine r_op0 (t_s 0 rfl rfl rfl tyA35.s) ⟨rfl, rfl, trivial⟩ ?_
        refine r_nil (r_next (r_ret (r_toR ?_)))
        obtain rfl := sm1 hF
        exact r_done1 (.inl rfl) Tryz.results98 (rv_cell 0 4 rfl rfl rfl rfl (.agg tyA35) .nil) rfl rfl
      have hF := cnd_f h11 hF
      refine r_skip (r_blkN (r_next (r_seq (r_reg (r_mv ?_)))))
      obtain ⟨v20, h21, hF⟩ := bnd hF
      refine r_op (t_quo rfl h21) ⟨rfl, k_I _ _, trivial⟩ ?_
      obtain ⟨v22, h23, hF⟩ := bnd hF
      refine r_op (t_call rfl (ct_gantryref05_Small h23) rfl) ⟨rfl, trivial⟩ ?_
      refine r_op0 (t_s 0 rfl rfl rfl tyA35.s) ⟨rfl, rfl, trivial⟩ ?_
      refine r_nil (r_next (r_ret (r_toR ?_)))
      obtain rfl := sm1 hF
      exact r_done1 (.inl rfl) Tryz.results98 (rv_cell 0 4 rfl rfl rfl rfl (.agg tyA35) .nil) rfl rfl
    have hF := cnd_f h10 hF
    refine r_reg (r_op (t_eq rfl) ⟨rfl, k_I _ _, trivial⟩ ?_)
    refine r_as ?_
    refine r_nil (r_next (r_if rfl (fun h24 => ?_) (fun h24 => ?_)))
    · have hF := cnd_t h24 hF
      refine r_seq (r_reg (r_mv ?_))
      obtain ⟨v25, h26, hF⟩ := bnd hF
      refine r_op (t_quo rfl h26) ⟨rfl, k_I _ _, trivial⟩ ?_
      obtain ⟨v27, h28, hF⟩ := bnd hF
      refine r_op (t_rem rfl h28) ⟨rfl, k_I _ _, trivial⟩ ?_
      obtain ⟨v29, h30, hF⟩ := bnd hF
      refine r_op (t_sub rfl h30) ⟨rfl, k_I _ _, trivial⟩ ?_
      obtain ⟨v31, h32, hF⟩ := bnd hF
      refine r_op (t_call rfl (qc_gantryref05_Of h32) rfl) ⟨rfl, k_I _ _, trivial⟩ ?_
      refine r_op0 (t_s 0 rfl rfl rfl tyA35.s) ⟨rfl, rfl, trivial⟩ ?_
      refine r_nil (r_next (r_ret (r_toR ?_)))
      obtain rfl := sm1 hF
      exact r_done1 (.inl rfl) Tryz.results98 (rv_cell 0 4 rfl rfl rfl rfl (.agg tyA35) .nil) rfl rfl
    have hF := cnd_f h24 hF
    refine r_skip (r_blkN (r_next (r_seq (r_reg (r_mv ?_)))))
    obtain ⟨v33, h34, hF⟩ := bnd hF
    refine r_op (t_quo rfl h34) ⟨rfl, k_I _ _, trivial⟩ ?_
    obtain ⟨v35, h36, hF⟩ := bnd hF
    refine r_op (t_call rfl (ct_gantryref05_Small h36) rfl) ⟨rfl, trivial⟩ ?_
    refine r_op0 (t_s 0 rfl rfl rfl tyA35.s) ⟨rfl, rfl, trivial⟩ ?_
    refine r_nil (r_next (r_ret (r_toR ?_)))
    obtain rfl := sm1 hF
    exact r_done1 (.inl rfl) Tryz.results98 (rv_cell 0 4 rfl rfl rfl rfl (.agg tyA35) .nil) rfl rfl
  refine r_seq (r_reg (r_op (t_eq rfl) ⟨rfl, k_I _ _, trivial⟩ ?_))
  refine r_as ?_
  refine r_nil (r_next (r_if rfl (fun h37 => ?_) (fun h37 => ?_)))
  · have hF := cnd_t h37 hF
    refine r_skip ?_
    exact r_backJ Jj8 ⟨(v4 == 0), hF, rfl, rfl⟩ [0] rfl ⟨rfl, rfl, rfl, rfl, trivial⟩
  have hF := cnd_f h37 hF
  refine r_reg (r_op (t_eq rfl) ⟨rfl, k_I _ _, trivial⟩ ?_)
  refine r_as ?_
  refine r_nil ?_
  exact r_backJ Jj8 ⟨(v4 == 1), hF, rfl, rfl⟩ [0] rfl ⟨rfl, rfl, rfl, rfl, trivial⟩
def F_gantryref09_Row_j26 (K : Nat) (x19 : List Rat) : Option (List Rat) :=
  some x19
def F_gantryref09_Row_l25 (K : Nat) (a0 : List Int) (a1 : Int) (a2 : Int) : Nat → (List Rat) → Int → Option (List Rat)
  | 0, _, _ => none
  | k + 1, x12, x18 => bif (decide (x18 < a2)) then ((chk (a1 + x18)).bind fun v28 => (F_gantryref01_At a0 v28 1099511627776).bind fun v30 => (F_gantryref09_value v30).bind fun v32 => (apL x12 [v32]).bind fun x34 => (chk (x18 + 1)).bind fun v41 => F_gantryref09_Row_l25 K a0 a1 a2 k x34 v41) else (some x12)
def F_gantryref09_Row (K : Nat) (a0 : List Int) (a1 : Int) (a2 : Int) : Option (List Rat) :=
  (F_gantryref09_Row_l25 K a0 a1 a2 K ([] : List Rat) 0).bind fun x19 => F_gantryref09_Row_j26 K x19
theorem ctO_gantryref09_Row {K : Nat} {a0 : List Int} {a1 : Int} {a2 : Int} {r : List Rat} (hF : F_gantryref09_Row K a0 a1 a2 = some r) : CtO Tryz.prog 46 [] [.vc (pS cI a0), .vc (pI .i64 a1), .vc (pI .i64 a2)] (fun Ho q => ∃ b45 c46 n44, r.length = n44 ∧ Ho = [hO cQ b45 c46 35 n44 r] ∧ q = .vc (pO b45 n44 c46)) := by
  unfold F_gantryref09_Row at hF
  refine ctO_intro Tryz.func46 rfl (by kernel_rfl) Tryz.ntmps46 rfl (fun w0 M0 => ?_)
  refine r_seq (r_reg (r_nilO cQ 35 rfl ?_))
  refine r_nil (r_next (r_seq (r_reg (r_nilO cQ 35 rfl ?_))))
  refine r_nil (r_next (r_seq (r_seq (r_reg (r_op (t_mv (.inr rfl)) ⟨k_I _ _, trivial⟩ ?_)))))
  refine r_nil (r_next (r_blk (r_cutN (fun H E => ∃ (x19 : List Rat), ∃ (b20 : Option Nat), ∃ (c21 : Nat), ∃ (n22 : Nat), F_gantryref09_Row_j26 K x19 = some r ∧ x19.length = n22 ∧ H = [hO cQ b20 c21 35 n22 x19] ∧ E = [(7, .vc (pO b20 n22 c21))]) ?_ (fun Jj26 => ?_))))
  · rintro _ _ ⟨x19, b20, c21, n22, hF, q23, rfl, rfl⟩
    unfold F_gantryref09_Row_j26 at hF
    refine r_next (r_seq (r_reg (r_mv ?_)))
    refine r_as ?_
    refine r_nil (r_next (r_ret (r_toR ?_)))
    obtain rfl := sm1 hF
    exact r_done (.inl rfl) Tryz.results46 (.tmp rfl .nil) rfl [0] rfl (by decide) ⟨b20, c21, n22, q23, rfl, rfl⟩
  obtain ⟨x19', hL, hRl25⟩ := bnd hF
  refine r_lp (fun k a w => ∃ (x12 : List Rat), ∃ (x18 : Int), ∃ (b13 : Option Nat), ∃ (c14 : Nat), ∃ (n15 : Nat), F_gantryref09_Row_l25 K a0 a1 a2 k x12 x18 = some x19' ∧ x12.length = n15 ∧ hs _ [hO cQ b13 c14 35 n15 x12] [(0, .vc (pS cI a0)), (1, .vc (pI .i64 a1)), (2, .vc (pI .i64 a2)), (7, .vc (pO b13 n15 c14)), (8, .vc (pI .i64 x18))] a w) K (fun a w ⟨_, _, _, _, _, hF, _, _⟩ => by cases hF) (fun k a w ⟨x12, x18, b13, c14, n15, hF, q16, hh⟩ => r_at ?_ hh) (fun a w hh => ⟨([] : List Rat), 0, none, 0, 0, hL, rfl, hs_back [0] rfl (by decide) (by exact ⟨rfl, rfl, rfl, rfl, rfl, trivial⟩) hh⟩)
  rw [F_gantryref09_Row_l25.eq_2] at hF
  refine r_seq (r_seq (r_reg (r_mv ?_)))
  refine r_mv ?_
  refine r_op (t_lt rfl) ⟨rfl, rfl, trivial⟩ ?_
  refine r_nil (r_next (r_if rfl (fun h27 => ?_) (fun h27 => ?_)))
  · have hF := cnd_t h27 hF
    refine r_skip (r_next (r_seq (r_blk (r_reg (r_mv ?_)))))
    refine r_mv ?_
    refine r_mv ?_
    refine r_mv ?_
    obtain ⟨v28, h29, hF⟩ := bnd hF
    refine r_op (t_add rfl h29) ⟨rfl, rfl, trivial⟩ ?_
    obtain ⟨v30, h31, hF⟩ := bnd hF
    refine r_op (t_call rfl (ct_gantryref01_At h31) rfl) ⟨rfl, rfl, k_I _ _, trivial⟩ ?_
    obtain ⟨v32, h33, hF⟩ := bnd hF
    refine r_op (t_call rfl (ct_gantryref09_value h33) rfl) ⟨rfl, trivial⟩ ?_
    refine r_op (t_bs (C := cQ) (xs := [.tmp 20]) (ps := [.va (eQ v32)]) (zs := [v32]) rfl tyS24 rfl ⟨⟨trivial, rfl⟩, trivial⟩ rfl) ⟨rfl, trivial⟩ ?_
    obtain ⟨x34, h35, hF⟩ := bnd hF
    refine r_app 0 rfl tyS24 rfl rfl q16 rfl rfl h35 (fun b36 c37 H38 e39 => ?_)
    cases e39
    refine r_as ?_
    refine r_nil (r_blkN (r_next (r_reg (r_mv ?_))))
    obtain ⟨v41, h42, hF⟩ := bnd hF
    refine r_op (t_add rfl h42) ⟨rfl, k_I _ _, trivial⟩ ?_
    refine r_as ?_
    refine r_nil ?_
    exact r_round (fun a w hh => ⟨x34, v41, b36, c37, (n15 + [v32].length), hF, (apL_len h35 q16), hs_back [0] rfl (by decide) (by exact ⟨rfl, rfl, rfl, rfl, rfl, trivial⟩) hh⟩)
  have hF := cnd_f h27 hF
  refine r_brk ?_
  obtain rfl := sm1 hF
  exact r_backJ Jj26 ⟨x12, b13, c14, n15, hRl25, q16, rfl, rfl⟩ [0] rfl ⟨rfl, trivial⟩
def F_gantryref09_less_j27 (K : Nat) (x20 : List Rat) : Option (List Rat) :=
  some x20
def F_gantryref09_less_l26 (K : Nat) (a0 : List Rat) (a1 : List Rat) (a2 : Rat) : Nat → (List Rat) → Int → Option (List Rat)
  | 0, _, _ => none
  | k + 1, x13, x19 => bif (decide (x19 < (a0.length : Int))) then ((rdL a0 x19).bind fun v31 => (rdL a1 x19).bind fun v33 => (qmul a2 v33).bind fun v35 => (qsub v31 v35).bind fun v37 => (apL x13 [v37]).bind fun x39 => (chk (x19 + 1)).bind fun v46 => F_gantryref09_less_l26 K a0 a1 a2 k x39 v46) else (some x13)
def F_gantryref09_less (K : Nat) (a0 : List Rat) (a1 : List Rat) (a2 : Rat) : Option (List Rat) :=
  (F_gantryref09_less_l26 K a0 a1 a2 K ([] : List Rat) 0).bind fun x20 => F_gantryref09_less_j27 K x20
theorem ctO_gantryref09_less {K : Nat} {a0 : List Rat} {a1 : List Rat} {a2 : Rat} {r : List Rat} (hF : F_gantryref09_less K a0 a1 a2 = some r) : CtO Tryz.prog 97 [] [.vc (pS cQ a0), .vc (pS cQ a1), .va (eQ a2)] (fun Ho q => ∃ b50 c51 n49, r.length = n49 ∧ Ho = [hO cQ b50 c51 35 n49 r] ∧ q = .vc (pO b50 n49 c51)) := by
  unfold F_gantryref09_less at hF
  refine ctO_intro Tryz.func97 rfl (by kernel_rfl) Tryz.ntmps97 rfl (fun w0 M0 => ?_)
  refine r_seq (r_reg (r_box rfl rfl trivial (fun b1 => ?_)))
  refine r_nilO cQ 35 rfl ?_
  refine r_nil (r_next (r_seq (r_reg (r_nilO cQ 35 rfl ?_))))
  refine r_nil (r_next (r_seq (r_seq (r_reg (r_op (t_mv (.inr rfl)) ⟨k_I _ _, trivial⟩ ?_)))))
  refine r_nil (r_next (r_blk (r_cutN (fun H E => ∃ (x20 : List Rat), ∃ (b21 : Option Nat), ∃ (c22 : Nat), ∃ (n23 : Nat), F_gantryref09_less_j27 K x20 = some r ∧ x20.length = n23 ∧ H = [hO cQ b21 c22 35 n23 x20] ∧ E = [(7, .vc (pO b21 n23 c22))]) ?_ (fun Jj27 => ?_))))
  · rintro _ _ ⟨x20, b21, c22, n23, hF, q24, rfl, rfl⟩
    unfold F_gantryref09_less_j27 at hF
    refine r_next (r_seq (r_reg (r_mv ?_)))
    refine r_as ?_
    refine r_nil (r_next (r_ret (r_toR ?_)))
    obtain rfl := sm1 hF
    exact r_done (.inl rfl) Tryz.results97 (.tmp rfl .nil) rfl [0] rfl (by decide) ⟨b21, c22, n23, q24, rfl, rfl⟩
  obtain ⟨x20', hL, hRl26⟩ := bnd hF
  refine r_lp (fun k a w => ∃ (x13 : List Rat), ∃ (x19 : Int), ∃ (b14 : Option Nat), ∃ (c15 : Nat), ∃ (n16 : Nat), F_gantryref09_less_l26 K a0 a1 a2 k x13 x19 = some x20' ∧ x13.length = n16 ∧ hs _ [hO cQ b14 c15 35 n16 x13, ⟨some b1, 1, 35, 4, 1, (eQ a2)⟩] [(0, .vc (pS cQ a0)), (1, .vc (pS cQ a1)), (5, .vc (pP (some b1) 0)), (7, .vc (pO b14 n16 c15)), (8, .vc (pI .i64 x19))] a w) K (fun a w ⟨_, _, _, _, _, hF, _, _⟩ => by cases hF) (fun k a w ⟨x13, x19, b14, c15, n16, hF, q17, hh⟩ => r_at ?_ hh) (fun a w hh => ⟨([] : List Rat), 0, none, 0, 0, hL, rfl, hs_back [0, 2] rfl (by decide) (by exact ⟨rfl, rfl, rfl, rfl, rfl, trivial⟩) hh⟩)
  rw [F_gantryref09_less_l26.eq_2] at hF
  refine r_seq (r_seq (r_reg (r_mv ?_)))
  refine r_mv ?_
  refine r_op (t_ln rfl tyS24) ⟨rfl, trivial⟩ ?_
  refine r_op (t_lt rfl) ⟨rfl, rfl, trivial⟩ ?_
  refine r_nil (r_next (r_if rfl (fun h28 => ?_) (fun h28 => ?_)))
  · have hF := cnd_t h28 hF
    refine r_skip (r_next (r_seq (r_blk ?_)))
    obtain ⟨v31, h32, hF⟩ := bnd hF
    obtain ⟨v33, h34, hF⟩ := bnd hF
    obtain ⟨v35, h36, hF⟩ := bnd hF
    obtain ⟨v37, h38, hF⟩ := bnd hF
    refine r_draw [0, 0, 0, 6, 14, 0, 0, 0, 192, 448, 992, 2046, 4094, 8191, 16383] 13 2 [.v (.vc (pO b14 n16 c15)), .v (.vc (pS cQ a0)), .v (.vc (pI .i64 x19)), .v (.vc (pM (cQ.e v31))), .v (.va (eQ v31)), .v (.va (eQ a2)), .v (.vc (pS cQ a1)), .v (.vc (pI .i64 x19)), .v (.vc (pM (cQ.e v33))), .v (.va (eQ v33)), .v (.va (eQ v35)), .v (.va (eQ v37)), .v (.vc (pS cQ [v37]))] Tryz_mixed ⟨d0 (t_mv (.inl rfl)) ⟨rfl, trivial⟩, d0 (t_mv (.inl rfl)) ⟨rfl, trivial⟩, d0 (t_mv (.inl rfl)) ⟨rfl, trivial⟩, d0 (t_ix rfl tyS24 h32) ⟨rfl, rfl, trivial⟩, d0 (t_lM 4 rfl rfl (.agg tyA35)) ⟨rfl, trivial⟩, d0 (t_l 1 4 rfl rfl rfl rfl (.agg tyA35)) ⟨rfl, trivial⟩, d0 (t_mv (.inl rfl)) ⟨rfl, trivial⟩, d0 (t_mv (.inl rfl)) ⟨rfl, trivial⟩, d0 (t_ix rfl tyS24 h34) ⟨rfl, rfl, trivial⟩, d0 (t_lM 4 rfl rfl (.agg tyA35)) ⟨rfl, trivial⟩, d0 (t_call rfl (qc_gantryref05_Mul h36) rfl) ⟨rfl, rfl, trivial⟩, d0 (t_call rfl (qc_gantryref05_Sub h38) rfl) ⟨rfl, rfl, trivial⟩, d0 (t_bs (C := cQ) (xs := [.tmp 26]) (ps := [.va (eQ v37)]) (zs := [v37]) rfl tyS24 rfl ⟨⟨trivial, rfl⟩, trivial⟩ rfl) ⟨rfl, trivial⟩, trivial⟩ (fun bs30 G29 => ?_)
    obtain ⟨x39, h40, hF⟩ := bnd hF
    refine r_app 0 rfl tyS24 rfl rfl q17 rfl rfl h40 (fun b41 c42 H43 e44 => ?_)
    cases e44
    refine r_as ?_
    refine r_nil (r_blkN (r_next (r_reg (r_mv ?_))))
    obtain ⟨v46, h47, hF⟩ := bnd hF
    refine r_op (t_add rfl h47) ⟨rfl, k_I _ _, trivial⟩ ?_
    refine r_as ?_
    refine r_nil ?_
    exact r_round (fun a w hh => ⟨x39, v46, b41, c42, (n16 + [v37].length), hF, (apL_len h40 q17), hs_back [0, 1] rfl (by decide) (by exact ⟨rfl, rfl, rfl, rfl, rfl, trivial⟩) hh⟩)
  have hF := cnd_f h28 hF
  refine r_brk ?_
  obtain rfl := sm1 hF
  exact r_backJ Jj27 ⟨x13, b14, c15, n16, hRl26, q17, rfl, rfl⟩ [0] rfl ⟨rfl, trivial⟩
theorem ct_gantryref09_less {K : Nat} {a0 : List Rat} {a1 : List Rat} {a2 : Rat} {r : List Rat} (hF : F_gantryref09_less K a0 a1 a2 = some r) : Ct Tryz.prog 97 [.vc (pS cQ a0), .vc (pS cQ a1), .va (eQ a2)] (.vc (pS cQ r)) := ct_ofO (ctO_gantryref09_less hF)
def F_gantryref09_Cols (a0 : List (List Rat)) : Option Int :=
  bif ((a0.length : Int) == 0) then (some 0) else ((rdL a0 0).bind fun v2 => some (v2.length : Int))
theorem ct_gantryref09_Cols {a0 : List (List Rat)} {r : Int} (hF : F_gantryref09_Cols a0 = some r) : Ct Tryz.prog 102 [.vc (pS (cSl cQ) a0)] (.vc (pI .i64 r)) := by
  unfold F_gantryref09_Cols at hF
  refine ctO_intro Tryz.func102 rfl (by kernel_rfl) Tryz.ntmps102 rfl (fun w0 M0 => ?_)
  refine r_seq (r_reg (r_op (t_mv (.inr rfl)) ⟨k_I _ _, trivial⟩ ?_))
  refine r_nil (r_next (r_seq (r_seq (r_reg (r_mv ?_)))))
  refine r_op (t_ln rfl tyS47) ⟨rfl, trivial⟩ ?_
  refine r_op (t_eq rfl) ⟨rfl, k_I _ _, trivial⟩ ?_
  refine r_nil (r_next (r_if rfl (fun h1 => ?_) (fun h1 => ?_)))
  · have hF := cnd_t h1 hF
    refine r_seq (r_reg (r_op (t_mv (.inr rfl)) ⟨k_I _ _, trivial⟩ ?_))
    refine r_nil (r_next (r_ret (r_toR ?_)))
    obtain rfl := sm1 hF
    exact r_done1 (.inl rfl) Tryz.results102 (.tmp rfl .nil) rfl rfl
  have hF := cnd_f h1 hF
  refine r_skip (r_next (r_seq (r_reg (r_mv ?_))))
  obtain ⟨v2, h3, hF⟩ := bnd hF
  refine r_op (t_ix rfl tyS47 h3) ⟨rfl, k_I _ _, trivial⟩ ?_
  refine r_op (t_lM 1 rfl rfl (.one tyO24)) ⟨rfl, trivial⟩ ?_
  refine r_op (t_ln rfl tyS24) ⟨rfl, trivial⟩ ?_
  refine r_as ?_
  refine r_nil (r_next (r_ret (r_toR ?_)))
  obtain rfl := sm1 hF
  exact r_done1 (.inl rfl) Tryz.results102 (.tmp rfl .nil) rfl rfl
def F_gantrylaw09_ragged (a0 : List (List Rat)) (a1 : Int) : Option (List (List Rat)) :=
  (apL ([] : List (List Rat)) a0).bind fun x3 => (F_gantryref01_Around a1 3).bind fun v10 => bif (v10 == 0) then ((F_gantryref09_Cols a0).bind fun v15 => (mkL v15 0).bind fun x17 => (F_gantryref09_Cols a0).bind fun v19 => (chk (v19 + 1)).bind fun v21 => (mkL v21 0).bind fun x23 => (apL x3 [x17, x23]).bind fun x25 => some x25) else (bif (v10 == 1) then ((mkL 65 []).bind fun x33 => some x33) else ((mkL 65 0).bind fun x38 => some [x38]))
theorem ct_gantrylaw09_ragged {a0 : List (List Rat)} {a1 : Int} {r : List (List Rat)} (hF : F_gantrylaw09_ragged a0 a1 = some r) : Ct Tryz.prog 42 [.vc (pS (cSl cQ) a0), .vc (pI .i64 a1)] (.vc (pS (cSl cQ) r)) := by
  unfold F_gantrylaw09_ragged at hF
  refine ctO_intro Tryz.func42 rfl (by kernel_rfl) Tryz.ntmps42 rfl (fun w0 M0 => ?_)
  refine r_seq (r_reg (r_op (t_mv (.inr rfl)) ⟨k_nil (cSl cQ), trivial⟩ ?_))
  refine r_nil (r_next (r_seq (r_reg (r_nilO (cSl cQ) 24 rfl ?_))))
  refine r_nil (r_next (r_seq (r_reg (r_mv ?_))))
  refine r_mv ?_
  obtain ⟨x3, h4, hF⟩ := bnd hF
  refine r_app 0 rfl tyS47 rfl rfl rfl rfl rfl h4 (fun b5 c6 H7 e8 => ?_)
  cases e8
  refine r_as ?_
  refine r_nil (r_next (r_seq (r_seq (r_reg (r_mv ?_)))))
  obtain ⟨v10, h11, hF⟩ := bnd hF
  refine r_op (t_call rfl (ct_gantryref01_Around h11) rfl) ⟨rfl, k_I _ _, trivial⟩ ?_
  refine r_nil (r_next (r_blk (r_seq (r_reg (r_op (t_eq rfl) ⟨rfl, k_I _ _, trivial⟩ ?_)))))
  refine r_as ?_
  refine r_nil (r_next (r_if rfl (fun h12 => ?_) (fun h12 => ?_)))
  · have hF := cnd_t h12 hF
    refine r_seq ?_
    obtain ⟨v15, h16, hF⟩ := bnd hF
    obtain ⟨x17, h18, hF⟩ := bnd hF
    obtain ⟨v19, h20, hF⟩ := bnd hF
    obtain ⟨v21, h22, hF⟩ := bnd hF
    obtain ⟨x23, h24, hF⟩ := bnd hF
    refine r_draw [0, 0, 2, 6, 0, 22, 54, 118, 254, 511, 1023] 9 2 [.v (.vc (pO b5 (0 + a0.length) c6)), .v (.vc (pS (cSl cQ) a0)), .v (.vc (pI .i64 v15)), .v (.vc (pS cQ x17)), .v (.vc (pS (cSl cQ) a0)), .v (.vc (pI .i64 v19)), .v (.vc (pI .i64 v21)), .v (.vc (pS cQ x23)), .v (.vc (pS (cSl cQ) [x17, x23]))] Tryz_mixed ⟨d0 (t_mv (.inl rfl)) ⟨rfl, trivial⟩, d0 (t_mv (.inl rfl)) ⟨rfl, trivial⟩, d0 (t_call rfl (ct_gantryref09_Cols h16) rfl) ⟨rfl, trivial⟩, d0 (tr_frz 0 (hv_make (C := cQ) rfl tyS24 rfl tyZ35q h18) (fun _ _ => rfl) rfl (fun _ _ => rfl)) ⟨rfl, trivial⟩, d0 (t_mv (.inl rfl)) ⟨rfl, trivial⟩, d0 (t_call rfl (ct_gantryref09_Cols h20) rfl) ⟨rfl, trivial⟩, d0 (t_add rfl h22) ⟨rfl, k_I _ _, trivial⟩, d0 (tr_frz 0 (hv_make (C := cQ) rfl tyS24 rfl tyZ35q h24) (fun _ _ => rfl) rfl (fun _ _ => rfl)) ⟨rfl, trivial⟩, d0 (t_bs (C := (cSl cQ)) (xs := [.tmp 16, .tmp 20]) (ps := [.vc (pS cQ x17), .vc (pS cQ x23)]) (zs := [x17, x23]) rfl tyS47 rfl ⟨⟨trivial, rfl⟩, ⟨trivial, rfl⟩, trivial⟩ rfl) ⟨rfl, rfl, trivial⟩, trivial⟩ (fun bs14 G13 => ?_)
    obtain ⟨x25, h26, hF⟩ := bnd hF
    refine r_app 0 rfl tyS47 rfl rfl (apL_len h4 rfl) rfl rfl h26 (fun b27 c28 H29 e30 => ?_)
    cases e30
    refine r_as ?_
    refine r_nil (r_next (r_ret (r_toR (r_fzX 0 [4, 22] rfl (apL_len h26 (apL_len h4 rfl)) ⟨rfl, rfl, trivial⟩ rfl ?_))))
    obtain rfl := sm1 hF
    exact r_done1 (.inl rfl) Tryz.results42 (.tmp rfl .nil) rfl rfl
  have hF := cnd_f h12 hF
  refine r_seq (r_reg (r_op (t_eq rfl) ⟨rfl, k_I _ _, trivial⟩ ?_))
  refine r_as ?_
  refine r_nil (r_next (r_if rfl (fun h32 => ?_) (fun h32 => ?_)))
  · have hF := cnd_t h32 hF
    refine r_seq (r_reg ?_)
    obtain ⟨x33, h34, hF⟩ := bnd hF
    refine r_make (C := (cSl cQ)) rfl tyS47 rfl tyZ24q (k_I _ _) h34 (fun b35 => ?_)
    refine r_as ?_
    refine r_nil (r_next (r_ret (r_toR (r_fzX 0 [4, 25] rfl rfl ⟨rfl, rfl, trivial⟩ rfl ?_))))
    obtain rfl := sm1 hF
    exact r_done1 (.inl rfl) Tryz.results42 (.tmp rfl .nil) rfl rfl
  have hF := cnd_f h32 hF
  refine r_skip (r_blkN (r_next (r_seq (r_reg ?_))))
  obtain ⟨x38, h39, hF⟩ := bnd hF
  refine r_make (C := cQ) rfl tyS24 rfl tyZ35q (k_I _ _) h39 (fun b40 => ?_)
  refine r_fzL 0 [26] rfl rfl ⟨rfl, trivial⟩ rfl ?_
  refine r_op (t_bs (C := (cSl cQ)) (xs := [.tmp 26]) (ps := [.vc (pS cQ x38)]) (zs := [x38]) rfl tyS47 rfl ⟨⟨trivial, rfl⟩, trivial⟩ rfl) ⟨rfl, trivial⟩ ?_
  refine r_as ?_
  refine r_nil (r_next (r_ret (r_toR ?_)))
  obtain rfl := sm1 hF
  exact r_done1 (.inl rfl) Tryz.results42 (.tmp rfl .nil) rfl rfl
def F_matrix_cols (a0 : List (List Rat)) : Option Int :=
  bif ((a0.length : Int) == 0) then (some 0) else ((rdL a0 0).bind fun v2 => some (v2.length : Int))
theorem ct_matrix_cols {a0 : List (List Rat)} {r : Int} (hF : F_matrix_cols a0 = some r) : Ct Tryz.prog 101 [.vc (pS (cSl cQ) a0)] (.vc (pI .i64 r)) := by
  unfold F_matrix_cols at hF
  refine ctO_intro Tryz.func101 rfl (by kernel_rfl) Tryz.ntmps101 rfl (fun w0 M0 => ?_)
  refine r_seq (r_reg (r_op (t_mv (.inr rfl)) ⟨k_I _ _, trivial⟩ ?_))
  refine r_nil (r_next (r_seq (r_seq (r_reg (r_mv ?_)))))
  refine r_op (t_ln rfl tyS47) ⟨rfl, trivial⟩ ?_
  refine r_op (t_eq rfl) ⟨rfl, k_I _ _, trivial⟩ ?_
  refine r_nil (r_next (r_if rfl (fun h1 => ?_) (fun h1 => ?_)))
  · have hF := cnd_t h1 hF
    refine r_seq (r_reg (r_op (t_mv (.inr rfl)) ⟨k_I _ _, trivial⟩ ?_))
    refine r_nil (r_next (r_ret (r_toR ?_)))
    obtain rfl := sm1 hF
    exact r_done1 (.inl rfl) Tryz.results101 (.tmp rfl .nil) rfl rfl
  have hF := cnd_f h1 hF
  refine r_skip (r_next (r_seq (r_reg (r_mv ?_))))
  obtain ⟨v2, h3, hF⟩ := bnd hF
  refine r_op (t_ix rfl tyS47 h3) ⟨rfl, k_I _ _, trivial⟩ ?_
  refine r_op (t_lM 1 rfl rfl (.one tyO24)) ⟨rfl, trivial⟩ ?_
  refine r_op (t_ln rfl tyS24) ⟨rfl, trivial⟩ ?_
  refine r_as ?_
  refine r_nil (r_next (r_ret (r_toR ?_)))
  obtain rfl := sm1 hF
  exact r_done1 (.inl rfl) Tryz.results101 (.tmp rfl .nil) rfl rfl
def F_slices_IndexFunc_Rat_j4 (K : Nat) : Option Int :=
  some (-1)
def F_slices_IndexFunc_Rat_l3 (K : Nat) (a0 : List (List Rat)) (a1 : ((List Rat) → Option Bool)) : Nat → Int → Option (LR Int Unit)
  | 0, _ => none
  | k + 1, x2 => bif (decide (x2 < (a0.length : Int))) then ((rdL a0 x2).bind fun v6 => (a1 v6).bind fun v8 => bif v8 then (some (.ret x2)) else ((chk (x2 + 1)).bind fun v11 => F_slices_IndexFunc_Rat_l3 K a0 a1 k v11)) else (some (.go ()))
def F_slices_IndexFunc_Rat (K : Nat) (a0 : List (List Rat)) (a1 : ((List Rat) → Option Bool)) : Option Int :=
  (F_slices_IndexFunc_Rat_l3 K a0 a1 K 0).bind fun o => match o with | .ret r => some r | .go _ => F_slices_IndexFunc_Rat_j4 K 
theorem ct_slices_IndexFunc_Rat {K : Nat} {a0 : List (List Rat)} {a1 : ((List Rat) → Option Bool)} {r : Int} (hF : F_slices_IndexFunc_Rat K a0 a1 = some r) : Ct Tryz.prog 147 [.vc (pS (cSl cQ) a0), .vc (pFn Tryz.prog (fun x : (List Rat) => [.vc (pS cQ x)]) (fun r : Bool => .vc (pB r)) a1)] (.vc (pI .i64 r)) := by
  unfold F_slices_IndexFunc_Rat at hF
  refine ctO_intro Tryz.func147 rfl (by kernel_rfl) Tryz.ntmps147 rfl (fun w0 M0 => ?_)
  refine r_seq (r_reg (r_op (t_mv (.inr rfl)) ⟨k_I _ _, trivial⟩ ?_))
  refine r_nil (r_next (r_seq (r_seq (r_reg (r_mv ?_)))))
  refine r_op (t_ln rfl tyS47) ⟨rfl, trivial⟩ ?_
  refine r_op (t_mv (.inl rfl)) ⟨k_I _ _, trivial⟩ ?_
  refine r_nil (r_next (r_blk (r_cutN (fun H E => F_slices_IndexFunc_Rat_j4 K = some r ∧ H = [] ∧ E = []) ?_ (fun Jj4 => ?_))))
  · rintro _ _ ⟨hF, rfl, rfl⟩
    unfold F_slices_IndexFunc_Rat_j4 at hF
    refine r_next (r_seq (r_reg (r_op (t_mv (.inr rfl)) ⟨k_I _ _, trivial⟩ ?_)))
    refine r_nil (r_next (r_ret (r_toR ?_)))
    obtain rfl := sm1 hF
    exact r_done1 (.inl rfl) Tryz.results147 (.tmp rfl .nil) rfl rfl
  obtain ⟨ol3, hL, hRl3⟩ := bnd hF
  refine r_lp (fun k a w => ∃ (x2 : Int), F_slices_IndexFunc_Rat_l3 K a0 a1 k x2 = some ol3 ∧ hs _ [] [(0, .vc (pS (cSl cQ) a0)), (1, .vc (pFn Tryz.prog (fun x : (List Rat) => [.vc (pS cQ x)]) (fun r : Bool => .vc (pB r)) a1)), (7, .vc (pI .i64 (a0.length : Int))), (8, .vc (pI .i64 x2))] a w) K (fun a w ⟨_, hF, _⟩ => by cases hF) (fun k a w ⟨x2, hF, hh⟩ => r_at ?_ hh) (fun a w hh => ⟨0, hL, hs_back [] rfl (by decide) (by exact ⟨rfl, rfl, rfl, rfl, trivial⟩) hh⟩)
  rw [F_slices_IndexFunc_Rat_l3.eq_2] at hF
  refine r_seq (r_reg (r_op (t_lt rfl) ⟨rfl, rfl, trivial⟩ ?_))
  refine r_nil (r_next (r_seq (r_if rfl (fun h5 => ?_) (fun h5 => ?_))))
  · have hF := cnd_t h5 hF
    refine r_skip (r_next (r_seq (r_blk (r_seq (r_reg (r_mv ?_))))))
    refine r_as ?_
    refine r_nil (r_next (r_seq (r_reg (r_mv ?_))))
    refine r_mv ?_
    refine r_mv ?_
    obtain ⟨v6, h7, hF⟩ := bnd hF
    refine r_op (t_ix rfl tyS47 h7) ⟨rfl, rfl, trivial⟩ ?_
    refine r_op (t_lM 1 rfl rfl (.one tyO24)) ⟨rfl, trivial⟩ ?_
    obtain ⟨v8, h9, hF⟩ := bnd hF
    refine r_op (t_callF (pre := fun x : (List Rat) => [.vc (pS cQ x)]) (post := fun r : Bool => .vc (pB r)) (x := v6) (r := v8) rfl h9 rfl) ⟨rfl, rfl, trivial⟩ ?_
    refine r_nil (r_next (r_if rfl (fun h10 => ?_) (fun h10 => ?_)))
    · have hF := cnd_t h10 hF
      refine r_seq (r_reg (r_mv ?_))
      refine r_as ?_
      refine r_nil (r_next (r_ret (r_toR ?_)))
      obtain rfl := sm1 hF
      obtain rfl := sm1 hRl3
      exact r_done1 (.inl rfl) Tryz.results147 (.tmp rfl .nil) rfl rfl
    have hF := cnd_f h10 hF
    refine r_skip (r_blkN (r_next (r_reg ?_)))
    obtain ⟨v11, h12, hF⟩ := bnd hF
    refine r_op (t_add rfl h12) ⟨rfl, k_I _ _, trivial⟩ ?_
    refine r_mv ?_
    refine r_nil ?_
    exact r_round (fun a w hh => ⟨v11, hF, hs_back [] rfl (by decide) (by exact ⟨rfl, rfl, rfl, rfl, trivial⟩) hh⟩)
  have hF := cnd_f h5 hF
  refine r_brk ?_
  obtain rfl := sm1 hF
  exact r_backJ Jj4 ⟨hRl3, rfl, rfl⟩ [] rfl trivial
def F_slices_ContainsFunc_Rat (K : Nat) (a0 : List (List Rat)) (a1 : ((List Rat) → Option Bool)) : Option Bool :=
  (F_slices_IndexFunc_Rat K a0 a1).bind fun v1 => some (decide (0 ≤ v1))
theorem ct_slices_ContainsFunc_Rat {K : Nat} {a0 : List (List Rat)} {a1 : ((List Rat) → Option Bool)} {r : Bool} (hF : F_slices_ContainsFunc_Rat K a0 a1 = some r) : Ct Tryz.prog 123 [.vc (pS (cSl cQ) a0), .vc (pFn Tryz.prog (fun x : (List Rat) => [.vc (pS cQ x)]) (fun r : Bool => .vc (pB r)) a1)] (.vc (pB r)) := by
  unfold F_slices_ContainsFunc_Rat at hF
  refine ctO_intro Tryz.func123 rfl (by kernel_rfl) Tryz.ntmps123 rfl (fun w0 M0 => ?_)
  refine r_seq (r_reg (r_op (t_mv (.inr rfl)) ⟨k_B _, trivial⟩ ?_))
  refine r_nil (r_next (r_seq (r_reg (r_mv ?_))))
  refine r_mv ?_
  obtain ⟨v1, h2, hF⟩ := bnd hF
  refine r_op (t_call rfl (ct_slices_IndexFunc_Rat h2) rfl) ⟨rfl, rfl, trivial⟩ ?_
  refine r_op (t_ge rfl) ⟨rfl, k_I _ _, trivial⟩ ?_
  refine r_as ?_
  refine r_nil (r_next (r_ret (r_toR ?_)))
  obtain rfl := sm1 hF
  exact r_done1 (.inl rfl) Tryz.results123 (.tmp rfl .nil) rfl rfl
def F_matrix_Valid_1 (c0 : List (List Rat)) (a0 : List Rat) : Option Bool :=
  (rdL c0 0).bind fun v1 => some ((a0.length : Int) != (v1.length : Int))
theorem ct_matrix_Valid_1 {c0 : List (List Rat)} {a0 : List Rat} {r : Bool} (hF : F_matrix_Valid_1 c0 a0 = some r) : Ct Tryz.prog 124 [.vc (pS cQ a0), .vc (pM ((cSl (cSl cQ)).e c0))] (.vc (pB r)) := by
  unfold F_matrix_Valid_1 at hF
  refine ctO_intro Tryz.func124 rfl (by kernel_rfl) Tryz.ntmps124 rfl (fun w0 M0 => ?_)
  refine r_seq (r_reg (r_op (t_mv (.inr rfl)) ⟨k_B _, trivial⟩ ?_))
  refine r_nil (r_next (r_seq (r_reg (r_mv ?_))))
  refine r_op (t_ln rfl tyS24) ⟨rfl, trivial⟩ ?_
  refine r_op (t_lM 1 rfl rfl (.one tyO47)) ⟨rfl, trivial⟩ ?_
  obtain ⟨v1, h2, hF⟩ := bnd hF
  refine r_op (t_ix rfl tyS47 h2) ⟨rfl, k_I _ _, trivial⟩ ?_
  refine r_op (t_lM 1 rfl rfl (.one tyO24)) ⟨rfl, trivial⟩ ?_
  refine r_op (t_ln rfl tyS24) ⟨rfl, trivial⟩ ?_
  refine r_op (t_ne rfl) ⟨rfl, rfl, trivial⟩ ?_
  refine r_as ?_
  refine r_nil (r_next (r_ret (r_toR ?_)))
  obtain rfl := sm1 hF
  exact r_done1 (.inl rfl) Tryz.results124 (.tmp rfl .nil) rfl rfl
def F_matrix_Valid (K : Nat) (a0 : List (List Rat)) : Option Bool :=
  bif (decide ((a0.length : Int) ≤ 64)) then ((F_matrix_cols a0).bind fun v3 => bif (decide (v3 ≤ 64)) then ((F_slices_ContainsFunc_Rat K a0 (F_matrix_Valid_1 a0)).bind fun v6 => some (!v6)) else (some false)) else (some false)
theorem ct_matrix_Valid {K : Nat} {a0 : List (List Rat)} {r : Bool} (hF : F_matrix_Valid K a0 = some r) : Ct Tryz.prog 61 [.vc (pS (cSl cQ) a0)] (.vc (pB r)) := by
  unfold F_matrix_Valid at hF
  refine ctO_intro Tryz.func61 rfl (by kernel_rfl) Tryz.ntmps61 rfl (fun w0 M0 => ?_)
  refine r_seq (r_reg (r_box rfl rfl trivial (fun b1 => ?_)))
  refine r_op (t_mv (.inr rfl)) ⟨k_B _, trivial⟩ ?_
  refine r_nil (r_next (r_seq (r_reg (r_op (t_l 0 1 rfl rfl rfl rfl (.one tyO47)) ⟨rfl, trivial⟩ ?_))))
  refine r_op (t_ln rfl tyS47) ⟨rfl, trivial⟩ ?_
  refine r_op (t_le rfl) ⟨rfl, k_I _ _, trivial⟩ ?_
  refine r_mv ?_
  refine r_bool (fun h2 => ?_) (fun h2 => ?_)
  · have hF := cnd_t h2 hF
    refine r_opg (t_l 0 1 rfl rfl rfl rfl (.one tyO47)) ⟨rfl, trivial⟩ ?_
    obtain ⟨v3, h4, hF⟩ := bnd hF
    refine r_opg (t_call rfl (ct_matrix_cols h4) rfl) ⟨rfl, trivial⟩ ?_
    refine r_opg (t_le rfl) ⟨rfl, k_I _ _, trivial⟩ ?_
    refine r_op (t_pickT rfl) ⟨rfl, rfl, trivial⟩ ?_
    refine r_mv ?_
    refine r_bool (fun h5 => ?_) (fun h5 => ?_)
    · have hF := cnd_t h5 hF
      refine r_opg (t_l 0 1 rfl rfl rfl rfl (.one tyO47)) ⟨rfl, trivial⟩ ?_
      refine r_fvL 0 [(1, 0)] rfl ⟨rfl, trivial⟩ rfl ?_
      refine r_opg (t_fnF (φ := (F_matrix_Valid_1 a0)) (pre := fun x : (List Rat) => [.vc (pS cQ x)]) (post := fun r : Bool => .vc (pB r)) (xs := [.tmp 1]) (cs := [pM ((cSl (cSl cQ)).e a0)]) rfl rfl (fun x r h => ct_matrix_Valid_1 h)) ⟨rfl, trivial⟩ ?_
      obtain ⟨v6, h7, hF⟩ := bnd hF
      refine r_opg (t_call rfl (ct_slices_ContainsFunc_Rat h7) rfl) ⟨rfl, rfl, trivial⟩ ?_
      refine r_opg (t_not rfl) ⟨rfl, trivial⟩ ?_
      refine r_op (t_pickT rfl) ⟨rfl, rfl, trivial⟩ ?_
      refine r_as ?_
      refine r_nil (r_next (r_ret (r_toR ?_)))
      obtain rfl := sm1 hF
      exact r_done1 (.inl rfl) Tryz.results61 (.tmp rfl .nil) rfl rfl
    have hF := cnd_f h5 hF
    refine r_opn ?_
    refine r_opn ?_
    refine r_opn ?_
    refine r_opn ?_
    refine r_op (t_pickF rfl) ⟨rfl, k_B _, trivial⟩ ?_
    refine r_as ?_
    refine r_nil (r_next (r_ret (r_toR ?_)))
    obtain rfl := sm1 hF
    exact r_done1 (.inl rfl) Tryz.results61 (.tmp rfl .nil) rfl rfl
  have hF := cnd_f h2 hF
  refine r_opn ?_
  refine r_opn ?_
  refine r_opn ?_
  refine r_op (t_pickF rfl) ⟨rfl, k_B _, trivial⟩ ?_
  refine r_mv ?_
  refine r_opn ?_
  refine r_opn ?_
  refine r_opn ?_
  refine r_opn ?_
  refine r_op (t_pickF rfl) ⟨rfl, k_B _, trivial⟩ ?_
  refine r_as ?_
  refine r_nil (r_next (r_ret (r_toR ?_)))
  obtain rfl := sm1 hF
  exact r_done1 (.inl rfl) Tryz.results61 (.tmp rfl .nil) rfl rfl
def F_matrix_square (K : Nat) (a0 : List (List Rat)) : Option Bool :=
  (F_matrix_Valid K a0).bind fun v1 => bif v1 then ((F_matrix_cols a0).bind fun v4 => some ((a0.length : Int) == v4)) else (some false)
theorem ct_matrix_square {K : Nat} {a0 : List (List Rat)} {r : Bool} (hF : F_matrix_square K a0 = some r) : Ct Tryz.prog 99 [.vc (pS (cSl cQ) a0)] (.vc (pB r)) := by
  unfold F_matrix_square at hF
  refine ctO_intro Tryz.func99 rfl (by kernel_rfl) Tryz.ntmps99 rfl (fun w0 M0 => ?_)
  refine r_seq (r_reg (r_op (t_mv (.inr rfl)) ⟨k_B _, trivial⟩ ?_))
  refine r_nil (r_next (r_seq (r_reg (r_mv ?_))))
  obtain ⟨v1, h2, hF⟩ := bnd hF
  refine r_op (t_call rfl (ct_matrix_Valid h2) rfl) ⟨rfl, trivial⟩ ?_
  refine r_mv ?_
  refine r_bool (fun h3 => ?_) (fun h3 => ?_)
  · have hF := cnd_t h3 hF
    refine r_opg (t_mv (.inl rfl)) ⟨rfl, trivial⟩ ?_
    refine r_opg (t_ln rfl tyS47) ⟨rfl, trivial⟩ ?_
    refine r_opg (t_mv (.inl rfl)) ⟨rfl, trivial⟩ ?_
    obtain ⟨v4, h5, hF⟩ := bnd hF
    refine r_opg (t_call rfl (ct_matrix_cols h5) rfl) ⟨rfl, trivial⟩ ?_
    refine r_opg (t_eq rfl) ⟨rfl, rfl, trivial⟩ ?_
    refine r_op (t_pickT rfl) ⟨rfl, rfl, trivial⟩ ?_
    refine r_as ?_
    refine r_nil (r_next (r_ret (r_toR ?_)))
    obtain rfl := sm1 hF
    exact r_done1 (.inl rfl) Tryz.results99 (.tmp rfl .nil) rfl rfl
  have hF := cnd_f h3 hF
  refine r_opn ?_
  refine r_opn ?_
  refine r_opn ?_
  refine r_opn ?_
  refine r_opn ?_
  refine r_op (t_pickF rfl) ⟨rfl, k_B _, trivial⟩ ?_
  refine r_as ?_
  refine r_nil (r_next (r_ret (r_toR ?_)))
  obtain rfl := sm1 hF
  exact r_done1 (.inl rfl) Tryz.results99 (.tmp rfl .nil) rfl rfl
def F_slices_Clone_Rat (a0 : List Rat) : Option (List Rat) :=
  (apL ([] : List Rat) a0).bind fun x9 => some x9
theorem ctO_slices_Clone_Rat {a0 : List Rat} {r : List Rat} (hF : F_slices_Clone_Rat a0 = some r) : CtO Tryz.prog 108 [] [.vc (pS cQ a0)] (fun Ho q => ∃ b18 c19 n17, r.length = n17 ∧ Ho = [hO cQ b18 c19 35 n17 r] ∧ q = .vc (pO b18 n17 c19)) := by
  unfold F_slices_Clone_Rat at hF
  refine ctO_intro Tryz.func108 rfl (by kernel_rfl) Tryz.ntmps108 rfl (fun w0 M0 => ?_)
  refine r_seq (r_reg (r_nilO cQ 35 rfl ?_))
  refine r_nil (r_next (r_seq (r_seq (r_reg (r_mv ?_)))))
  refine r_isnil rfl Tryz.underlying24 rfl (fun h3 => ?_) ?_
  · skip
    subst h3
    have hF : some ([] : List Rat) = some r := by simpa [apL] using hF
    refine r_nil (r_next (r_ifT rfl ?_))
    refine r_seq (r_reg (r_nilO cQ 35 rfl ?_))
    refine r_nil (r_next (r_ret (r_toR ?_)))
    obtain rfl := sm1 hF
    exact r_done (.inl rfl) Tryz.results108 (.tmp rfl .nil) rfl [0] rfl (by decide) ⟨none, 0, 0, rfl, rfl, rfl⟩
  refine r_nil (r_next (r_ifF rfl ?_))
  refine r_skip (r_next (r_seq (r_reg (r_hv (hv_bs (C := cQ) (xs := []) (ps := []) (zs := ([] : List Rat)) rfl tyS24 rfl trivial rfl) trivial (fun b6 _ => ?_)))))
  refine r_mv ?_
  obtain ⟨x9, h10, hF⟩ := bnd hF
  refine r_app 0 rfl tyS24 rfl rfl rfl rfl rfl h10 (fun b11 c12 H13 e14 => ?_)
  cases e14
  refine r_as ?_
  refine r_nil (r_next (r_ret (r_toR ?_)))
  obtain rfl := sm1 hF
  exact r_done (.inl rfl) Tryz.results108 (.tmp rfl .nil) rfl [0] rfl (by decide) ⟨b11, c12, (0 + a0.length), (apL_len h10 rfl), rfl, rfl⟩
def F_matrix_reduce_1_j67 (K : Nat) (c0 : ((List Nat × List (List Rat)) × List Int × Rat)) (x54 : List Nat) (x60 : List (List Rat)) : Option ((List Nat × List (List Rat)) × List Int × Rat) :=
  some ((x54, x60), c0.2.1, c0.2.2)
def F_matrix_reduce_1_l66 (K : Nat) (a0 : Int) (a1 : Int) (v22 : Rat) : Nat → (List Nat) → (List (List Rat)) → Int → Option ((List Nat) × (List (List Rat)))
  | 0, _, _, _ => none
  | k + 1, x41, x47, x53 => (rdL x41 a0).bind fun v68 => bif (decide (x53 < ((x47.getD v68 []).length : Int))) then ((rdL x41 a1).bind fun v71 => (rdL (x47.getD v71 []) x53).bind fun v73 => (qsgn v73).bind fun v75 => bif (v75 != 0) then ((rdL x41 a0).bind fun v80 => (rdL x41 a0).bind fun v82 => (rdL (x47.getD v82 []) x53).bind fun v84 => (rdL x41 a1).bind fun v86 => (rdL (x47.getD v86 []) x53).bind fun v88 => (qmul v22 v88).bind fun v90 => (qsub v84 v90).bind fun v92 => (rdL (x47.getD v80 []) x53).bind fun v94 => (stL (x47.getD v80 []) x53 v92).bind fun x96 => (chk (x53 + 1)).bind fun v99 => F_matrix_reduce_1_l66 K a0 a1 v22 k x41 (x47.set v80 x96) v99) else ((chk (x53 + 1)).bind fun v101 => F_matrix_reduce_1_l66 K a0 a1 v22 k x41 x47 v101)) else (some (x41, x47))
def F_matrix_reduce_1 (K : Nat) (c0 : ((List Nat × List (List Rat)) × List Int × Rat)) (a0 : Int) (a1 : Int) (a2 : Int) : Option ((List Nat × List (List Rat)) × List Int × Rat) :=
  (rdL c0.1.1 a0).bind fun v20 => (rdL (c0.1.2.getD v20 []) a2).bind fun v22 => (qsgn v22).bind fun v25 => bif (v25 == 0) then (some ((c0.1.1, c0.1.2), c0.2.1, c0.2.2)) else ((F_matrix_reduce_1_l66 K a0 a1 v22 K c0.1.1 c0.1.2 a2).bind fun (x54, x60) => F_matrix_reduce_1_j67 K c0 x54 x60)
theorem ctO_matrix_reduce_1 {K : Nat} {c0 : ((List Nat × List (List Rat)) × List Int × Rat)} {a0 : Int} {a1 : Int} {a2 : Int} {r : ((List Nat × List (List Rat)) × List Int × Rat)} (hF : F_matrix_reduce_1 K c0 a0 a1 a2 = some r) {p0 : Nat} {b5 : Option Nat} {c6 n4 : Nat} {g3 : List Hdr} {N9 : Nat} (q7 : c0.1.1.length = n4) (q10 : c0.1.2.length = N9) (q11 : LenOk g3 c0.1.2) (q12 : (∀ k ∈ c0.1.1, k < N9)) {b16 : Option Nat} {c17 n15 : Nat} (q18 : c0.2.1.length = n15) : CtO Tryz.prog 146 ([⟨some p0, 1, 136, 6, 1, ([pO b5 n4 c6] ++ [pO b16 n15 c17] ++ (eQ c0.2.2))⟩, hO (cH g3) b5 c6 24 n4 c0.1.1, hO cI b16 c17 3 n15 c0.2.1] ++ inn cQ 35 g3 c0.1.2) [.vc (pI .i64 a0), .vc (pI .i64 a1), .vc (pI .i64 a2), .vc (pP (some p0) 0)] (fun Ho q => ∃ b107 c108 n106 g105 N111, ∃ b118 c119 n117, r.1.1.length = n106 ∧ r.1.2.length = N111 ∧ LenOk g105 r.1.2 ∧ (∀ k ∈ r.1.1, k < N111) ∧ r.2.1.length = n117 ∧ Ho = ([⟨some p0, 1, 136, 6, 1, ([pO b107 n106 c108] ++ [pO b118 n117 c119] ++ (eQ r.2.2))⟩, hO (cH g105) b107 c108 24 n106 r.1.1, hO cI b118 c119 3 n117 r.2.1] ++ inn cQ 35 g105 r.1.2) ∧ q = .any) := by
  unfold F_matrix_reduce_1 at hF
  refine ctO_intro Tryz.func146 rfl (by kernel_rfl) Tryz.ntmps146 rfl (fun w0 M0 => ?_)
  refine r_seq (r_reg (r_op (t_fa (off := 0) (k := 0) rfl tyF136_0) ⟨rfl, trivial⟩ ?_))
  refine r_op (t_l 0 1 rfl rfl rfl rfl (.one tyO47)) ⟨rfl, trivial⟩ ?_
  refine r_mv ?_
  obtain ⟨v20, h21, hF⟩ := bnd hF
  refine r_op (t_ixE (C := (cH g3)) 1 rfl tyS47 rfl q7 (rdL_some h21).1 (rdL_some h21).2.1) ⟨rfl, rfl, trivial⟩ ?_
  refine r_op (t_ldE (C := (cH g3)) (k := 1) 1 rfl rfl h21 rfl (.one tyO24) rfl) ⟨rfl, trivial⟩ ?_
  refine r_mv ?_
  obtain ⟨v22, h23, hF⟩ := bnd hF
  refine r_op (t_ixE (3 + v20) rfl tyS24 (inn_p 3 rfl q11 q10 (q12 _ (rdL_mem h21))) (row_len q11 q10 (q12 _ (rdL_mem h21))) (rdL_some h23).1 (rdL_some h23).2.1) ⟨rfl, rfl, trivial⟩ ?_
  refine r_op (t_ldE (k := 4) (3 + v20) rfl (inn_p 3 rfl q11 q10 (q12 _ (rdL_mem h21))) h23 rfl (.agg tyA35) rfl) ⟨rfl, trivial⟩ ?_
  refine r_alloc rfl tyZ35q (fun b24 => ?_)
  refine r_op0 (t_s 0 rfl rfl rfl tyA35.s) ⟨rfl, rfl, trivial⟩ ?_
  refine r_nil (r_next (r_seq (r_seq (r_reg (r_op (t_l 0 4 rfl rfl rfl rfl (.agg tyA35)) ⟨rfl, trivial⟩ ?_)))))
  obtain ⟨v25, h26, hF⟩ := bnd hF
  refine r_op (t_call rfl (qc_rat_Sign h26) rfl) ⟨rfl, trivial⟩ ?_
  refine r_op (t_eq rfl) ⟨rfl, k_I _ _, trivial⟩ ?_
  refine r_nil (r_next (r_if rfl (fun h27 => ?_) (fun h27 => ?_)))
  · have hF := cnd_t h27 hF
    refine r_ret (r_toR ?_)
    obtain rfl := sm1 hF
    exact r_doneA (.inl rfl) Tryz.results146 .nil rfl 4 [1, 2, 3] rfl rfl (by decide) ⟨b5, c6, n4, g3, N9, b16, c17, n15, q7, q10, q11, q12, q18, rfl, rfl⟩
  have hF := cnd_f h27 hF
  refine r_skip (r_next (r_seq (r_reg (r_mv ?_))))
  refine r_as ?_
  refine r_nil (r_next (r_blk (r_cutN (fun H E => ∃ (x54 : List Nat), ∃ (x60 : List (List Rat)), ∃ (b55 : Option Nat), ∃ (c56 : Nat), ∃ (n57 : Nat), ∃ (g61 : List Hdr), ∃ (N62 : Nat), F_matrix_reduce_1_j67 K c0 x54 x60 = some r ∧ x54.length = n57 ∧ x60.length = N62 ∧ LenOk g61 x60 ∧ (∀ k ∈ x54, k < N62) ∧ H = ([⟨some p0, 1, 136, 6, 1, ([pO b55 n57 c56] ++ [pO b16 n15 c17] ++ (eQ c0.2.2))⟩, hO (cH g61) b55 c56 24 n57 x54, hO cI b16 c17 3 n15 c0.2.1] ++ inn cQ 35 g61 x60) ∧ E = [(3, .vc (pP (some p0) 0))]) ?_ (fun Jj67 => ?_))))
  · rintro _ _ ⟨x54, x60, b55, c56, n57, g61, N62, hF, q58, q63, q64, q65, rfl, rfl⟩
    unfold F_matrix_reduce_1_j67 at hF
    obtain rfl := sm1 hF
    exact r_doneA (.inr rfl) Tryz.results146 .nil rfl 3 [0, 1, 2] rfl rfl (by decide) ⟨b55, c56, n57, g61, N62, b16, c17, n15, q58, q63, q64, q65, q18, rfl, rfl⟩
  obtain ⟨⟨x54', x60'⟩, hL, hRl66⟩ := bnd hF
  refine r_lp (fun k a w => ∃ (x41 : List Nat), ∃ (x47 : List (List Rat)), ∃ (x53 : Int), ∃ (b42 : Option Nat), ∃ (c43 : Nat), ∃ (n44 : Nat), ∃ (g48 : List Hdr), ∃ (N49 : Nat), F_matrix_reduce_1_l66 K a0 a1 v22 k x41 x47 x53 = some (x54', x60') ∧ x41.length = n44 ∧ x47.length = N49 ∧ LenOk g48 x47 ∧ (∀ k ∈ x41, k < N49) ∧ hs _ ([⟨some b24, 1, 35, 4, 1, (eQ v22)⟩, ⟨some p0, 1, 136, 6, 1, ([pO b42 n44 c43] ++ [pO b16 n15 c17] ++ (eQ c0.2.2))⟩, hO (cH g48) b42 c43 24 n44 x41, hO cI b16 c17 3 n15 c0.2.1] ++ inn cQ 35 g48 x47) [(0, .vc (pI .i64 a0)), (1, .vc (pI .i64 a1)), (3, .vc (pP (some p0) 0)), (7, .vc (pP (some b24) 0)), (8, .vc (pI .i64 x53))] a w) K (fun a w ⟨_, _, _, _, _, _, _, _, hF, _, _, _, _, _⟩ => by cases hF) (fun k a w ⟨x41, x47, x53, b42, c43, n44, g48, N49, hF, q45, q50, q51, q52, hh⟩ => r_at ?_ hh) (fun a w hh => ⟨c0.1.1, c0.1.2, a2, b5, c6, n4, g3, N9, hL, q7, q10, q11, q12, hs_backA 4 [0, 1, 2, 3] rfl rfl (by decide) (by exact ⟨rfl, rfl, rfl, rfl, rfl, trivial⟩) hh⟩)
  rw [F_matrix_reduce_1_l66.eq_2] at hF
  refine r_seq (r_seq (r_reg (r_mv ?_)))
  refine r_op (t_fa (off := 0) (k := 0) rfl tyF136_0) ⟨rfl, trivial⟩ ?_
  refine r_op (t_l 1 1 rfl rfl rfl rfl (.one tyO47)) ⟨rfl, trivial⟩ ?_
  refine r_mv ?_
  obtain ⟨v68, h69, hF⟩ := bnd hF
  refine r_op (t_ixE (C := (cH g48)) 2 rfl tyS47 rfl q45 (rdL_some h69).1 (rdL_some h69).2.1) ⟨rfl, rfl, trivial⟩ ?_
  refine r_op (t_ldE (C := (cH g48)) (k := 1) 2 rfl rfl h69 rfl (.one tyO24) rfl) ⟨rfl, trivial⟩ ?_
  refine r_op (t_lnE (C := cQ) (xs := (x47.getD v68 [])) (T := 35) rfl tyS24 (row_len q51 q50 (q52 _ (rdL_mem h69)))) ⟨rfl, trivial⟩ ?_
  refine r_op (t_lt rfl) ⟨rfl, rfl, trivial⟩ ?_
  refine r_nil (r_next (r_if rfl (fun h70 => ?_) (fun h70 => ?_)))
  · have hF := cnd_t h70 hF
    refine r_skip (r_next (r_seq (r_blk (r_seq (r_reg (r_op (t_fa (off := 0) (k := 0) rfl tyF136_0) ⟨rfl, trivial⟩ ?_))))))
    refine r_op (t_l 1 1 rfl rfl rfl rfl (.one tyO47)) ⟨rfl, trivial⟩ ?_
    refine r_mv ?_
    obtain ⟨v71, h72, hF⟩ := bnd hF
    refine r_op (t_ixE (C := (cH g48)) 2 rfl tyS47 rfl q45 (rdL_some h72).1 (rdL_some h72).2.1) ⟨rfl, rfl, trivial⟩ ?_
    refine r_op (t_ldE (C := (cH g48)) (k := 1) 2 rfl rfl h72 rfl (.one tyO24) rfl) ⟨rfl, trivial⟩ ?_
    refine r_mv ?_
    obtain ⟨v73, h74, hF⟩ := bnd hF
    refine r_op (t_ixE (4 + v71) rfl tyS24 (inn_p 4 rfl q51 q50 (q52 _ (rdL_mem h72))) (row_len q51 q50 (q52 _ (rdL_mem h72))) (rdL_some h74).1 (rdL_some h74).2.1) ⟨rfl, rfl, trivial⟩ ?_
    refine r_op (t_ldE (k := 4) (4 + v71) rfl (inn_p 4 rfl q51 q50 (q52 _ (rdL_mem h72))) h74 rfl (.agg tyA35) rfl) ⟨rfl, trivial⟩ ?_
    obtain ⟨v75, h76, hF⟩ := bnd hF
    refine r_op (t_call rfl (qc_rat_Sign h76) rfl) ⟨rfl, trivial⟩ ?_
    refine r_op (t_ne rfl) ⟨rfl, k_I _ _, trivial⟩ ?_
    refine r_nil (r_next (r_if rfl (fun h77 => ?_) (fun h77 => ?_)))
    · have hF := cnd_t h77 hF
      obtain ⟨v80, h81, hF⟩ := bnd hF
      obtain ⟨v82, h83, hF⟩ := bnd hF
      obtain ⟨v84, h85, hF⟩ := bnd hF
      obtain ⟨v86, h87, hF⟩ := bnd hF
      obtain ⟨v88, h89, hF⟩ := bnd hF
      obtain ⟨v90, h91, hF⟩ := bnd hF
      obtain ⟨v92, h93, hF⟩ := bnd hF
      obtain ⟨v94, h95, hF⟩ := bnd hF
      refine r_draw (0 :: 1 :: 0 :: 7 :: 15 :: 0 :: 0 :: 64 :: 0 :: 448 :: 960 :: 0 :: 4032 :: 8128 :: 0 :: 0 :: 32768 :: 0 :: 229376 :: 491520 :: 0 :: 2064384 :: 4161536 :: 8372224 :: 16777152 :: 33554431 :: 67108863 :: []) 26 1 (.v (.vc (pP (some p0) 0)) :: .v (.vc (pO b42 n44 c43)) :: .v (.vc (pI .i64 a0)) :: .v (.vc (pE b42 a0 (cH g48).n 0)) :: .v (.vc (pO (hdr g48 v80).1 (hdr g48 v80).2.1 (hdr g48 v80).2.2)) :: .v (.vc (pI .i64 x53)) :: .v (.vc (pP (some p0) 0)) :: .v (.vc (pO b42 n44 c43)) :: .v (.vc (pI .i64 a0)) :: .v (.vc (pE b42 a0 (cH g48).n 0)) :: .v (.vc (pO (hdr g48 v82).1 (hdr g48 v82).2.1 (hdr g48 v82).2.2)) :: .v (.vc (pI .i64 x53)) :: .v (.vc (pE (hdr g48 v82).1 x53 cQ.n 0)) :: .v (.va (eQ v84)) :: .v (.va (eQ v22)) :: .v (.vc (pP (some p0) 0)) :: .v (.vc (pO b42 n44 c43)) :: .v (.vc (pI .i64 a1)) :: .v (.vc (pE b42 a1 (cH g48).n 0)) :: .v (.vc (pO (hdr g48 v86).1 (hdr g48 v86).2.1 (hdr g48 v86).2.2)) :: .v (.vc (pI .i64 x53)) :: .v (.vc (pE (hdr g48 v86).1 x53 cQ.n 0)) :: .v (.va (eQ v88)) :: .v (.va (eQ v90)) :: .v (.va (eQ v92)) :: .v (.vc (pE (hdr g48 v80).1 x53 cQ.n 0)) :: []) Tryz_mixed ⟨d0 (t_fa (off := 0) (k := 0) rfl tyF136_0) ⟨rfl, trivial⟩, d0 (t_l 1 1 rfl rfl rfl rfl (.one tyO47)) ⟨rfl, trivial⟩, d0 (t_mv (.inl rfl)) ⟨rfl, trivial⟩, d0 (t_ixE (C := (cH g48)) 2 rfl tyS47 rfl q45 (rdL_some h81).1 (rdL_some h81).2.1) ⟨rfl, rfl, trivial⟩, d0 (t_ldE (C := (cH g48)) (k := 1) 2 rfl rfl h81 rfl (.one tyO24) rfl) ⟨rfl, trivial⟩, d0 (t_mv (.inl rfl)) ⟨rfl, trivial⟩, d0 (t_fa (off := 0) (k := 0) rfl tyF136_0) ⟨rfl, trivial⟩, d0 (t_l 1 1 rfl rfl rfl rfl (.one tyO47)) ⟨rfl, trivial⟩, d0 (t_mv (.inl rfl)) ⟨rfl, trivial⟩, d0 (t_ixE (C := (cH g48)) 2 rfl tyS47 rfl q45 (rdL_some h83).1 (rdL_some h83).2.1) ⟨rfl, rfl, trivial⟩, d0 (t_ldE (C := (cH g48)) (k := 1) 2 rfl rfl h83 rfl (.one tyO24) rfl) ⟨rfl, trivial⟩, d0 (t_mv (.inl rfl)) ⟨rfl, trivial⟩, d0 (t_ixE (4 + v82) rfl tyS24 (inn_pA 4 rfl q51 q50 (q52 _ (rdL_mem h83))) (row_len q51 q50 (q52 _ (rdL_mem h83))) (rdL_some h85).1 (rdL_some h85).2.1) ⟨rfl, rfl, trivial⟩, d0 (t_ldE (k := 4) (4 + v82) rfl (inn_pA 4 rfl q51 q50 (q52 _ (rdL_mem h83))) h85 rfl (.agg tyA35) rfl) ⟨rfl, trivial⟩, d0 (t_l 0 4 rfl rfl rfl rfl (.agg tyA35)) ⟨rfl, trivial⟩, d0 (t_fa (off := 0) (k := 0) rfl tyF136_0) ⟨rfl, trivial⟩, d0 (t_l 1 1 rfl rfl rfl rfl (.one tyO47)) ⟨rfl, trivial⟩, d0 (t_mv (.inl rfl)) ⟨rfl, trivial⟩, d0 (t_ixE (C := (cH g48)) 2 rfl tyS47 rfl q45 (rdL_some h87).1 (rdL_some h87).2.1) ⟨rfl, rfl, trivial⟩, d0 (t_ldE (C := (cH g48)) (k := 1) 2 rfl rfl h87 rfl (.one tyO24) rfl) ⟨rfl, trivial⟩, d0 (t_mv (.inl rfl)) ⟨rfl, trivial⟩, d0 (t_ixE (4 + v86) rfl tyS24 (inn_pA 4 rfl q51 q50 (q52 _ (rdL_mem h87))) (row_len q51 q50 (q52 _ (rdL_mem h87))) (rdL_some h89).1 (rdL_some h89).2.1) ⟨rfl, rfl, trivial⟩, d0 (t_ldE (k := 4) (4 + v86) rfl (inn_pA 4 rfl q51 q50 (q52 _ (rdL_mem h87))) h89 rfl (.agg tyA35) rfl) ⟨rfl, trivial⟩, d0 (t_call rfl (qc_rat_Mul h91) rfl) ⟨rfl, rfl, trivial⟩, d0 (t_call rfl (qc_rat_Sub h93) rfl) ⟨rfl, rfl, trivial⟩, d0 (t_ixE (4 + v80) rfl tyS24 (inn_pA 4 rfl q51 q50 (q52 _ (rdL_mem h81))) (row_len q51 q50 (q52 _ (rdL_mem h81))) (rdL_some h95).1 (rdL_some h95).2.1) ⟨rfl, rfl, trivial⟩, trivial⟩ (fun bs79 G78 => ?_)
      obtain ⟨x96, h97, hF⟩ := bnd hF
      refine r_op0 (t_stE (H' := ([⟨some b24, 1, 35, 4, 1, (eQ v22)⟩, ⟨some p0, 1, 136, 6, 1, ([pO b42 n44 c43] ++ [pO b16 n15 c17] ++ (eQ c0.2.2))⟩, hO (cH g48) b42 c43 24 n44 x41, hO cI b16 c17 3 n15 c0.2.1] ++ inn cQ 35 g48 (x47.set v80 x96))) (4 + v80) rfl (inn_p 4 rfl q51 q50 (q52 _ (rdL_mem h81))) h95 h97 tyA35.s (hH := stN 4 rfl q51 q50 (q52 _ (rdL_mem h81)))) ⟨rfl, rfl, trivial⟩ ?_
      refine r_nil (r_blkN (r_next (r_reg (r_mv ?_))))
      obtain ⟨v99, h100, hF⟩ := bnd hF
      refine r_op (t_add rfl h100) ⟨rfl, k_I _ _, trivial⟩ ?_
      refine r_as ?_
      refine r_nil ?_
      exact r_round (fun a w hh => ⟨x41, (x47.set v80 x96), v99, b42, c43, n44, g48, N49, hF, q45, (set_len q50), (set_ok q51 q50 (q52 _ (rdL_mem h81)) (stL_len h97 rfl)), q52, hs_backA 4 [0, 1, 2, 3] rfl rfl (by decide) (by exact ⟨rfl, rfl, rfl, rfl, rfl, trivial⟩) hh⟩)
    have hF := cnd_f h77 hF
    refine r_skip (r_blkN (r_next (r_reg (r_mv ?_))))
    obtain ⟨v101, h102, hF⟩ := bnd hF
    refine r_op (t_add rfl h102) ⟨rfl, k_I _ _, trivial⟩ ?_
    refine r_as ?_
    refine r_nil ?_
    exact r_round (fun a w hh => ⟨x41, x47, v101, b42, c43, n44, g48, N49, hF, q45, q50, q51, q52, hs_backA 4 [0, 1, 2, 3] rfl rfl (by decide) (by exact ⟨rfl, rfl, rfl, rfl, rfl, trivial⟩) hh⟩)
  have hF := cnd_f h70 hF
  refine r_brk ?_
  obtain ⟨rfl, rfl⟩ := sm2 hF
  exact r_backA Jj67 ⟨x41, x47, b42, c43, n44, g48, N49, hRl66, q45, q50, q51, q52, rfl, rfl⟩ 4 [1, 2, 3] rfl rfl ⟨rfl, trivial⟩
def F_matrix_reduce_2 (c0 : Int) (a0 : List Rat) : Option Bool :=
  (rdL a0 c0).bind fun v1 => (qsgn v1).bind fun v3 => some (v3 != 0)
theorem ct_matrix_reduce_2 {c0 : Int} {a0 : List Rat} {r : Bool} (hF : F_matrix_reduce_2 c0 a0 = some r) : Ct Tryz.prog 148 [.vc (pS cQ a0), .vc (pM (cI.e c0))] (.vc (pB r)) := by
  unfold F_matrix_reduce_2 at hF
  refine ctO_intro Tryz.func148 rfl (by kernel_rfl) Tryz.ntmps148 rfl (fun w0 M0 => ?_)
  refine r_seq (r_reg (r_op (t_mv (.inr rfl)) ⟨k_B _, trivial⟩ ?_))
  refine r_nil (r_next (r_seq (r_reg (r_mv ?_))))
  refine r_op (t_lM 1 rfl rfl (.one tyO3)) ⟨rfl, trivial⟩ ?_
  obtain ⟨v1, h2, hF⟩ := bnd hF
  refine r_op (t_ix rfl tyS24 h2) ⟨rfl, rfl, trivial⟩ ?_
  refine r_op (t_lM 4 rfl rfl (.agg tyA35)) ⟨rfl, trivial⟩ ?_
  obtain ⟨v3, h4, hF⟩ := bnd hF
  refine r_op (t_call rfl (qc_rat_Sign h4) rfl) ⟨rfl, trivial⟩ ?_
  refine r_op (t_ne rfl) ⟨rfl, k_I _ _, trivial⟩ ?_
  refine r_as ?_
  refine r_nil (r_next (r_ret (r_toR ?_)))
  obtain rfl := sm1 hF
  exact r_done1 (.inl rfl) Tryz.results148 (.tmp rfl .nil) rfl rfl
def F_matrix_reduce_j124 (K : Nat) (x104 : List Int) (x110 : List Nat) (x116 : List (List Rat)) (x122 : Rat) : Option matrix_form :=
  some (⟨(selL x116 x110), x104, x122⟩ : matrix_form)
def F_matrix_reduce_j258 (K : Nat) (x103 : Int) (recl123 : (List Int) → (List Nat) → (List (List Rat)) → Rat → Int → Option ((List Int) × (List Nat) × (List (List Rat)) × Rat)) (x238 : List Int) (x244 : List Nat) (x250 : List (List Rat)) (x256 : Rat) : Option ((List Int) × (List Nat) × (List (List Rat)) × Rat) :=
  (apL x238 [x103]).bind fun x259 => (chk (x103 + 1)).bind fun v266 => recl123 x259 x244 x250 x256 v266
def F_matrix_reduce_l257 (K : Nat) (x84 : List Int) (x103 : Int) (x184 : List Nat) : Nat → (List Int) → (List Nat) → (List (List Rat)) → Rat → Int → Option ((List Int) × (List Nat) × (List (List Rat)) × Rat)
  | 0, _, _, _, _, _ => none
  | k + 1, x218, x224, x230, x236, x237 => bif (decide (x237 < (x184.length : Int))) then (bif (x237 != (x84.length : Int)) then ((F_matrix_reduce_1 K ((x224, x230), x218, x236) x237 (x84.length : Int) x103).bind fun v270 => (chk (x237 + 1)).bind fun v291 => F_matrix_reduce_l257 K x84 x103 x184 k v270.2.1 v270.1.1 v270.1.2 v270.2.2 v291) else ((chk (x237 + 1)).bind fun v293 => F_matrix_reduce_l257 K x84 x103 x184 k x218 x224 x230 x236 v293)) else (some (x218, x224, x230, x236))
def F_matrix_reduce_j197 (K : Nat) (x84 : List Int) (x103 : Int) (v156 : Rat) (recl123 : (List Int) → (List Nat) → (List (List Rat)) → Rat → Int → Option ((List Int) × (List Nat) × (List (List Rat)) × Rat)) (x184 : List Nat) (x190 : List (List Rat)) : Option ((List Int) × (List Nat) × (List (List Rat)) × Rat) :=
  (F_matrix_reduce_l257 K x84 x103 x184 K x84 x184 x190 v156 0).bind fun (x238, x244, x250, x256) => F_matrix_reduce_j258 K x103 recl123 x238 x244 x250 x256
def F_matrix_reduce_l196 (K : Nat) (x84 : List Int) (v154 : Rat) : Nat → (List Nat) → (List (List Rat)) → Int → Option ((List Nat) × (List (List Rat)))
  | 0, _, _, _ => none
  | k + 1, x171, x177, x183 => (rdL x171 (x84.length : Int)).bind fun v295 => bif (decide (x183 < ((x177.getD v295 []).length : Int))) then ((rdL x171 (x84.length : Int)).bind fun v300 => (rdL x171 (x84.length : Int)).bind fun v302 => (rdL (x177.getD v302 []) x183).bind fun v304 => (qdiv v304 v154).bind fun v306 => (rdL (x177.getD v300 []) x183).bind fun v308 => (stL (x177.getD v300 []) x183 v306).bind fun x310 => (chk (x183 + 1)).bind fun v313 => F_matrix_reduce_l196 K x84 v154 k x171 (x177.set v300 x310) v313) else (some (x171, x177))
def F_matrix_reduce_j149 (K : Nat) (x84 : List Int) (x103 : Int) (recl123 : (List Int) → (List Nat) → (List (List Rat)) → Rat → Int → Option ((List Int) × (List Nat) × (List (List Rat)) × Rat)) (x136 : List Nat) (x142 : List (List Rat)) (x148 : Rat) : Option ((List Int) × (List Nat) × (List (List Rat)) × Rat) :=
  (rdL x136 (x84.length : Int)).bind fun v152 => (rdL (x142.getD v152 []) x103).bind fun v154 => (qmul x148 v154).bind fun v156 => (F_matrix_reduce_l196 K x84 v154 K x136 x142 x103).bind fun (x184, x190) => F_matrix_reduce_j197 K x84 x103 v156 recl123 x184 x190
def F_matrix_reduce_l123 (K : Nat) (a1 : Int) : Nat → (List Int) → (List Nat) → (List (List Rat)) → Rat → Int → Option ((List Int) × (List Nat) × (List (List Rat)) × Rat)
  | 0, _, _, _, _, _ => none
  | k + 1, x84, x90, x96, x102, x103 => bif (decide (x103 < a1)) then ((slL (selL x96 x90) (x84.length : Int) ((selL x96 x90).length : Int)).bind fun x128 => (F_slices_IndexFunc_Rat K x128 (F_matrix_reduce_2 x103)).bind fun v130 => bif (decide (v130 < 0)) then ((chk (x103 + 1)).bind fun v133 => F_matrix_reduce_l123 K a1 k x84 x90 x96 x102 v133) else (bif (decide (0 < v130)) then ((chk ((x84.length : Int) + v130)).bind fun v318 => (chk ((x84.length : Int) + v130)).bind fun v320 => (rdL x90 v320).bind fun v322 => (rdL x90 (x84.length : Int)).bind fun v324 => (rdL x90 (x84.length : Int)).bind fun v326 => (stL x90 (x84.length : Int) v322).bind fun x328 => (rdL x328 v318).bind fun v331 => (stL x328 v318 v324).bind fun x333 => (qneg x102).bind fun v336 => F_matrix_reduce_j149 K x84 x103 (F_matrix_reduce_l123 K a1 k) x333 x96 v336) else (F_matrix_reduce_j149 K x84 x103 (F_matrix_reduce_l123 K a1 k) x90 x96 x102))) else (some (x84, x90, x96, x102))
def F_matrix_reduce_j63 (K : Nat) (a1 : Int) (v2 : Rat) (x50 : List Nat) (x56 : List (List Rat)) : Option matrix_form :=
  (F_matrix_reduce_l123 K a1 K ([] : List Int) x50 x56 v2 0).bind fun (x104, x110, x116, x122) => F_matrix_reduce_j124 K x104 x110 x116 x122
def F_matrix_reduce_l62 (K : Nat) (a0 : List (List Rat)) : Nat → (List Nat) → (List (List Rat)) → Int → Option ((List Nat) × (List (List Rat)))
  | 0, _, _, _ => none
  | k + 1, x37, x43, x49 => bif (decide (x49 < (a0.length : Int))) then ((rdL a0 x49).bind fun v339 => (F_slices_Clone_Rat v339).bind fun v343 => (apL x37 [x43.length]).bind fun x349 => (chk (x49 + 1)).bind fun v356 => F_matrix_reduce_l62 K a0 k x349 (x43 ++ [v343]) v356) else (some (x37, x43))
def F_matrix_reduce (K : Nat) (a0 : List (List Rat)) (a1 : Int) : Option matrix_form :=
  (qof 1 1).bind fun v2 => (F_matrix_reduce_l62 K a0 K ([] : List Nat) ([] : List (List Rat)) 0).bind fun (x50, x56) => F_matrix_reduce_j63 K a1 v2 x50 x56
theorem ct_matrix_reduce {K : Nat} {a0 : List (List Rat)} {a1 : Int} {r : matrix_form} (hF : F_matrix_reduce K a0 a1 = some r) : Ct Tryz.prog 100 [.vc (pS (cSl cQ) a0), .vc (pI .i64 a1)] (.va (matrix_form.enc r)) := by
  unfold F_matrix_reduce at hF
  refine ctO_intro Tryz.func100 rfl (by kernel_rfl) Tryz.ntmps100 rfl (fun w0 M0 => ?_)
  refine r_seq (r_reg (r_alloc rfl tyZ136q (fun b1 => ?_)))
  refine r_nil (r_next (r_seq (r_reg ?_)))
  obtain ⟨v2, h3, hF⟩ := bnd hF
  refine r_op (t_call rfl (qc_rat_Of h3) rfl) ⟨k_I _ _, k_I _ _, trivial⟩ ?_
  refine r_nestL cQ 35 ?_
  refine r_newL (cH ([] : List Hdr)) 24 ?_
  refine r_newL cI 3 ?_
  refine r_op (t_bld (is := [2]) (xs := [.tmp 15]) (ps := [.va (eQ v2)]) rfl tyB136_o0_o1q rfl rfl ⟨trivial, trivial⟩ rfl) ⟨rfl, trivial⟩ ?_
  refine r_alloc rfl tyZ136q (fun b23 => ?_)
  refine r_op0 (t_s 0 rfl rfl rfl tyA136.s) ⟨rfl, rfl, trivial⟩ ?_
  refine r_nil (r_next (r_seq (r_seq (r_reg (r_mv ?_)))))
  refine r_op (t_ln rfl tyS47) ⟨rfl, trivial⟩ ?_
  refine r_op (t_mv (.inl rfl)) ⟨k_I _ _, trivial⟩ ?_
  refine r_nil (r_next (r_blk (r_cutN (fun H E => ∃ (x50 : List Nat), ∃ (x56 : List (List Rat)), ∃ (b51 : Option Nat), ∃ (c52 : Nat), ∃ (n53 : Nat), ∃ (g57 : List Hdr), ∃ (N58 : Nat), F_matrix_reduce_j63 K a1 v2 x50 x56 = some r ∧ x50.length = n53 ∧ x56.length = N58 ∧ LenOk g57 x56 ∧ (∀ k ∈ x50, k < N58) ∧ H = ([⟨some b23, 1, 136, 6, 1, ([pO b51 n53 c52] ++ [pO none 0 0] ++ (eQ v2))⟩, hO cI none 0 3 0 ([] : List Int), hO (cH g57) b51 c52 24 n53 x50, ⟨some b1, 1, 136, 6, 1, ([pS (cSl cQ) ([] : List (List Rat))] ++ [pS cI ([] : List Int)] ++ (eQ 0))⟩] ++ inn cQ 35 g57 x56) ∧ E = [(1, .vc (pI .i64 a1)), (4, .vc (pP (some b1) 0)), (5, .vc (pP (some b23) 0))]) ?_ (fun Jj63 => ?_))))
  · rintro _ _ ⟨x50, x56, b51, c52, n53, g57, N58, hF, q54, q59, q60, q61, rfl, rfl⟩
    unfold F_matrix_reduce_j63 at hF
    refine r_next (r_seq (r_reg (r_op (t_fn (xs := [.tmp 5]) (cs := [pP (some b23) 0]) rfl rfl) ⟨rfl, trivial⟩ ?_)))
    refine r_as ?_
    refine r_nil (r_next (r_seq (r_seq (r_reg (r_mv ?_)))))
    refine r_op (t_mv (.inl rfl)) ⟨k_I _ _, trivial⟩ ?_
    refine r_nil (r_next (r_blk (r_cutN (fun H E => ∃ (x104 : List Int), ∃ (x110 : List Nat), ∃ (x116 : List (List Rat)), ∃ (x122 : Rat), ∃ (b105 : Option Nat), ∃ (c106 : Nat), ∃ (n107 : Nat), ∃ (b111 : Option Nat), ∃ (c112 : Nat), ∃ (n113 : Nat), ∃ (g117 : List Hdr), ∃ (N118 : Nat), F_matrix_reduce_j124 K x104 x110 x116 x122 = some r ∧ x104.length = n107 ∧ x110.length = n113 ∧ x116.length = N118 ∧ LenOk g117 x116 ∧ (∀ k ∈ x110, k < N118) ∧ H = ([⟨some b23, 1, 136, 6, 1, ([pO b111 n113 c112] ++ [pO b105 n107 c106] ++ (eQ x122))⟩, hO cI b105 c106 3 n107 x104, hO (cH g117) b111 c112 24 n113 x110, ⟨some b1, 1, 136, 6, 1, ([pS (cSl cQ) ([] : List (List Rat))] ++ [pS cI ([] : List Int)] ++ (eQ 0))⟩] ++ inn cQ 35 g117 x116) ∧ E = [(4, .vc (pP (some b1) 0)), (5, .vc (pP (some b23) 0))]) ?_ (fun Jj124 => ?_))))
    · rintro _ _ ⟨x104, x110, x116, x122, b105, c106, n107, b111, c112, n113, g117, N118, hF, q108, q114, q119, q120, q121, rfl, rfl⟩
      unfold F_matrix_reduce_j124 at hF
      refine r_next (r_seq (r_reg (r_unL 2 4 rfl rfl q120 (lt_len q119 q121) ?_)))
      refine r_fbL 2 0 0 rfl ((selL_len _ _).trans q114) rfl rfl rfl rfl rfl ?_
      refine r_fbL 1 0 1 rfl q108 rfl rfl rfl rfl rfl ?_
      refine r_op (t_l 0 6 rfl rfl rfl rfl (.agg tyA136)) ⟨rfl, trivial⟩ ?_
      refine r_op0 (t_s 1 rfl rfl rfl tyA136.s) ⟨rfl, rfl, trivial⟩ ?_
      refine r_nil (r_next (r_ret (r_toR ?_)))
      obtain rfl := sm1 hF
      exact r_done1 (.inl rfl) Tryz.results100 (rv_cell 1 6 rfl rfl rfl rfl (.agg tyA136) .nil) rfl rfl
    obtain ⟨⟨x104', x110', x116', x122'⟩, hL, hRl123⟩ := bnd hF
    refine r_lp (fun k a w => ∃ (x84 : List Int), ∃ (x90 : List Nat), ∃ (x96 : List (List Rat)), ∃ (x102 : Rat), ∃ (x103 : Int), ∃ (b85 : Option Nat), ∃ (c86 : Nat), ∃ (n87 : Nat), ∃ (b91 : Option Nat), ∃ (c92 : Nat), ∃ (n93 : Nat), ∃ (g97 : List Hdr), ∃ (N98 : Nat), F_matrix_reduce_l123 K a1 k x84 x90 x96 x102 x103 = some (x104', x110', x116', x122') ∧ x84.length = n87 ∧ x90.length = n93 ∧ x96.length = N98 ∧ LenOk g97 x96 ∧ (∀ k ∈ x90, k < N98) ∧ hs _ ([⟨some b23, 1, 136, 6, 1, ([pO b91 n93 c92] ++ [pO b85 n87 c86] ++ (eQ x102))⟩, hO cI b85 c86 3 n87 x84, hO (cH g97) b91 c92 24 n93 x90, ⟨some b1, 1, 136, 6, 1, ([pS (cSl cQ) ([] : List (List Rat))] ++ [pS cI ([] : List Int)] ++ (eQ 0))⟩] ++ inn cQ 35 g97 x96) [(4, .vc (pP (some b1) 0)), (5, .vc (pP (some b23) 0)), (8, .vc (pF 146 [pP (some b23) 0])), (32, .vc (pI .i64 a1)), (33, .vc (pI .i64 x103))] a w) K (fun a w ⟨_, _, _, _, _, _, _, _, _, _, _, _, _, hF, _, _, _, _, _, _⟩ => by cases hF) (fun k a w ⟨x84, x90, x96, x102, x103, b85, c86, n87, b91, c92, n93, g97, N98, hF, q88, q94, q99, q100, q101, hh⟩ => r_at ?_ hh) (fun a w hh => ⟨([] : List Int), x50, x56, v2, 0, none, 0, 0, b51, c52, n53, g57, N58, hL, rfl, q54, q59, q60, q61, hs_backA 4 [0, 1, 2, 3] rfl rfl (by decide) (by exact ⟨rfl, rfl, rfl, rfl, rfl, trivial⟩) hh⟩)
    rw [F_matrix_reduce_l123.eq_2] at hF
    refine r_seq (r_reg (r_op (t_lt rfl) ⟨rfl, rfl, trivial⟩ ?_))
    refine r_nil (r_next (r_seq (r_if rfl (fun h126 => ?_) (fun h126 => ?_))))
    · have hF := cnd_t h126 hF
      refine r_skip (r_next (r_seq (r_blk (r_seq (r_reg (r_mv ?_))))))
      refine r_alloc rfl tyZ3q (fun b127 => ?_)
      refine r_op0 (t_s 0 rfl rfl rfl tyO3.s) ⟨rfl, rfl, trivial⟩ ?_
      refine r_nil (r_next (r_seq (r_reg (r_op (t_fa (off := 0) (k := 1) rfl tyF136_1) ⟨rfl, trivial⟩ ?_))))
      refine r_op (t_l 1 1 rfl rfl rfl rfl (.one tyO22)) ⟨rfl, trivial⟩ ?_
      refine r_op (t_lnE (C := cI) (xs := x84) (T := 3) rfl tyS22 q88) ⟨rfl, trivial⟩ ?_
      refine r_as ?_
      refine r_nil (r_next (r_seq (r_reg (r_op (t_fa (off := 0) (k := 0) rfl tyF136_0) ⟨rfl, trivial⟩ ?_))))
      refine r_op (t_l 1 1 rfl rfl rfl rfl (.one tyO47)) ⟨rfl, trivial⟩ ?_
      refine r_mv ?_
      obtain ⟨x128, h129, hF⟩ := bnd hF
      refine r_op (t_cutC (i := 3) rfl tyS47 rfl rfl rfl rfl (cut_lo h129).1 (cut_hi h129 q94)) ⟨rfl, rfl, trivial⟩ ?_
      refine r_fvL 0 [(9, 0)] rfl ⟨rfl, trivial⟩ rfl ?_
      refine r_op (t_fnF (φ := (F_matrix_reduce_2 x103)) (pre := fun x : (List Rat) => [.vc (pS cQ x)]) (post := fun r : Bool => .vc (pB r)) (xs := [.tmp 9]) (cs := [pM (cI.e x103)]) rfl rfl (fun x r h => ct_matrix_reduce_2 h)) ⟨rfl, trivial⟩ ?_
      obtain ⟨v130, h131, hF⟩ := bnd hF
      refine r_op (t_callB (pre' := [.vc (pC (pO b91 n93 c92) (x84.length : Int).toNat 1), .vc (pFn Tryz.prog (fun x : (List Rat) => [.vc (pS cQ x)]) (fun r : Bool => .vc (pB r)) (F_matrix_reduce_2 x103))]) rfl (ct_slices_IndexFunc_Rat h131) rfl (lend1 (cut_lo h129).2.2 (lend_cut 2 4 [] (by rw [List.append_nil]; rfl) rfl q100 (lt_len q99 q101) q94)) (fun _ _ _ h => h)) ⟨rfl, rfl, trivial⟩ ?_
      refine r_as ?_
      refine r_nil (r_next (r_seq (r_seq (r_reg (r_mv ?_)))))
      refine r_op (t_lt rfl) ⟨rfl, k_I _ _, trivial⟩ ?_
      refine r_nil (r_next (r_if rfl (fun h132 => ?_) (fun h132 => ?_)))
      · have hF := cnd_t h132 hF
        refine r_brk (r_next (r_reg ?_))
        obtain ⟨v133, h134, hF⟩ := bnd hF
        refine r_op (t_add rfl h134) ⟨rfl, k_I _ _, trivial⟩ ?_
        refine r_mv ?_
        refine r_nil ?_
        exact r_round (fun a w hh => ⟨x84, x90, x96, x102, v133, b85, c86, n87, b91, c92, n93, g97, N98, hF, q88, q94, q99, q100, q101, hs_backA 4 [0, 1, 2, 3] rfl rfl (by decide) (by exact ⟨rfl, rfl, rfl, rfl, rfl, trivial⟩) hh⟩)
      have hF := cnd_f h132 hF
      refine r_skip (r_next (r_seq (r_cutS (fun H E => ∃ (x136 : List Nat), ∃ (x142 : List (List Rat)), ∃ (x148 : Rat), ∃ (b137 : Option Nat), ∃ (c138 : Nat), ∃ (n139 : Nat), ∃ (g143 : List Hdr), ∃ (N144 : Nat), F_matrix_reduce_j149 K x84 x103 (F_matrix_reduce_l123 K a1 k) x136 x142 x148 = some (x104', x110', x116', x122') ∧ x136.length = n139 ∧ x142.length = N144 ∧ LenOk g143 x142 ∧ (∀ k ∈ x136, k < N144) ∧ H = ([⟨some b23, 1, 136, 6, 1, ([pO b137 n139 c138] ++ [pO b85 n87 c86] ++ (eQ x148))⟩, hO cI b85 c86 3 n87 x84, hO (cH g143) b137 c138 24 n139 x136, ⟨some b1, 1, 136, 6, 1, ([pS (cSl cQ) ([] : List (List Rat))] ++ [pS cI ([] : List Int)] ++ (eQ 0))⟩] ++ inn cQ 35 g143 x142) ∧ E = [(4, .vc (pP (some b1) 0)), (5, .vc (pP (some b23) 0)), (8, .vc (pF 146 [pP (some b23) 0])), (9, .vc (pM (cI.e x103))), (10, .vc (pI .i64 (x84.length : Int))), (32, .vc (pI .i64 a1)), (33, .vc (pI .i64 x103))]) ?_ (fun Jj149 => ?_))))
      · rintro _ _ ⟨x136, x142, x148, b137, c138, n139, g143, N144, hF, q140, q145, q146, q147, rfl, rfl⟩
        unfold F_matrix_reduce_j149 at hF
        refine r_seq ?_
        obtain ⟨v152, h153, hF⟩ := bnd hF
        obtain ⟨v154, h155, hF⟩ := bnd hF
        refine r_draw [0, 1, 0, 7, 15, 0, 63, 127, 0, 511] 9 1 [.v (.vc (pP (some b23) 0)), .v (.vc (pO b137 n139 c138)), .v (.vc (pI .i64 (x84.length : Int))), .v (.vc (pE b137 (x84.length : Int) (cH g143).n 0)), .v (.vc (pO (hdr g143 v152).1 (hdr g143 v152).2.1 (hdr g143 v152).2.2)), .v (.vc (pI .i64 x103)), .v (.vc (pE (hdr g143 v152).1 x103 cQ.n 0)), .v (.va (eQ v154)), .a 35 (eQ 0)] Tryz_mixed ⟨d0 (t_fa (off := 0) (k := 0) rfl tyF136_0) ⟨rfl, trivial⟩, d0 (t_l 0 1 rfl rfl rfl rfl (.one tyO47)) ⟨rfl, trivial⟩, d0 (t_mv (.inl rfl)) ⟨rfl, trivial⟩, d0 (t_ixE (C := (cH g143)) 2 rfl tyS47 rfl q140 (rdL_some h153).1 (rdL_some h153).2.1) ⟨rfl, rfl, trivial⟩, d0 (t_ldE (C := (cH g143)) (k := 1) 2 rfl rfl h153 rfl (.one tyO24) rfl) ⟨rfl, trivial⟩, d0 (t_lM 1 rfl rfl (.one tyO3)) ⟨rfl, trivial⟩, d0 (t_ixE (4 + v152) rfl tyS24 (inn_pA 4 rfl q146 q145 (q147 _ (rdL_mem h153))) (row_len q146 q145 (q147 _ (rdL_mem h153))) (rdL_some h155).1 (rdL_some h155).2.1) ⟨rfl, rfl, trivial⟩, d0 (t_ldE (k := 4) (4 + v152) rfl (inn_pA 4 rfl q146 q145 (q147 _ (rdL_mem h153))) h155 rfl (.agg tyA35) rfl) ⟨rfl, trivial⟩, ⟨rfl, .alc tyZ35q⟩, trivial⟩ (fun bs151 G150 => ?_)
        refine r_op0 (t_s 0 rfl rfl rfl tyA35.s) ⟨rfl, rfl, trivial⟩ ?_
        refine r_nil (r_next (r_seq (r_reg (r_op (t_fa (off := 0) (k := 2) rfl tyF136_2) ⟨rfl, trivial⟩ ?_))))
        refine r_op (t_l 1 4 rfl rfl rfl rfl (.agg tyA35)) ⟨rfl, trivial⟩ ?_
        refine r_op (t_l 0 4 rfl rfl rfl rfl (.agg tyA35)) ⟨rfl, trivial⟩ ?_
        obtain ⟨v156, h157, hF⟩ := bnd hF
        refine r_op (t_call rfl (qc_rat_Mul h157) rfl) ⟨rfl, rfl, trivial⟩ ?_
        refine r_op (t_fa (off := 0) (k := 2) rfl tyF136_2) ⟨rfl, trivial⟩ ?_
        refine r_op0 (t_s 1 rfl rfl rfl tyA35.s) ⟨rfl, rfl, trivial⟩ ?_
        refine r_nil (r_next (r_seq (r_seq (r_reg (r_op (t_lM 1 rfl rfl (.one tyO3)) ⟨rfl, trivial⟩ ?_)))))
        refine r_as ?_
        refine r_nil (r_next (r_blk (r_cutN (fun H E => ∃ (x184 : List Nat), ∃ (x190 : List (List Rat)), ∃ (b185 : Option Nat), ∃ (c186 : Nat), ∃ (n187 : Nat), ∃ (g191 : List Hdr), ∃ (N192 : Nat), F_matrix_reduce_j197 K x84 x103 v156 (F_matrix_reduce_l123 K a1 k) x184 x190 = some (x104', x110', x116', x122') ∧ x184.length = n187 ∧ x190.length = N192 ∧ LenOk g191 x190 ∧ (∀ k ∈ x184, k < N192) ∧ H = ([⟨some b23, 1, 136, 6, 1, ([pO b185 n187 c186] ++ [pO b85 n87 c86] ++ (eQ v156))⟩, hO cI b85 c86 3 n87 x84, hO (cH g191) b185 c186 24 n187 x184, ⟨some b1, 1, 136, 6, 1, ([pS (cSl cQ) ([] : List (List Rat))] ++ [pS cI ([] : List Int)] ++ (eQ 0))⟩] ++ inn cQ 35 g191 x190) ∧ E = [(4, .vc (pP (some b1) 0)), (5, .vc (pP (some b23) 0)), (8, .vc (pF 146 [pP (some b23) 0])), (9, .vc (pM (cI.e x103))), (10, .vc (pI .i64 (x84.length : Int))), (32, .vc (pI .i64 a1)), (33, .vc (pI .i64 x103))]) ?_ (fun Jj197 => ?_))))
        · rintro _ _ ⟨x184, x190, b185, c186, n187, g191, N192, hF, q188, q193, q194, q195, rfl, rfl⟩
          unfold F_matrix_reduce_j197 at hF
          refine r_next (r_seq (r_seq (r_reg (r_op (t_fa (off := 0) (k := 0) rfl tyF136_0) ⟨rfl, trivial⟩ ?_))))
          refine r_op (t_l 0 1 rfl rfl rfl rfl (.one tyO47)) ⟨rfl, trivial⟩ ?_
          refine r_op (t_lnE (C := (cH g191)) (xs := x184) (T := 24) rfl tyS47 q188) ⟨rfl, trivial⟩ ?_
          refine r_op (t_mv (.inl rfl)) ⟨k_I _ _, trivial⟩ ?_
          refine r_nil (r_next (r_blk (r_cutN (fun H E => ∃ (x238 : List Int), ∃ (x244 : List Nat), ∃ (x250 : List (List Rat)), ∃ (x256 : Rat), ∃ (b239 : Option Nat), ∃ (c240 : Nat), ∃ (n241 : Nat), ∃ (b245 : Option Nat), ∃ (c246 : Nat), ∃ (n247 : Nat), ∃ (g251 : List Hdr), ∃ (N252 : Nat), F_matrix_reduce_j258 K x103 (F_matrix_reduce_l123 K a1 k) x238 x244 x250 x256 = some (x104', x110', x116', x122') ∧ x238.length = n241 ∧ x244.length = n247 ∧ x250.length = N252 ∧ LenOk g251 x250 ∧ (∀ k ∈ x244, k < N252) ∧ H = ([⟨some b23, 1, 136, 6, 1, ([pO b245 n247 c246] ++ [pO b239 n241 c240] ++ (eQ x256))⟩, hO cI b239 c240 3 n241 x238, hO (cH g251) b245 c246 24 n247 x244, ⟨some b1, 1, 136, 6, 1, ([pS (cSl cQ) ([] : List (List Rat))] ++ [pS cI ([] : List Int)] ++ (eQ 0))⟩] ++ inn cQ 35 g251 x250) ∧ E = [(4, .vc (pP (some b1) 0)), (5, .vc (pP (some b23) 0)), (8, .vc (pF 146 [pP (some b23) 0])), (9, .vc (pM (cI.e x103))), (32, .vc (pI .i64 a1)), (33, .vc (pI .i64 x103))]) ?_ (fun Jj258 => ?_))))
          · rintro _ _ ⟨x238, x244, x250, x256, b239, c240, n241, b245, c246, n247, g251, N252, hF, q242, q248, q253, q254, q255, rfl, rfl⟩
            unfold F_matrix_reduce_j258 at hF
            refine r_next (r_reg (r_op (t_fa (off := 0) (k := 1) rfl tyF136_1) ⟨rfl, trivial⟩ ?_))
            refine r_op (t_l 0 1 rfl rfl rfl rfl (.one tyO22)) ⟨rfl, trivial⟩ ?_
            refine r_op (t_lM 1 rfl rfl (.one tyO3)) ⟨rfl, trivial⟩ ?_
            refine r_op (t_bs (C := cI) (xs := [.tmp 133]) (ps := [.vc (pI .i64 x103)]) (zs := [x103]) rfl tyS22 rfl ⟨⟨trivial, rfl⟩, trivial⟩ rfl) ⟨rfl, trivial⟩ ?_
            obtain ⟨x259, h260, hF⟩ := bnd hF
            refine r_app 1 rfl tyS22 rfl rfl q242 rfl rfl h260 (fun b261 c262 H263 e264 => ?_)
            cases e264
            refine r_op (t_fa (off := 0) (k := 1) rfl tyF136_1) ⟨rfl, trivial⟩ ?_
            refine r_op0 (t_s 0 rfl rfl rfl tyO22.s) ⟨rfl, rfl, trivial⟩ ?_
            refine r_nil (r_blkN (r_next (r_reg ?_)))
            obtain ⟨v266, h267, hF⟩ := bnd hF
            refine r_op (t_add rfl h267) ⟨rfl, k_I _ _, trivial⟩ ?_
            refine r_mv ?_
            refine r_nil ?_
            exact r_round (fun a w hh => ⟨x259, x244, x250, x256, v266, b261, c262, (n241 + [x103].length), b245, c246, n247, g251, N252, hF, (apL_len h260 q242), q248, q253, q254, q255, hs_backA 4 [0, 1, 2, 3] rfl rfl (by decide) (by exact ⟨rfl, rfl, rfl, rfl, rfl, trivial⟩) hh⟩)
          obtain ⟨⟨x238', x244', x250', x256'⟩, hL, hRl257⟩ := bnd hF
          refine r_lp (fun k a w => ∃ (x218 : List Int), ∃ (x224 : List Nat), ∃ (x230 : List (List Rat)), ∃ (x236 : Rat), ∃ (x237 : Int), ∃ (b219 : Option Nat), ∃ (c220 : Nat), ∃ (n221 : Nat), ∃ (b225 : Option Nat), ∃ (c226 : Nat), ∃ (n227 : Nat), ∃ (g231 : List Hdr), ∃ (N232 : Nat), F_matrix_reduce_l257 K x84 x103 x184 k x218 x224 x230 x236 x237 = some (x238', x244', x250', x256') ∧ x218.length = n221 ∧ x224.length = n227 ∧ x230.length = N232 ∧ LenOk g231 x230 ∧ (∀ k ∈ x224, k < N232) ∧ hs _ ([⟨some b23, 1, 136, 6, 1, ([pO b225 n227 c226] ++ [pO b219 n221 c220] ++ (eQ x236))⟩, hO cI b219 c220 3 n221 x218, hO (cH g231) b225 c226 24 n227 x224, ⟨some b1, 1, 136, 6, 1, ([pS (cSl cQ) ([] : List (List Rat))] ++ [pS cI ([] : List Int)] ++ (eQ 0))⟩] ++ inn cQ 35 g231 x230) [(4, .vc (pP (some b1) 0)), (5, .vc (pP (some b23) 0)), (8, .vc (pF 146 [pP (some b23) 0])), (9, .vc (pM (cI.e x103))), (10, .vc (pI .i64 (x84.length : Int))), (32, .vc (pI .i64 a1)), (33, .vc (pI .i64 x103)), (118, .vc (pI .i64 (x184.length : Int))), (119, .vc (pI .i64 x237))] a w) K (fun a w ⟨_, _, _, _, _, _, _, _, _, _, _, _, _, hF, _, _, _, _, _, _⟩ => by cases hF) (fun k a w ⟨x218, x224, x230, x236, x237, b219, c220, n221, b225, c226, n227, g231, N232, hF, q222, q228, q233, q234, q235, hh⟩ => r_at ?_ hh) (fun a w hh => ⟨x84, x184, x190, v156, 0, b85, c86, n87, b185, c186, n187, g191, N192, hL, q88, q188, q193, q194, q195, hs_backA 4 [0, 1, 2, 3] rfl rfl (by decide) (by exact ⟨rfl, rfl, rfl, rfl, rfl, rfl, rfl, rfl, rfl, trivial⟩) hh⟩)
          rw [F_matrix_reduce_l257.eq_2] at hF
          refine r_seq (r_reg (r_op (t_lt rfl) ⟨rfl, rfl, trivial⟩ ?_))
          refine r_nil (r_next (r_seq (r_if rfl (fun h268 => ?_) (fun h268 => ?_))))
          · have hF := cnd_t h268 hF
            refine r_skip (r_next (r_seq (r_blk (r_seq (r_reg (r_mv ?_))))))
            refine r_as ?_
            refine r_nil (r_next (r_seq (r_reg (r_mv ?_))))
            refine r_mv ?_
            refine r_op (t_ne rfl) ⟨rfl, rfl, trivial⟩ ?_
            refine r_nil (r_next (r_if rfl (fun h269 => ?_) (fun h269 => ?_)))
            · have hF := cnd_t h269 hF
              refine r_reg (r_mv ?_)
              refine r_mv ?_
              refine r_mv ?_
              refine r_op (t_lM 1 rfl rfl (.one tyO3)) ⟨rfl, trivial⟩ ?_
              obtain ⟨v270, h271, hF⟩ := bnd hF
              refine r_callvA (f := 146) (cs := [pP (some b23) 0]) (pre := [.vc (pI .i64 x237), .vc (pI .i64 (x84.length : Int)), .vc (pI .i64 x103)]) (xs := [.tmp 126, .tmp 127, .tmp 128]) 4 [0, 2, 1] [3] rfl (ctO_matrix_reduce_1 h271 q228 q233 q234 q235 q222) ⟨rfl, rfl, rfl, rfl, trivial⟩ rfl rfl rfl (by decide) ?_
              rintro _ _ ⟨b276, c277, n275, g274, N280, b287, c288, n286, q278, q281, q282, q283, q289, rfl, rfl⟩
              refine r_permL (mid_perm [⟨some b23, 1, 136, 6, 1, ([pO b276 n275 c277] ++ [pO b287 n286 c288] ++ (eQ v270.2.2))⟩, hO (cH g274) b276 c277 24 n275 v270.1.1, hO cI b287 c288 3 n286 v270.2.1] (inn cQ 35 g274 v270.1.2) [⟨some b1, 1, 136, 6, 1, ([pS (cSl cQ) ([] : List (List Rat))] ++ [pS cI ([] : List Int)] ++ (eQ 0))⟩]) ?_
              refine r_nil (r_blkN (r_next (r_reg ?_)))
              obtain ⟨v291, h292, hF⟩ := bnd hF
              refine r_op (t_add rfl h292) ⟨rfl, k_I _ _, trivial⟩ ?_
              refine r_mv ?_
              refine r_nil ?_
              exact r_round (fun a w hh => ⟨v270.2.1, v270.1.1, v270.1.2, v270.2.2, v291, b287, c288, n286, b276, c277, n275, g274, N280, hF, q289, q278, q281, q282, q283, hs_backA 4 [0, 2, 1, 3] rfl rfl (by decide) (by exact ⟨rfl, rfl, rfl, rfl, rfl, rfl, rfl, rfl, rfl, trivial⟩) hh⟩)
            have hF := cnd_f h269 hF
            refine r_skip (r_blkN (r_next (r_reg ?_)))
            obtain ⟨v293, h294, hF⟩ := bnd hF
            refine r_op (t_add rfl h294) ⟨rfl, k_I _ _, trivial⟩ ?_
            refine r_mv ?_
            refine r_nil ?_
            exact r_round (fun a w hh => ⟨x218, x224, x230, x236, v293, b219, c220, n221, b225, c226, n227, g231, N232, hF, q222, q228, q233, q234, q235, hs_backA 4 [0, 1, 2, 3] rfl rfl (by decide) (by exact ⟨rfl, rfl, rfl, rfl, rfl, rfl, rfl, rfl, rfl, trivial⟩) hh⟩)
          have hF := cnd_f h268 hF
          refine r_brk ?_
          obtain ⟨rfl, rfl, rfl, rfl⟩ := sm4 hF
          exact r_backA Jj258 ⟨x218, x224, x230, x236, b219, c220, n221, b225, c226, n227, g231, N232, hRl257, q222, q228, q233, q234, q235, rfl, rfl⟩ 4 [0, 1, 2, 3] rfl rfl ⟨rfl, rfl, rfl, rfl, rfl, rfl, trivial⟩
        obtain ⟨⟨x184', x190'⟩, hL, hRl196⟩ := bnd hF
        refine r_lp (fun k a w => ∃ (x171 : List Nat), ∃ (x177 : List (List Rat)), ∃ (x183 : Int), ∃ (b172 : Option Nat), ∃ (c173 : Nat), ∃ (n174 : Nat), ∃ (g178 : List Hdr), ∃ (N179 : Nat), F_matrix_reduce_l196 K x84 v154 k x171 x177 x183 = some (x184', x190') ∧ x171.length = n174 ∧ x177.length = N179 ∧ LenOk g178 x177 ∧ (∀ k ∈ x171, k < N179) ∧ hs _ ([⟨some (bs151 8), 1, 35, 4, 1, (eQ v154)⟩, ⟨some b23, 1, 136, 6, 1, ([pO b172 n174 c173] ++ [pO b85 n87 c86] ++ (eQ v156))⟩, hO cI b85 c86 3 n87 x84, hO (cH g178) b172 c173 24 n174 x171, ⟨some b1, 1, 136, 6, 1, ([pS (cSl cQ) ([] : List (List Rat))] ++ [pS cI ([] : List Int)] ++ (eQ 0))⟩] ++ inn cQ 35 g178 x177) [(4, .vc (pP (some b1) 0)), (5, .vc (pP (some b23) 0)), (8, .vc (pF 146 [pP (some b23) 0])), (9, .vc (pM (cI.e x103))), (10, .vc (pI .i64 (x84.length : Int))), (12, .vc (pP (some (bs151 8)) 0)), (13, .vc (pI .i64 x183)), (32, .vc (pI .i64 a1)), (33, .vc (pI .i64 x103))] a w) K (fun a w ⟨_, _, _, _, _, _, _, _, hF, _, _, _, _, _⟩ => by cases hF) (fun k a w ⟨x171, x177, x183, b172, c173, n174, g178, N179, hF, q175, q180, q181, q182, hh⟩ => r_at ?_ hh) (fun a w hh => ⟨x136, x142, x103, b137, c138, n139, g143, N144, hL, q140, q145, q146, q147, hs_backA 5 [0, 1, 2, 3, 4] rfl rfl (by decide) (by exact ⟨rfl, rfl, rfl, rfl, rfl, rfl, rfl, rfl, rfl, trivial⟩) hh⟩)
        rw [F_matrix_reduce_l196.eq_2] at hF
        refine r_seq (r_seq (r_reg (r_mv ?_)))
        refine r_op (t_fa (off := 0) (k := 0) rfl tyF136_0) ⟨rfl, trivial⟩ ?_
        refine r_op (t_l 1 1 rfl rfl rfl rfl (.one tyO47)) ⟨rfl, trivial⟩ ?_
        refine r_mv ?_
        obtain ⟨v295, h296, hF⟩ := bnd hF
        refine r_op (t_ixE (C := (cH g178)) 3 rfl tyS47 rfl q175 (rdL_some h296).1 (rdL_some h296).2.1) ⟨rfl, rfl, trivial⟩ ?_
        refine r_op (t_ldE (C := (cH g178)) (k := 1) 3 rfl rfl h296 rfl (.one tyO24) rfl) ⟨rfl, trivial⟩ ?_
        refine r_op (t_lnE (C := cQ) (xs := (x177.getD v295 [])) (T := 35) rfl tyS24 (row_len q181 q180 (q182 _ (rdL_mem h296)))) ⟨rfl, trivial⟩ ?_
        refine r_op (t_lt rfl) ⟨rfl, rfl, trivial⟩ ?_
        refine r_nil (r_next (r_if rfl (fun h297 => ?_) (fun h297 => ?_)))
        · have hF := cnd_t h297 hF
          refine r_skip (r_next (r_seq (r_blk ?_)))
          obtain ⟨v300, h301, hF⟩ := bnd hF
          obtain ⟨v302, h303, hF⟩ := bnd hF
          obtain ⟨v304, h305, hF⟩ := bnd hF
          obtain ⟨v306, h307, hF⟩ := bnd hF
          obtain ⟨v308, h309, hF⟩ := bnd hF
          refine r_draw [0, 1, 0, 7, 15, 0, 0, 64, 0, 448, 960, 0, 4032, 8128, 0, 32704, 65535, 131071] 17 1 [.v (.vc (pP (some b23) 0)), .v (.vc (pO b172 n174 c173)), .v (.vc (pI .i64 (x84.length : Int))), .v (.vc (pE b172 (x84.length : Int) (cH g178).n 0)), .v (.vc (pO (hdr g178 v300).1 (hdr g178 v300).2.1 (hdr g178 v300).2.2)), .v (.vc (pI .i64 x183)), .v (.vc (pP (some b23) 0)), .v (.vc (pO b172 n174 c173)), .v (.vc (pI .i64 (x84.length : Int))), .v (.vc (pE b172 (x84.length : Int) (cH g178).n 0)), .v (.vc (pO (hdr g178 v302).1 (hdr g178 v302).2.1 (hdr g178 v302).2.2)), .v (.vc (pI .i64 x183)), .v (.vc (pE (hdr g178 v302).1 x183 cQ.n 0)), .v (.va (eQ v304)), .v (.va (eQ v154)), .v (.va (eQ v306)), .v (.vc (pE (hdr g178 v300).1 x183 cQ.n 0))] Tryz_mixed ⟨d0 (t_fa (off := 0) (k := 0) rfl tyF136_0) ⟨rfl, trivial⟩, d0 (t_l 1 1 rfl rfl rfl rfl (.one tyO47)) ⟨rfl, trivial⟩, d0 (t_mv (.inl rfl)) ⟨rfl, trivial⟩, d0 (t_ixE (C := (cH g178)) 3 rfl tyS47 rfl q175 (rdL_some h301).1 (rdL_some h301).2.1) ⟨rfl, rfl, trivial⟩, d0 (t_ldE (C := (cH g178)) (k := 1) 3 rfl rfl h301 rfl (.one tyO24) rfl) ⟨rfl, trivial⟩, d0 (t_mv (.inl rfl)) ⟨rfl, trivial⟩, d0 (t_fa (off := 0) (k := 0) rfl tyF136_0) ⟨rfl, trivial⟩, d0 (t_l 1 1 rfl rfl rfl rfl (.one tyO47)) ⟨rfl, trivial⟩, d0 (t_mv (.inl rfl)) ⟨rfl, trivial⟩, d0 (t_ixE (C := (cH g178)) 3 rfl tyS47 rfl q175 (rdL_some h303).1 (rdL_some h303).2.1) ⟨rfl, rfl, trivial⟩, d0 (t_ldE (C := (cH g178)) (k := 1) 3 rfl rfl h303 rfl (.one tyO24) rfl) ⟨rfl, trivial⟩, d0 (t_mv (.inl rfl)) ⟨rfl, trivial⟩, d0 (t_ixE (5 + v302) rfl tyS24 (inn_pA 5 rfl q181 q180 (q182 _ (rdL_mem h303))) (row_len q181 q180 (q182 _ (rdL_mem h303))) (rdL_some h305).1 (rdL_some h305).2.1) ⟨rfl, rfl, trivial⟩, d0 (t_ldE (k := 4) (5 + v302) rfl (inn_pA 5 rfl q181 q180 (q182 _ (rdL_mem h303))) h305 rfl (.agg tyA35) rfl) ⟨rfl, trivial⟩, d0 (t_l 0 4 rfl rfl rfl rfl (.agg tyA35)) ⟨rfl, trivial⟩, d0 (t_call rfl (qc_rat_Div h307) rfl) ⟨rfl, rfl, trivial⟩, d0 (t_ixE (5 + v300) rfl tyS24 (inn_pA 5 rfl q181 q180 (q182 _ (rdL_mem h301))) (row_len q181 q180 (q182 _ (rdL_mem h301))) (rdL_some h309).1 (rdL_some h309).2.1) ⟨rfl, rfl, trivial⟩, trivial⟩ (fun bs299 G298 => ?_)
          obtain ⟨x310, h311, hF⟩ := bnd hF
          refine r_op0 (t_stE (H' := ([⟨some (bs151 8), 1, 35, 4, 1, (eQ v154)⟩, ⟨some b23, 1, 136, 6, 1, ([pO b172 n174 c173] ++ [pO b85 n87 c86] ++ (eQ v156))⟩, hO cI b85 c86 3 n87 x84, hO (cH g178) b172 c173 24 n174 x171, ⟨some b1, 1, 136, 6, 1, ([pS (cSl cQ) ([] : List (List Rat))] ++ [pS cI ([] : List Int)] ++ (eQ 0))⟩] ++ inn cQ 35 g178 (x177.set v300 x310))) (5 + v300) rfl (inn_p 5 rfl q181 q180 (q182 _ (rdL_mem h301))) h309 h311 tyA35.s (hH := stN 5 rfl q181 q180 (q182 _ (rdL_mem h301)))) ⟨rfl, rfl, trivial⟩ ?_
          refine r_nil (r_blkN (r_next (r_reg (r_mv ?_))))
          obtain ⟨v313, h314, hF⟩ := bnd hF
          refine r_op (t_add rfl h314) ⟨rfl, k_I _ _, trivial⟩ ?_
          refine r_as ?_
          refine r_nil ?_
          exact r_round (fun a w hh => ⟨x171, (x177.set v300 x310), v313, b172, c173, n174, g178, N179, hF, q175, (set_len q180), (set_ok q181 q180 (q182 _ (rdL_mem h301)) (stL_len h311 rfl)), q182, hs_backA 5 [0, 1, 2, 3, 4] rfl rfl (by decide) (by exact ⟨rfl, rfl, rfl, rfl, rfl, rfl, rfl, rfl, rfl, trivial⟩) hh⟩)
        have hF := cnd_f h297 hF
        refine r_brk ?_
        obtain ⟨rfl, rfl⟩ := sm2 hF
        exact r_backA Jj197 ⟨x171, x177, b172, c173, n174, g178, N179, hRl196, q175, q180, q181, q182, rfl, rfl⟩ 5 [1, 2, 3, 4] rfl rfl ⟨rfl, rfl, rfl, rfl, rfl, rfl, rfl, trivial⟩
      refine r_seq (r_reg (r_mv ?_))
      refine r_op (t_gt rfl) ⟨rfl, k_I _ _, trivial⟩ ?_
      refine r_nil (r_next (r_if rfl (fun h315 => ?_) (fun h315 => ?_)))
      · have hF := cnd_t h315 hF
        refine r_seq ?_
        obtain ⟨v318, h319, hF⟩ := bnd hF
        obtain ⟨v320, h321, hF⟩ := bnd hF
        obtain ⟨v322, h323, hF⟩ := bnd hF
        obtain ⟨v324, h325, hF⟩ := bnd hF
        obtain ⟨v326, h327, hF⟩ := bnd hF
        obtain ⟨x328, h329, hF⟩ := bnd hF
        obtain ⟨v331, h332, hF⟩ := bnd hF
        refine r_drawH (HsL [fun G316 => ([⟨some b23, 1, 136, 6, 1, ([pO b91 n93 c92] ++ [pO b85 n87 c86] ++ (eQ x102))⟩, hO cI b85 c86 3 n87 x84, hO (cH g97) b91 c92 24 n93 x90, ⟨some b1, 1, 136, 6, 1, ([pS (cSl cQ) ([] : List (List Rat))] ++ [pS cI ([] : List Int)] ++ (eQ 0))⟩] ++ inn cQ 35 g97 x96), fun G316 => ([⟨some b23, 1, 136, 6, 1, ([pO b91 n93 c92] ++ [pO b85 n87 c86] ++ (eQ x102))⟩, hO cI b85 c86 3 n87 x84, hO (cH g97) b91 c92 24 n93 x328, ⟨some b1, 1, 136, 6, 1, ([pS (cSl cQ) ([] : List (List Rat))] ++ [pS cI ([] : List Int)] ++ (eQ 0))⟩] ++ inn cQ 35 g97 x96)]) [21] [0, 1, 0, 0, 8, 0, 0, 96, 0, 256, 0, 0, 3072, 7936, 16128, 0, 32768, 0, 229376, 491520, 1048327, 2096903, 4194303, 8388607] 23 1 [.v (.vc (pP (some b23) 0)), .v (.vc (pO b91 n93 c92)), .v (.vc (pI .i64 (x84.length : Int))), .v (.vc (pP (some b23) 0)), .v (.vc (pO b91 n93 c92)), .v (.vc (pI .i64 (x84.length : Int))), .v (.vc (pI .i64 v130)), .v (.vc (pI .i64 v318)), .v (.vc (pP (some b23) 0)), .v (.vc (pO b91 n93 c92)), .v (.vc (pI .i64 (x84.length : Int))), .v (.vc (pI .i64 v130)), .v (.vc (pI .i64 v320)), .v (.vc (pE b91 v320 (cH g97).n 0)), .v (.vc (pO (hdr g97 v322).1 (hdr g97 v322).2.1 (hdr g97 v322).2.2)), .v (.vc (pP (some b23) 0)), .v (.vc (pO b91 n93 c92)), .v (.vc (pI .i64 (x84.length : Int))), .v (.vc (pE b91 (x84.length : Int) (cH g97).n 0)), .v (.vc (pO (hdr g97 v324).1 (hdr g97 v324).2.1 (hdr g97 v324).2.2)), .v (.vc (pE b91 (x84.length : Int) (cH g97).n 0)), .g (fun _ _ => .any), .v (.vc (pE b91 v318 (cH g97).n 0))] Tryz_mixed ⟨d1 0 (t_fa (off := 0) (k := 0) rfl tyF136_0) ⟨rfl, trivial⟩, d1 0 (t_l 0 1 rfl rfl rfl rfl (.one tyO47)) ⟨rfl, trivial⟩, d1 0 (t_mv (.inl rfl)) ⟨rfl, trivial⟩, ⟨rfl, .run (lo := 0) (n := 2) ⟨fun G316 A => t_fa (off := 0) (k := 0) rfl tyF136_0, fun G316 A => t_fa (off := 0) (k := 0) rfl tyF136_0, trivial⟩ (fun G316 => ⟨rfl, trivial⟩)⟩, ⟨rfl, .run (lo := 0) (n := 2) ⟨fun G316 A => t_l 0 1 rfl rfl rfl rfl (.one tyO47), fun G316 A => t_l 0 1 rfl rfl rfl rfl (.one tyO47), trivial⟩ (fun G316 => ⟨rfl, trivial⟩)⟩, ⟨rfl, .run (lo := 0) (n := 2) ⟨fun G316 A => t_mv (.inl rfl), fun G316 A => t_mv (.inl rfl), trivial⟩ (fun G316 => ⟨rfl, trivial⟩)⟩, ⟨rfl, .run (lo := 0) (n := 2) ⟨fun G316 A => t_mv (.inl rfl), fun G316 A => t_mv (.inl rfl), trivial⟩ (fun G316 => ⟨rfl, trivial⟩)⟩, ⟨rfl, .run (lo := 0) (n := 2) ⟨fun G316 A => t_add rfl h319, fun G316 A => t_add rfl h319, trivial⟩ (fun G316 => ⟨rfl, rfl, trivial⟩)⟩, d1 0 (t_fa (off := 0) (k := 0) rfl tyF136_0) ⟨rfl, trivial⟩, d1 0 (t_l 0 1 rfl rfl rfl rfl (.one tyO47)) ⟨rfl, trivial⟩, d1 0 (t_mv (.inl rfl)) ⟨rfl, trivial⟩, d1 0 (t_mv (.inl rfl)) ⟨rfl, trivial⟩, d1 0 (t_add rfl h321) ⟨rfl, rfl, trivial⟩, d1 0 (t_ixE (C := (cH g97)) 2 rfl tyS47 rfl q94 (rdL_some h323).1 (rdL_some h323).2.1) ⟨rfl, rfl, trivial⟩, d1 0 (t_ldE (C := (cH g97)) (k := 1) 2 rfl rfl h323 rfl (.one tyO24) rfl) ⟨rfl, trivial⟩, d1 0 (t_fa (off := 0) (k := 0) rfl tyF136_0) ⟨rfl, trivial⟩, d1 0 (t_l 0 1 rfl rfl rfl rfl (.one tyO47)) ⟨rfl, trivial⟩, d1 0 (t_mv (.inl rfl)) ⟨rfl, trivial⟩, d1 0 (t_ixE (C := (cH g97)) 2 rfl tyS47 rfl q94 (rdL_some h325).1 (rdL_some h325).2.1) ⟨rfl, rfl, trivial⟩, d1 0 (t_ldE (C := (cH g97)) (k := 1) 2 rfl rfl h325 rfl (.one tyO24) rfl) ⟨rfl, trivial⟩, d1 0 (t_ixE (C := (cH g97)) 2 rfl tyS47 rfl q94 (rdL_some h327).1 (rdL_some h327).2.1) ⟨rfl, rfl, trivial⟩, ⟨rfl, .hvy 0 (fun G316 A => hv_tr (t_stE (C := (cH g97)) 2 rfl rfl h327 h329 tyO24.s)) (fun G316 => ⟨rfl, rfl, trivial⟩)⟩, d1 1 (t_ixE (C := (cH g97)) 2 rfl tyS47 rfl (stL_len h329 q94) (rdL_some h332).1 (rdL_some h332).2.1) ⟨rfl, rfl, trivial⟩, trivial⟩ (fun bs317 G316 => ?_)
        obtain ⟨x333, h334, hF⟩ := bnd hF
        refine r_op0 (t_stE (C := (cH g97)) 2 rfl rfl h332 h334 tyO24.s) ⟨rfl, rfl, trivial⟩ ?_
        refine r_nil (r_next (r_reg (r_op (t_fa (off := 0) (k := 2) rfl tyF136_2) ⟨rfl, trivial⟩ ?_)))
        refine r_op (t_l 0 4 rfl rfl rfl rfl (.agg tyA35)) ⟨rfl, trivial⟩ ?_
        obtain ⟨v336, h337, hF⟩ := bnd hF
        refine r_op (t_call rfl (qc_rat_Neg h337) rfl) ⟨rfl, trivial⟩ ?_
        refine r_op (t_fa (off := 0) (k := 2) rfl tyF136_2) ⟨rfl, trivial⟩ ?_
        refine r_op0 (t_s 0 rfl rfl rfl tyA35.s) ⟨rfl, rfl, trivial⟩ ?_
        refine r_nil ?_
        exact r_backA Jj149 ⟨x333, x96, v336, b91, c92, n93, g97, N98, hF, (stL_len h334 (stL_len h329 q94)), q99, q100, (stL_hx (stL_hx q101 h329 (q101 _ (rdL_mem h323))) h334 (q101 _ (rdL_mem h325))), rfl, rfl⟩ 4 [0, 1, 2, 3] rfl rfl ⟨rfl, rfl, rfl, rfl, rfl, rfl, rfl, trivial⟩
      have hF := cnd_f h315 hF
      refine r_skip ?_
      exact r_backA Jj149 ⟨x90, x96, x102, b91, c92, n93, g97, N98, hF, q94, q99, q100, q101, rfl, rfl⟩ 4 [0, 1, 2, 3] rfl rfl ⟨rfl, rfl, rfl, rfl, rfl, rfl, rfl, trivial⟩
    have hF := cnd_f h126 hF
    refine r_brk ?_
    obtain ⟨rfl, rfl, rfl, rfl⟩ := sm4 hF
    exact r_backA Jj124 ⟨x84, x90, x96, x102, b85, c86, n87, b91, c92, n93, g97, N98, hRl123, q88, q94, q99, q100, q101, rfl, rfl⟩ 4 [0, 1, 2, 3] rfl rfl ⟨rfl, rfl, trivial⟩
  obtain ⟨⟨x50', x56'⟩, hL, hRl62⟩ := bnd hF
  refine r_lp (fun k a w => ∃ (x37 : List Nat), ∃ (x43 : List (List Rat)), ∃ (x49 : Int), ∃ (b38 : Option Nat), ∃ (c39 : Nat), ∃ (n40 : Nat), ∃ (g44 : List Hdr), ∃ (N45 : Nat), F_matrix_reduce_l62 K a0 k x37 x43 x49 = some (x50', x56') ∧ x37.length = n40 ∧ x43.length = N45 ∧ LenOk g44 x43 ∧ (∀ k ∈ x37, k < N45) ∧ hs _ ([⟨some b23, 1, 136, 6, 1, ([pO b38 n40 c39] ++ [pO none 0 0] ++ (eQ v2))⟩, hO cI none 0 3 0 ([] : List Int), hO (cH g44) b38 c39 24 n40 x37, ⟨some b1, 1, 136, 6, 1, ([pS (cSl cQ) ([] : List (List Rat))] ++ [pS cI ([] : List Int)] ++ (eQ 0))⟩] ++ inn cQ 35 g44 x43) [(1, .vc (pI .i64 a1)), (4, .vc (pP (some b1) 0)), (5, .vc (pP (some b23) 0)), (17, .vc (pS (cSl cQ) a0)), (18, .vc (pI .i64 (a0.length : Int))), (19, .vc (pI .i64 x49))] a w) K (fun a w ⟨_, _, _, _, _, _, _, _, hF, _, _, _, _, _⟩ => by cases hF) (fun k a w ⟨x37, x43, x49, b38, c39, n40, g44, N45, hF, q41, q46, q47, q48, hh⟩ => r_at ?_ hh) (fun a w hh => ⟨([] : List Nat), ([] : List (List Rat)), 0, none, 0, 0, ([] : List Hdr), 0, hL, rfl, (rfl), lenOk_nil, (by simp), hs_backA 4 [0, 1, 2, 3] rfl rfl (by decide) (by exact ⟨rfl, rfl, rfl, rfl, rfl, rfl, trivial⟩) hh⟩)
  rw [F_matrix_reduce_l62.eq_2] at hF
  refine r_seq (r_reg (r_op (t_lt rfl) ⟨rfl, rfl, trivial⟩ ?_))
  refine r_nil (r_next (r_seq (r_if rfl (fun h338 => ?_) (fun h338 => ?_))))
  · have hF := cnd_t h338 hF
    refine r_skip (r_next (r_seq (r_blk (r_seq (r_reg ?_)))))
    obtain ⟨v339, h340, hF⟩ := bnd hF
    refine r_op (t_ix rfl tyS47 h340) ⟨rfl, rfl, trivial⟩ ?_
    refine r_op (t_lM 1 rfl rfl (.one tyO24)) ⟨rfl, trivial⟩ ?_
    refine r_as ?_
    refine r_nil (r_next ?_)
    obtain ⟨v343, h344, hF⟩ := bnd hF
    refine r_drawH (HsL [fun G341 => ([⟨some b23, 1, 136, 6, 1, ([pO b38 n40 c39] ++ [pO none 0 0] ++ (eQ v2))⟩, hO cI none 0 3 0 ([] : List Int), hO (cH g44) b38 c39 24 n40 x37, ⟨some b1, 1, 136, 6, 1, ([pS (cSl cQ) ([] : List (List Rat))] ++ [pS cI ([] : List Int)] ++ (eQ 0))⟩] ++ inn cQ 35 g44 x43), fun G341 => ([hO cQ ((G341 3).1) ((G341 3).2) 35 v343.length v343, ⟨some b23, 1, 136, 6, 1, ([pO b38 n40 c39] ++ [pO none 0 0] ++ (eQ v2))⟩, hO cI none 0 3 0 ([] : List Int), hO (cH g44) b38 c39 24 n40 x37, ⟨some b1, 1, 136, 6, 1, ([pS (cSl cQ) ([] : List (List Rat))] ++ [pS cI ([] : List Int)] ++ (eQ 0))⟩] ++ inn cQ 35 g44 x43), fun G341 => ([hO cQ ((G341 4).1) ((G341 4).2) 35 v343.length v343, ⟨some b23, 1, 136, 6, 1, ([pO b38 n40 c39] ++ [pO none 0 0] ++ (eQ v2))⟩, hO cI none 0 3 0 ([] : List Int), hO (cH (g44 ++ [((G341 4).1, v343.length, (G341 4).2)])) b38 c39 24 n40 x37, ⟨some b1, 1, 136, 6, 1, ([pS (cSl cQ) ([] : List (List Rat))] ++ [pS cI ([] : List Int)] ++ (eQ 0))⟩] ++ inn cQ 35 g44 x43)]) [3, 4] [0, 1, 0, 4, 12, 31, 63, 127] 5 3 [.v (.vc (pP (some b23) 0)), .v (.vc (pO b38 n40 c39)), .v (.vc (pS cQ v339)), .g (fun b c => .vc (pO b v343.length c)), .g (fun b c => .vc (pS (cH (g44 ++ [(b, v343.length, c)])) [x43.length]))] Tryz_mixed ⟨⟨rfl, .run (lo := 0) (n := 3) ⟨fun G341 A => t_fa (off := 0) (k := 0) rfl tyF136_0, fun G341 A => t_fa (off := 0) (k := 0) rfl tyF136_0, fun G341 A => t_fa (off := 0) (k := 0) rfl tyF136_0, trivial⟩ (fun G341 => ⟨rfl, trivial⟩)⟩, ⟨rfl, .run (lo := 0) (n := 3) ⟨fun G341 A => t_l 0 1 rfl rfl rfl rfl (.one tyO47), fun G341 A => t_l 1 1 rfl rfl rfl rfl (.one tyO47), fun G341 A => t_l 1 1 rfl rfl rfl rfl (.one tyO47), trivial⟩ (fun G341 => ⟨rfl, trivial⟩)⟩, d1 0 (t_mv (.inl rfl)) ⟨rfl, trivial⟩, ⟨rfl, .hvy 0 (fun G341 A => hv_call rfl (ctO_slices_Clone_Rat h344) rfl) (fun G341 => ⟨rfl, trivial⟩)⟩, ⟨rfl, .hvy 1 (fun G341 A => hv_at ((G341 3).1) ((G341 3).2) (t_bsH (rs := x43) rfl tyS47 q47.1 (show ([hO cQ ((G341 3).1) ((G341 3).2) 35 v343.length v343, ⟨some b23, 1, 136, 6, 1, ([pO b38 n40 c39] ++ [pO none 0 0] ++ (eQ v2))⟩, hO cI none 0 3 0 ([] : List Int), hO (cH (g44 ++ [((G341 3).1, v343.length, (G341 3).2)])) b38 c39 24 n40 x37, ⟨some b1, 1, 136, 6, 1, ([pS (cSl cQ) ([] : List (List Rat))] ++ [pS cI ([] : List Int)] ++ (eQ 0))⟩] ++ inn cQ 35 g44 x43) ++ A = ([hO cQ ((G341 3).1) ((G341 3).2) 35 v343.length v343, ⟨some b23, 1, 136, 6, 1, ([pO b38 n40 c39] ++ [pO none 0 0] ++ (eQ v2))⟩, hO cI none 0 3 0 ([] : List Int), hO (cH g44) b38 c39 24 n40 x37, ⟨some b1, 1, 136, 6, 1, ([pS (cSl cQ) ([] : List (List Rat))] ++ [pS cI ([] : List Int)] ++ (eQ 0))⟩] ++ inn cQ 35 g44 x43) ++ A from by rw [recode (N := x43.length) ((G341 3).1, v343.length, (G341 3).2) q47.1 (lt_len q46 q48)]))) (fun G341 => ⟨rfl, trivial⟩)⟩, trivial⟩ (fun bs342 G341 => ?_)
    refine r_mergeL (g := ((G341 4).1, v343.length, (G341 4).2)) 0 5 rfl rfl rfl q47 ?_
    obtain ⟨x349, h350, hF⟩ := bnd hF
    refine r_app 2 rfl tyS47 rfl rfl q41 rfl rfl h350 (fun b351 c352 H353 e354 => ?_)
    cases e354
    refine r_op (t_fa (off := 0) (k := 0) rfl tyF136_0) ⟨rfl, trivial⟩ ?_
    refine r_op0 (t_s 0 rfl rfl rfl tyO47.s) ⟨rfl, rfl, trivial⟩ ?_
    refine r_nil (r_blkN (r_next (r_reg ?_)))
    obtain ⟨v356, h357, hF⟩ := bnd hF
    refine r_op (t_add rfl h357) ⟨rfl, k_I _ _, trivial⟩ ?_
    refine r_mv ?_
    refine r_nil ?_
    exact r_round (fun a w hh => ⟨x349, (x43 ++ [v343]), v356, b351, c352, (n40 + [x43.length].length), (g44 ++ [((G341 4).1, v343.length, (G341 4).2)]), (N45 + 1), hF, (apL_len h350 q41), (snoc_len q46), (lenOk_snoc q47 rfl), (apL_hx q48 q46 h350), hs_backA 4 [0, 1, 2, 3] rfl rfl (by decide) (by exact ⟨rfl, rfl, rfl, rfl, rfl, rfl, trivial⟩) hh⟩)
  have hF := cnd_f h338 hF
  refine r_brk ?_
  obtain ⟨rfl, rfl⟩ := sm2 hF
  exact r_backA Jj63 ⟨x37, x43, b38, c39, n40, g44, N45, hRl62, q41, q46, q47, q48, rfl, rfl⟩ 4 [0, 1, 2, 3] rfl rfl ⟨rfl, rfl, rfl, trivial⟩
def F_matrix_Det (K : Nat) (a0 : List (List Rat)) : Option (Rat × Int) :=
  (F_matrix_square K a0).bind fun v2 => bif (!v2) then (some (0, 1)) else ((F_matrix_reduce K a0 (a0.length : Int)).bind fun v5 => bif ((v5.pivots.length : Int) == (a0.length : Int)) then (some (v5.det, 0)) else (some (0, 0)))
theorem ct_matrix_Det {K : Nat} {a0 : List (List Rat)} {r : Rat × Int} (hF : F_matrix_Det K a0 = some r) : Ct Tryz.prog 40 [.vc (pS (cSl cQ) a0)] (.t2 (.va (eQ r.1)) (.vc (pI .i64 r.2))) := by
  unfold F_matrix_Det at hF
  refine ctO_intro Tryz.func40 rfl (by kernel_rfl) Tryz.ntmps40 rfl (fun w0 M0 => ?_)
  refine r_seq (r_reg (r_alloc rfl tyZ35q (fun b1 => ?_)))
  refine r_op (t_mv (.inr rfl)) ⟨k_I _ _, trivial⟩ ?_
  refine r_nil (r_next (r_seq (r_seq (r_reg (r_mv ?_)))))
  obtain ⟨v2, h3, hF⟩ := bnd hF
  refine r_op (t_call rfl (ct_matrix_square h3) rfl) ⟨rfl, trivial⟩ ?_
  refine r_op (t_not rfl) ⟨rfl, trivial⟩ ?_
  refine r_nil (r_next (r_if rfl (fun h4 => ?_) (fun h4 => ?_)))
  · have hF := cnd_t h4 hF
    refine r_seq (r_reg (r_op (t_bld (is := []) (xs := []) (ps := []) rfl tyB35q rfl rfl trivial rfl) trivial ?_))
    refine r_op0 (t_s 0 rfl rfl rfl tyA35.s) ⟨rfl, rfl, trivial⟩ ?_
    refine r_op (t_mv (.inr rfl)) ⟨k_I _ _, trivial⟩ ?_
    refine r_nil (r_next (r_ret (r_toR ?_)))
    obtain rfl := sm1 hF
    exact r_done1 (.inl rfl) Tryz.results40 (rv_cell 0 4 rfl rfl rfl rfl (.agg tyA35) (.tmp rfl .nil)) rfl rfl
  have hF := cnd_f h4 hF
  refine r_skip (r_next (r_seq (r_seq (r_reg (r_mv ?_)))))
  refine r_mv ?_
  refine r_op (t_ln rfl tyS47) ⟨rfl, trivial⟩ ?_
  obtain ⟨v5, h6, hF⟩ := bnd hF
  refine r_op (t_call rfl (ct_matrix_reduce h6) rfl) ⟨rfl, rfl, trivial⟩ ?_
  refine r_alloc rfl tyZ136q (fun b7 => ?_)
  refine r_op0 (t_s 0 rfl rfl rfl tyA136.s) ⟨rfl, rfl, trivial⟩ ?_
  refine r_nil (r_next (r_seq (r_reg (r_op (t_fa (off := 0) (k := 1) rfl tyF136_1) ⟨rfl, trivial⟩ ?_))))
  refine r_op (t_l 0 1 rfl rfl rfl rfl (.one tyO22)) ⟨rfl, trivial⟩ ?_
  refine r_op (t_ln rfl tyS22) ⟨rfl, trivial⟩ ?_
  refine r_mv ?_
  refine r_op (t_ln rfl tyS47) ⟨rfl, trivial⟩ ?_
  refine r_op (t_eq rfl) ⟨rfl, rfl, trivial⟩ ?_
  refine r_nil (r_next (r_if rfl (fun h8 => ?_) (fun h8 => ?_)))
  · have hF := cnd_t h8 hF
    refine r_seq (r_reg (r_op (t_fa (off := 0) (k := 2) rfl tyF136_2) ⟨rfl, trivial⟩ ?_))
    refine r_op (t_l 0 4 rfl rfl rfl rfl (.agg tyA35)) ⟨rfl, trivial⟩ ?_
    refine r_op0 (t_s 1 rfl rfl rfl tyA35.s) ⟨rfl, rfl, trivial⟩ ?_
    refine r_op (t_mv (.inr rfl)) ⟨k_I _ _, trivial⟩ ?_
    refine r_nil (r_next (r_ret (r_toR ?_)))
    obtain rfl := sm1 hF
    exact r_done1 (.inl rfl) Tryz.results40 (rv_cell 1 4 rfl rfl rfl rfl (.agg tyA35) (.tmp rfl .nil)) rfl rfl
  have hF := cnd_f h8 hF
  refine r_skip (r_next (r_seq (r_reg (r_op (t_bld (is := []) (xs := []) (ps := []) rfl tyB35q rfl rfl trivial rfl) trivial ?_))))
  refine r_op0 (t_s 1 rfl rfl rfl tyA35.s) ⟨rfl, rfl, trivial⟩ ?_
  refine r_op (t_mv (.inr rfl)) ⟨k_I _ _, trivial⟩ ?_
  refine r_nil (r_next (r_ret (r_toR ?_)))
  obtain rfl := sm1 hF
  exact r_done1 (.inl rfl) Tryz.results40 (rv_cell 1 4 rfl rfl rfl rfl (.agg tyA35) (.tmp rfl .nil)) rfl rfl
def F_matrix_Rank (K : Nat) (a0 : List (List Rat)) : Option (Int × Int) :=
  (F_matrix_Valid K a0).bind fun v1 => bif (!v1) then (some (0, 1)) else ((F_matrix_cols a0).bind fun v4 => (F_matrix_reduce K a0 v4).bind fun v6 => some ((v6.pivots.length : Int), 0))
theorem ct_matrix_Rank {K : Nat} {a0 : List (List Rat)} {r : Int × Int} (hF : F_matrix_Rank K a0 = some r) : Ct Tryz.prog 41 [.vc (pS (cSl cQ) a0)] (.t2 (.vc (pI .i64 r.1)) (.vc (pI .i64 r.2))) := by
  unfold F_matrix_Rank at hF
  refine ctO_intro Tryz.func41 rfl (by kernel_rfl) Tryz.ntmps41 rfl (fun w0 M0 => ?_)
  refine r_seq (r_reg (r_op (t_mv (.inr rfl)) ⟨k_I _ _, trivial⟩ ?_))
  refine r_op (t_mv (.inr rfl)) ⟨k_I _ _, trivial⟩ ?_
  refine r_nil (r_next (r_seq (r_seq (r_reg (r_mv ?_)))))
  obtain ⟨v1, h2, hF⟩ := bnd hF
  refine r_op (t_call rfl (ct_matrix_Valid h2) rfl) ⟨rfl, trivial⟩ ?_
  refine r_op (t_not rfl) ⟨rfl, trivial⟩ ?_
  refine r_nil (r_next (r_if rfl (fun h3 => ?_) (fun h3 => ?_)))
  · have hF := cnd_t h3 hF
    refine r_seq (r_reg (r_op (t_mv (.inr rfl)) ⟨k_I _ _, trivial⟩ ?_))
    refine r_op (t_mv (.inr rfl)) ⟨k_I _ _, trivial⟩ ?_
    refine r_nil (r_next (r_ret (r_toR ?_)))
    obtain rfl := sm1 hF
    exact r_done1 (.inl rfl) Tryz.results41 (.tmp rfl (.tmp rfl .nil)) rfl rfl
  have hF := cnd_f h3 hF
  refine r_skip (r_next (r_seq (r_reg (r_mv ?_))))
  refine r_mv ?_
  obtain ⟨v4, h5, hF⟩ := bnd hF
  refine r_op (t_call rfl (ct_matrix_cols h5) rfl) ⟨rfl, trivial⟩ ?_
  obtain ⟨v6, h7, hF⟩ := bnd hF
  refine r_op (t_call rfl (ct_matrix_reduce h7) rfl) ⟨rfl, rfl, trivial⟩ ?_
  refine r_op (t_fld (off := 1) (p := pS cI v6.pivots) rfl tyG136_1 rfl) ⟨rfl, trivial⟩ ?_
  refine r_op (t_ln rfl tyS22) ⟨rfl, trivial⟩ ?_
  refine r_as ?_
  refine r_op (t_mv (.inr rfl)) ⟨k_I _ _, trivial⟩ ?_
  refine r_nil (r_next (r_ret (r_toR ?_)))
  obtain rfl := sm1 hF
  exact r_done1 (.inl rfl) Tryz.results41 (.tmp rfl (.tmp rfl .nil)) rfl rfl
def F_matrix_Solve_j66 (K : Nat) (x59 : List Rat) : Option ((List Rat) × Int) :=
  some (x59, 0)
def F_matrix_Solve_l65 (K : Nat) (v5 : Int) (v31 : matrix_form) : Nat → (List Rat) → Int → Option (List Rat)
  | 0, _, _ => none
  | k + 1, x52, x58 => bif (decide (x58 < (v31.pivots.length : Int))) then ((rdL v31.pivots x58).bind fun v68 => (rdL v31.rows x58).bind fun v70 => (rdL v70 v5).bind fun v72 => (rdL x52 v68).bind fun v74 => (stL x52 v68 v72).bind fun x76 => (chk (x58 + 1)).bind fun v79 => F_matrix_Solve_l65 K v5 v31 k x76 v79) else (some x52)
def F_matrix_Solve_j39 (K : Nat) (v5 : Int) (v31 : matrix_form) : Option ((List Rat) × Int) :=
  (mkL v5 0).bind fun x40 => (F_matrix_Solve_l65 K v5 v31 K x40 0).bind fun x59 => F_matrix_Solve_j66 K x59
def F_matrix_Solve_l38 (K : Nat) (v5 : Int) (x34 : List (List Rat)) : Nat → Int → Option (LR ((List Rat) × Int) Unit)
  | 0, _ => none
  | k + 1, x37 => bif (decide (x37 < (x34.length : Int))) then ((rdL x34 x37).bind fun v82 => (rdL v82 v5).bind fun v84 => (qsgn v84).bind fun v86 => bif (v86 != 0) then (some (.ret ([], 6))) else ((chk (x37 + 1)).bind fun v89 => F_matrix_Solve_l38 K v5 x34 k v89)) else (some (.go ()))
def F_matrix_Solve_j30 (K : Nat) (v5 : Int) (x23 : List (List Rat)) : Option ((List Rat) × Int) :=
  (F_matrix_reduce K x23 v5).bind fun v31 => (slL v31.rows (v31.pivots.length : Int) (v31.rows.length : Int)).bind fun x34 => (F_matrix_Solve_l38 K v5 x34 K 0).bind fun o => match o with | .ret r => some r | .go _ => F_matrix_Solve_j39 K v5 v31 
def F_matrix_Solve_l29 (K : Nat) (a0 : List (List Rat)) (a1 : List Rat) : Nat → (List (List Rat)) → Int → Option (List (List Rat))
  | 0, _, _ => none
  | k + 1, x16, x22 => bif (decide (x22 < (a0.length : Int))) then ((rdL a0 x22).bind fun v92 => (F_slices_Clone_Rat v92).bind fun v96 => (rdL a1 x22).bind fun v100 => (apL v96 [v100]).bind fun x102 => (apL x16 [x102]).bind fun x104 => (chk (x22 + 1)).bind fun v111 => F_matrix_Solve_l29 K a0 a1 k x104 v111) else (some x16)
def F_matrix_Solve (K : Nat) (a0 : List (List Rat)) (a1 : List Rat) : Option ((List Rat) × Int) :=
  (F_matrix_Valid K a0).bind fun v1 => bif (!v1) then (some ([], 1)) else (bif ((a1.length : Int) != (a0.length : Int)) then (some ([], 1)) else ((F_matrix_cols a0).bind fun v5 => (F_matrix_Solve_l29 K a0 a1 K ([] : List (List Rat)) 0).bind fun x23 => F_matrix_Solve_j30 K v5 x23))
theorem ct_matrix_Solve {K : Nat} {a0 : List (List Rat)} {a1 : List Rat} {r : (List Rat) × Int} (hF : F_matrix_Solve K a0 a1 = some r) : Ct Tryz.prog 48 [.vc (pS (cSl cQ) a0), .vc (pS cQ a1)] (.t2 (.vc (pS cQ r.1)) (.vc (pI .i64 r.2))) := by
  unfold F_matrix_Solve at hF
  refine ctO_intro Tryz.func48 rfl (by kernel_rfl) Tryz.ntmps48 rfl (fun w0 M0 => ?_)
  refine r_seq (r_reg (r_op (t_mv (.inr rfl)) ⟨k_nil cQ, trivial⟩ ?_))
  refine r_op (t_mv (.inr rfl)) ⟨k_I _ _, trivial⟩ ?_
  refine r_nil (r_next (r_seq (r_seq (r_reg (r_mv ?_)))))
  obtain ⟨v1, h2, hF⟩ := bnd hF
  refine r_op (t_call rfl (ct_matrix_Valid h2) rfl) ⟨rfl, trivial⟩ ?_
  refine r_op (t_not rfl) ⟨rfl, trivial⟩ ?_
  refine r_mv ?_
  refine r_bool (fun h3 => ?_) (fun h3 => ?_)
  · have hF := cnd_t h3 hF
    refine r_opn ?_
    refine r_opn ?_
    refine r_opn ?_
    refine r_opn ?_
    refine r_opn ?_
    refine r_op (t_pickT rfl) ⟨rfl, k_B _, trivial⟩ ?_
    refine r_nil (r_next (r_ifT rfl ?_))
    refine r_seq (r_reg (r_op (t_mv (.inr rfl)) ⟨k_nil cQ, trivial⟩ ?_))
    refine r_op (t_mv (.inr rfl)) ⟨k_I _ _, trivial⟩ ?_
    refine r_nil (r_next (r_ret (r_toR ?_)))
    obtain rfl := sm1 hF
    exact r_done1 (.inl rfl) Tryz.results48 (.tmp rfl (.tmp rfl .nil)) rfl rfl
  have hF := cnd_f h3 hF
  refine r_opg (t_mv (.inl rfl)) ⟨rfl, trivial⟩ ?_
  refine r_opg (t_ln rfl tyS24) ⟨rfl, trivial⟩ ?_
  refine r_opg (t_mv (.inl rfl)) ⟨rfl, trivial⟩ ?_
  refine r_opg (t_ln rfl tyS47) ⟨rfl, trivial⟩ ?_
  refine r_opg (t_ne rfl) ⟨rfl, rfl, trivial⟩ ?_
  refine r_op (t_pickF rfl) ⟨rfl, rfl, trivial⟩ ?_
  refine r_nil (r_next (r_if rfl (fun h4 => ?_) (fun h4 => ?_)))
  · have hF := cnd_t h4 hF
    refine r_seq (r_reg (r_op (t_mv (.inr rfl)) ⟨k_nil cQ, trivial⟩ ?_))
    refine r_op (t_mv (.inr rfl)) ⟨k_I _ _, trivial⟩ ?_
    refine r_nil (r_next (r_ret (r_toR ?_)))
    obtain rfl := sm1 hF
    exact r_done1 (.inl rfl) Tryz.results48 (.tmp rfl (.tmp rfl .nil)) rfl rfl
  have hF := cnd_f h4 hF
  refine r_skip (r_next (r_seq (r_reg (r_mv ?_))))
  obtain ⟨v5, h6, hF⟩ := bnd hF
  refine r_op (t_call rfl (ct_matrix_cols h6) rfl) ⟨rfl, trivial⟩ ?_
  refine r_as ?_
  refine r_nil (r_next (r_seq (r_reg (r_nilO (cSl cQ) 24 rfl ?_))))
  refine r_nil (r_next (r_seq (r_seq (r_reg (r_mv ?_)))))
  refine r_op (t_ln rfl tyS47) ⟨rfl, trivial⟩ ?_
  refine r_op (t_mv (.inl rfl)) ⟨k_I _ _, trivial⟩ ?_
  refine r_nil (r_next (r_blk (r_cutN (fun H E => ∃ (x23 : List (List Rat)), ∃ (b24 : Option Nat), ∃ (c25 : Nat), ∃ (n26 : Nat), F_matrix_Solve_j30 K v5 x23 = some r ∧ x23.length = n26 ∧ H = [hO (cSl cQ) b24 c25 24 n26 x23] ∧ E = [(6, .vc (pI .i64 v5)), (7, .vc (pO b24 n26 c25))]) ?_ (fun Jj30 => ?_))))
  · rintro _ _ ⟨x23, b24, c25, n26, hF, q27, rfl, rfl⟩
    unfold F_matrix_Solve_j30 at hF
    refine r_next (r_seq (r_reg (r_mv ?_)))
    refine r_mv ?_
    refine r_fzL 0 [7, 47] rfl q27 ⟨rfl, rfl, trivial⟩ rfl ?_
    obtain ⟨v31, h32, hF⟩ := bnd hF
    refine r_op (t_call rfl (ct_matrix_reduce h32) rfl) ⟨rfl, rfl, trivial⟩ ?_
    refine r_alloc rfl tyZ136q (fun b33 => ?_)
    refine r_op0 (t_s 0 rfl rfl rfl tyA136.s) ⟨rfl, rfl, trivial⟩ ?_
    refine r_nil (r_next (r_seq (r_seq (r_reg (r_op (t_fa (off := 0) (k := 0) rfl tyF136_0) ⟨rfl, trivial⟩ ?_)))))
    refine r_op (t_l 0 1 rfl rfl rfl rfl (.one tyO47)) ⟨rfl, trivial⟩ ?_
    refine r_op (t_fa (off := 0) (k := 1) rfl tyF136_1) ⟨rfl, trivial⟩ ?_
    refine r_op (t_l 0 1 rfl rfl rfl rfl (.one tyO22)) ⟨rfl, trivial⟩ ?_
    refine r_op (t_ln rfl tyS22) ⟨rfl, trivial⟩ ?_
    obtain ⟨x34, h35, hF⟩ := bnd hF
    refine r_op (t_cutL rfl tyS47 h35) ⟨rfl, rfl, trivial⟩ ?_
    refine r_op (t_ln rfl tyS47) ⟨rfl, trivial⟩ ?_
    refine r_op (t_mv (.inl rfl)) ⟨k_I _ _, trivial⟩ ?_
    refine r_nil (r_next (r_blk (r_cutN (fun H E => F_matrix_Solve_j39 K v5 v31 = some r ∧ H = [⟨some b33, 1, 136, 6, 1, (matrix_form.enc v31)⟩] ∧ E = [(6, .vc (pI .i64 v5)), (10, .vc (pP (some b33) 0))]) ?_ (fun Jj39 => ?_))))
    · rintro _ _ ⟨hF, rfl, rfl⟩
      unfold F_matrix_Solve_j39 at hF
      refine r_next (r_seq (r_reg (r_mv ?_)))
      obtain ⟨x40, h41, hF⟩ := bnd hF
      refine r_make (C := cQ) rfl tyS24 rfl tyZ35q rfl h41 (fun b42 => ?_)
      refine r_as ?_
      refine r_nil (r_next (r_seq (r_seq (r_reg (r_op (t_fa (off := 0) (k := 1) rfl tyF136_1) ⟨rfl, trivial⟩ ?_)))))
      refine r_op (t_l 1 1 rfl rfl rfl rfl (.one tyO22)) ⟨rfl, trivial⟩ ?_
      refine r_op (t_ln rfl tyS22) ⟨rfl, trivial⟩ ?_
      refine r_op (t_mv (.inl rfl)) ⟨k_I _ _, trivial⟩ ?_
      refine r_nil (r_next (r_blk (r_cutN (fun H E => ∃ (x59 : List Rat), F_matrix_Solve_j66 K x59 = some r ∧ x59.length = x40.length ∧ H = [hO cQ b42 x40.length 35 x40.length x59] ∧ E = [(13, .vc (pO b42 x40.length x40.length))]) ?_ (fun Jj66 => ?_))))
      · rintro _ _ ⟨x59, hF, q63, rfl, rfl⟩
        unfold F_matrix_Solve_j66 at hF
        refine r_next (r_seq (r_reg (r_mv ?_)))
        refine r_as ?_
        refine r_op (t_mv (.inr rfl)) ⟨k_I _ _, trivial⟩ ?_
        refine r_nil (r_next (r_ret (r_toR (r_fzX 0 [4, 13, 90] rfl q63 ⟨rfl, rfl, rfl, trivial⟩ rfl ?_))))
        obtain rfl := sm1 hF
        exact r_done1 (.inl rfl) Tryz.results48 (.tmp rfl (.tmp rfl .nil)) rfl rfl
      obtain ⟨x59', hL, hRl65⟩ := bnd hF
      refine r_lp (fun k a w => ∃ (x52 : List Rat), ∃ (x58 : Int), F_matrix_Solve_l65 K v5 v31 k x52 x58 = some x59' ∧ x52.length = x40.length ∧ hs _ [hO cQ b42 x40.length 35 x40.length x52, ⟨some b33, 1, 136, 6, 1, (matrix_form.enc v31)⟩] [(6, .vc (pI .i64 v5)), (10, .vc (pP (some b33) 0)), (13, .vc (pO b42 x40.length x40.length)), (71, .vc (pS cI v31.pivots)), (72, .vc (pI .i64 (v31.pivots.length : Int))), (73, .vc (pI .i64 x58))] a w) K (fun a w ⟨_, _, hF, _, _⟩ => by cases hF) (fun k a w ⟨x52, x58, hF, q56, hh⟩ => r_at ?_ hh) (fun a w hh => ⟨x40, 0, hL, rfl, hs_back [0, 1] rfl (by decide) (by exact ⟨rfl, rfl, rfl, rfl, rfl, rfl, trivial⟩) hh⟩)
      rw [F_matrix_Solve_l65.eq_2] at hF
      refine r_seq (r_reg (r_op (t_lt rfl) ⟨rfl, rfl, trivial⟩ ?_))
      refine r_nil (r_next (r_seq (r_if rfl (fun h67 => ?_) (fun h67 => ?_))))
      · have hF := cnd_t h67 hF
        refine r_skip (r_next (r_seq (r_blk (r_seq (r_reg (r_mv ?_))))))
        obtain ⟨v68, h69, hF⟩ := bnd hF
        refine r_op (t_ix rfl tyS22 h69) ⟨rfl, rfl, trivial⟩ ?_
        refine r_op (t_lM 1 rfl rfl (.one tyO3)) ⟨rfl, trivial⟩ ?_
        refine r_as ?_
        refine r_as ?_
        refine r_nil (r_next (r_reg (r_mv ?_)))
        refine r_mv ?_
        refine r_op (t_fa (off := 0) (k := 0) rfl tyF136_0) ⟨rfl, trivial⟩ ?_
        refine r_op (t_l 1 1 rfl rfl rfl rfl (.one tyO47)) ⟨rfl, trivial⟩ ?_
        refine r_mv ?_
        obtain ⟨v70, h71, hF⟩ := bnd hF
        refine r_op (t_ix rfl tyS47 h71) ⟨rfl, rfl, trivial⟩ ?_
        refine r_op (t_lM 1 rfl rfl (.one tyO24)) ⟨rfl, trivial⟩ ?_
        refine r_mv ?_
        obtain ⟨v72, h73, hF⟩ := bnd hF
        refine r_op (t_ix rfl tyS24 h73) ⟨rfl, rfl, trivial⟩ ?_
        refine r_op (t_lM 4 rfl rfl (.agg tyA35)) ⟨rfl, trivial⟩ ?_
        obtain ⟨v74, h75, hF⟩ := bnd hF
        refine r_op (t_ixE (C := cQ) 0 rfl tyS24 rfl q56 (rdL_some h75).1 (rdL_some h75).2.1) ⟨rfl, rfl, trivial⟩ ?_
        obtain ⟨x76, h77, hF⟩ := bnd hF
        refine r_op0 (t_stE 0 rfl rfl h75 h77 tyA35.s) ⟨rfl, rfl, trivial⟩ ?_
        refine r_nil (r_blkN (r_next (r_reg ?_)))
        obtain ⟨v79, h80, hF⟩ := bnd hF
        refine r_op (t_add rfl h80) ⟨rfl, k_I _ _, trivial⟩ ?_
        refine r_mv ?_
        refine r_nil ?_
        exact r_round (fun a w hh => ⟨x76, v79, hF, (stL_len h77 q56), hs_back [0, 1] rfl (by decide) (by exact ⟨rfl, rfl, rfl, rfl, rfl, rfl, trivial⟩) hh⟩)
      have hF := cnd_f h67 hF
      refine r_brk ?_
      obtain rfl := sm1 hF
      exact r_backJ Jj66 ⟨x52, hRl65, q56, rfl, rfl⟩ [0] rfl ⟨rfl, trivial⟩
    obtain ⟨ol38, hL, hRl38⟩ := bnd hF
    refine r_lp (fun k a w => ∃ (x37 : Int), F_matrix_Solve_l38 K v5 x34 k x37 = some ol38 ∧ hs _ [⟨some b33, 1, 136, 6, 1, (matrix_form.enc v31)⟩] [(6, .vc (pI .i64 v5)), (10, .vc (pP (some b33) 0)), (55, .vc (pS (cSl cQ) x34)), (56, .vc (pI .i64 (x34.length : Int))), (57, .vc (pI .i64 x37))] a w) K (fun a w ⟨_, hF, _⟩ => by cases hF) (fun k a w ⟨x37, hF, hh⟩ => r_at ?_ hh) (fun a w hh => ⟨0, hL, hs_back [0] rfl (by decide) (by exact ⟨rfl, rfl, rfl, rfl, rfl, trivial⟩) hh⟩)
    rw [F_matrix_Solve_l38.eq_2] at hF
    refine r_seq (r_reg (r_op (t_lt rfl) ⟨rfl, rfl, trivial⟩ ?_))
    refine r_nil (r_next (r_seq (r_if rfl (fun h81 => ?_) (fun h81 => ?_))))
    · have hF := cnd_t h81 hF
      refine r_skip (r_next (r_seq (r_blk (r_seq (r_reg ?_)))))
      obtain ⟨v82, h83, hF⟩ := bnd hF
      refine r_op (t_ix rfl tyS47 h83) ⟨rfl, rfl, trivial⟩ ?_
      refine r_op (t_lM 1 rfl rfl (.one tyO24)) ⟨rfl, trivial⟩ ?_
      refine r_as ?_
      refine r_nil (r_next (r_seq (r_reg (r_mv ?_))))
      refine r_mv ?_
      obtain ⟨v84, h85, hF⟩ := bnd hF
      refine r_op (t_ix rfl tyS24 h85) ⟨rfl, rfl, trivial⟩ ?_
      refine r_op (t_lM 4 rfl rfl (.agg tyA35)) ⟨rfl, trivial⟩ ?_
      obtain ⟨v86, h87, hF⟩ := bnd hF
      refine r_op (t_call rfl (qc_rat_Sign h87) rfl) ⟨rfl, trivial⟩ ?_
      refine r_op (t_ne rfl) ⟨rfl, k_I _ _, trivial⟩ ?_
      refine r_nil (r_next (r_if rfl (fun h88 => ?_) (fun h88 => ?_)))
      · have hF := cnd_t h88 hF
        refine r_seq (r_reg (r_op (t_mv (.inr rfl)) ⟨k_nil cQ, trivial⟩ ?_))
        refine r_op (t_mv (.inr rfl)) ⟨k_I _ _, trivial⟩ ?_
        refine r_nil (r_next (r_ret (r_toR ?_)))
        obtain rfl := sm1 hF
        obtain rfl := sm1 hRl38
        exact r_done1 (.inl rfl) Tryz.results48 (.tmp rfl (.tmp rfl .nil)) rfl rfl
      have hF := cnd_f h88 hF
      refine r_skip (r_blkN (r_next (r_reg ?_)))
      obtain ⟨v89, h90, hF⟩ := bnd hF
      refine r_op (t_add rfl h90) ⟨rfl, k_I _ _, trivial⟩ ?_
      refine r_mv ?_
      refine r_nil ?_
      exact r_round (fun a w hh => ⟨v89, hF, hs_back [0] rfl (by decide) (by exact ⟨rfl, rfl, rfl, rfl, rfl, trivial⟩) hh⟩)
    have hF := cnd_f h81 hF
    refine r_brk ?_
    obtain rfl := sm1 hF
    exact r_backJ Jj39 ⟨hRl38, rfl, rfl⟩ [0] rfl ⟨rfl, rfl, trivial⟩
  obtain ⟨x23', hL, hRl29⟩ := bnd hF
  refine r_lp (fun k a w => ∃ (x16 : List (List Rat)), ∃ (x22 : Int), ∃ (b17 : Option Nat), ∃ (c18 : Nat), ∃ (n19 : Nat), F_matrix_Solve_l29 K a0 a1 k x16 x22 = some x23' ∧ x16.length = n19 ∧ hs _ [hO (cSl cQ) b17 c18 24 n19 x16] [(1, .vc (pS cQ a1)), (6, .vc (pI .i64 v5)), (7, .vc (pO b17 n19 c18)), (28, .vc (pS (cSl cQ) a0)), (29, .vc (pI .i64 (a0.length : Int))), (30, .vc (pI .i64 x22))] a w) K (fun a w ⟨_, _, _, _, _, hF, _, _⟩ => by cases hF) (fun k a w ⟨x16, x22, b17, c18, n19, hF, q20, hh⟩ => r_at ?_ hh) (fun a w hh => ⟨([] : List (List Rat)), 0, none, 0, 0, hL, rfl, hs_back [0] rfl (by decide) (by exact ⟨rfl, rfl, rfl, rfl, rfl, rfl, trivial⟩) hh⟩)
  rw [F_matrix_Solve_l29.eq_2] at hF
  refine r_seq (r_reg (r_op (t_lt rfl) ⟨rfl, rfl, trivial⟩ ?_))
  refine r_nil (r_next (r_seq (r_if rfl (fun h91 => ?_) (fun h91 => ?_))))
  · have hF := cnd_t h91 hF
    refine r_skip (r_next (r_seq (r_blk (r_seq (r_reg (r_mv ?_))))))
    obtain ⟨v92, h93, hF⟩ := bnd hF
    refine r_op (t_ix rfl tyS47 h93) ⟨rfl, rfl, trivial⟩ ?_
    refine r_op (t_lM 1 rfl rfl (.one tyO24)) ⟨rfl, trivial⟩ ?_
    refine r_as ?_
    refine r_as ?_
    refine r_nil (r_next ?_)
    obtain ⟨v96, h97, hF⟩ := bnd hF
    obtain ⟨v100, h101, hF⟩ := bnd hF
    obtain ⟨x102, h103, hF⟩ := bnd hF
    refine r_drawH (HsL [fun G94 => [hO (cSl cQ) b17 c18 24 n19 x16], fun G94 => [hO cQ ((G94 2).1) ((G94 2).2) 35 v96.length v96, hO (cSl cQ) b17 c18 24 n19 x16], fun G94 => [hO (cSl cQ) b17 c18 24 n19 x16]]) [2, 8] [0, 0, 2, 0, 0, 24, 56, 120, 254, 510, 1023, 2047] 10 2 [.v (.vc (pO b17 n19 c18)), .v (.vc (pS cQ v92)), .g (fun b c => .vc (pO b v96.length c)), .v (.vc (pS cQ a1)), .v (.vc (pI .i64 x22)), .v (.vc (pM (cQ.e v100))), .v (.va (eQ v100)), .v (.vc (pS cQ [v100])), .g (fun _ _ => .vc (pS cQ x102)), .v (.vc (pS (cSl cQ) [x102]))] Tryz_mixed ⟨⟨rfl, .run (lo := 0) (n := 3) ⟨fun G94 A => t_mv (.inl rfl), fun G94 A => t_mv (.inl rfl), fun G94 A => t_mv (.inl rfl), trivial⟩ (fun G94 => ⟨rfl, trivial⟩)⟩, d1 0 (t_mv (.inl rfl)) ⟨rfl, trivial⟩, ⟨rfl, .hvy 0 (fun G94 A => hv_call rfl (ctO_slices_Clone_Rat h97) rfl) (fun G94 => ⟨rfl, trivial⟩)⟩, ⟨rfl, .run (lo := 0) (n := 2) ⟨fun G94 A => t_mv (.inl rfl), fun G94 A => t_mv (.inl rfl), trivial⟩ (fun G94 => ⟨rfl, trivial⟩)⟩, ⟨rfl, .run (lo := 0) (n := 2) ⟨fun G94 A => t_mv (.inl rfl), fun G94 A => t_mv (.inl rfl), trivial⟩ (fun G94 => ⟨rfl, trivial⟩)⟩, ⟨rfl, .run (lo := 0) (n := 2) ⟨fun G94 A => t_ix rfl tyS24 h101, fun G94 A => t_ix rfl tyS24 h101, trivial⟩ (fun G94 => ⟨rfl, rfl, trivial⟩)⟩, ⟨rfl, .run (lo := 0) (n := 2) ⟨fun G94 A => t_lM 4 rfl rfl (.agg tyA35), fun G94 A => t_lM 4 rfl rfl (.agg tyA35), trivial⟩ (fun G94 => ⟨rfl, trivial⟩)⟩, ⟨rfl, .run (lo := 0) (n := 2) ⟨fun G94 A => t_bs (C := cQ) (xs := [.tmp 41]) (ps := [.va (eQ v100)]) (zs := [v100]) rfl tyS24 rfl ⟨⟨trivial, rfl⟩, trivial⟩ rfl, fun G94 A => t_bs (C := cQ) (xs := [.tmp 41]) (ps := [.va (eQ v100)]) (zs := [v100]) rfl tyS24 rfl ⟨⟨trivial, rfl⟩, trivial⟩ rfl, trivial⟩ (fun G94 => ⟨rfl, trivial⟩)⟩, ⟨rfl, .hvy 1 (fun G94 A => hv_tr (tr_frz 0 (hv_app 0 rfl tyS24 rfl rfl rfl h103) (fun _ _ => rfl) (apL_len h103 rfl) (fun _ _ => rfl))) (fun G94 => ⟨rfl, rfl, trivial⟩)⟩, d1 2 (t_bs (C := (cSl cQ)) (xs := [.tmp 43]) (ps := [.vc (pS cQ x102)]) (zs := [x102]) rfl tyS47 rfl ⟨⟨trivial, rfl⟩, trivial⟩ rfl) ⟨rfl, trivial⟩, trivial⟩ (fun bs95 G94 => ?_)
    obtain ⟨x104, h105, hF⟩ := bnd hF
    refine r_app 0 rfl tyS47 rfl rfl q20 rfl rfl h105 (fun b106 c107 H108 e109 => ?_)
    cases e109
    refine r_as ?_
    refine r_nil (r_blkN (r_next (r_reg ?_)))
    obtain ⟨v111, h112, hF⟩ := bnd hF
    refine r_op (t_add rfl h112) ⟨rfl, k_I _ _, trivial⟩ ?_
    refine r_mv ?_
    refine r_nil ?_
    exact r_round (fun a w hh => ⟨x104, v111, b106, c107, (n19 + [x102].length), hF, (apL_len h105 q20), hs_back [0] rfl (by decide) (by exact ⟨rfl, rfl, rfl, rfl, rfl, rfl, trivial⟩) hh⟩)
  have hF := cnd_f h91 hF
  refine r_brk ?_
  obtain rfl := sm1 hF
  exact r_backJ Jj30 ⟨x16, b17, c18, n19, hRl29, q20, rfl, rfl⟩ [0] rfl ⟨rfl, rfl, trivial⟩
def F_slices_Index_int_j4 (K : Nat) : Option Int :=
  some (-1)
def F_slices_Index_int_l3 (K : Nat) (a0 : List Int) (a1 : Int) : Nat → Int → Option (LR Int Unit)
  | 0, _ => none
  | k + 1, x2 => bif (decide (x2 < (a0.length : Int))) then ((rdL a0 x2).bind fun v6 => bif (a1 == v6) then (some (.ret x2)) else ((chk (x2 + 1)).bind fun v9 => F_slices_Index_int_l3 K a0 a1 k v9)) else (some (.go ()))
def F_slices_Index_int (K : Nat) (a0 : List Int) (a1 : Int) : Option Int :=
  (F_slices_Index_int_l3 K a0 a1 K 0).bind fun o => match o with | .ret r => some r | .go _ => F_slices_Index_int_j4 K 
theorem ct_slices_Index_int {K : Nat} {a0 : List Int} {a1 : Int} {r : Int} (hF : F_slices_Index_int K a0 a1 = some r) : Ct Tryz.prog 150 [.vc (pS cI a0), .vc (pI .i64 a1)] (.vc (pI .i64 r)) := by
  unfold F_slices_Index_int at hF
  refine ctO_intro Tryz.func150 rfl (by kernel_rfl) Tryz.ntmps150 rfl (fun w0 M0 => ?_)
  refine r_seq (r_reg (r_op (t_mv (.inr rfl)) ⟨k_I _ _, trivial⟩ ?_))
  refine r_nil (r_next (r_seq (r_seq (r_reg (r_mv ?_)))))
  refine r_op (t_ln rfl tyS22) ⟨rfl, trivial⟩ ?_
  refine r_op (t_mv (.inl rfl)) ⟨k_I _ _, trivial⟩ ?_
  refine r_nil (r_next (r_blk (r_cutN (fun H E => F_slices_Index_int_j4 K = some r ∧ H = [] ∧ E = []) ?_ (fun Jj4 => ?_))))
  · rintro _ _ ⟨hF, rfl, rfl⟩
    unfold F_slices_Index_int_j4 at hF
    refine r_next (r_seq (r_reg (r_op (t_mv (.inr rfl)) ⟨k_I _ _, trivial⟩ ?_)))
    refine r_nil (r_next (r_ret (r_toR ?_)))
    obtain rfl := sm1 hF
    exact r_done1 (.inl rfl) Tryz.results150 (.tmp rfl .nil) rfl rfl
  obtain ⟨ol3, hL, hRl3⟩ := bnd hF
  refine r_lp (fun k a w => ∃ (x2 : Int), F_slices_Index_int_l3 K a0 a1 k x2 = some ol3 ∧ hs _ [] [(0, .vc (pS cI a0)), (1, .vc (pI .i64 a1)), (7, .vc (pI .i64 (a0.length : Int))), (8, .vc (pI .i64 x2))] a w) K (fun a w ⟨_, hF, _⟩ => by cases hF) (fun k a w ⟨x2, hF, hh⟩ => r_at ?_ hh) (fun a w hh => ⟨0, hL, hs_back [] rfl (by decide) (by exact ⟨rfl, rfl, rfl, rfl, trivial⟩) hh⟩)
  rw [F_slices_Index_int_l3.eq_2] at hF
  refine r_seq (r_reg (r_op (t_lt rfl) ⟨rfl, rfl, trivial⟩ ?_))
  refine r_nil (r_next (r_seq (r_if rfl (fun h5 => ?_) (fun h5 => ?_))))
  · have hF := cnd_t h5 hF
    refine r_skip (r_next (r_seq (r_blk (r_seq (r_reg (r_mv ?_))))))
    refine r_as ?_
    refine r_nil (r_next (r_seq (r_reg (r_mv ?_))))
    refine r_mv ?_
    refine r_mv ?_
    obtain ⟨v6, h7, hF⟩ := bnd hF
    refine r_op (t_ix rfl tyS22 h7) ⟨rfl, rfl, trivial⟩ ?_
    refine r_op (t_lM 1 rfl rfl (.one tyO3)) ⟨rfl, trivial⟩ ?_
    refine r_op (t_eq rfl) ⟨rfl, rfl, trivial⟩ ?_
    refine r_nil (r_next (r_if rfl (fun h8 => ?_) (fun h8 => ?_)))
    · have hF := cnd_t h8 hF
      refine r_seq (r_reg (r_mv ?_))
      refine r_as ?_
      refine r_nil (r_next (r_ret (r_toR ?_)))
      obtain rfl := sm1 hF
      obtain rfl := sm1 hRl3
      exact r_done1 (.inl rfl) Tryz.results150 (.tmp rfl .nil) rfl rfl
    have hF := cnd_f h8 hF
    refine r_skip (r_blkN (r_next (r_reg ?_)))
    obtain ⟨v9, h10, hF⟩ := bnd hF
    refine r_op (t_add rfl h10) ⟨rfl, k_I _ _, trivial⟩ ?_
    refine r_mv ?_
    refine r_nil ?_
    exact r_round (fun a w hh => ⟨v9, hF, hs_back [] rfl (by decide) (by exact ⟨rfl, rfl, rfl, rfl, trivial⟩) hh⟩)
  have hF := cnd_f h5 hF
  refine r_brk ?_
  obtain rfl := sm1 hF
  exact r_backJ Jj4 ⟨hRl3, rfl, rfl⟩ [] rfl trivial
def F_slices_Contains_int (K : Nat) (a0 : List Int) (a1 : Int) : Option Bool :=
  (F_slices_Index_int K a0 a1).bind fun v1 => some (decide (0 ≤ v1))
theorem ct_slices_Contains_int {K : Nat} {a0 : List Int} {a1 : Int} {r : Bool} (hF : F_slices_Contains_int K a0 a1 = some r) : Ct Tryz.prog 110 [.vc (pS cI a0), .vc (pI .i64 a1)] (.vc (pB r)) := by
  unfold F_slices_Contains_int at hF
  refine ctO_intro Tryz.func110 rfl (by kernel_rfl) Tryz.ntmps110 rfl (fun w0 M0 => ?_)
  refine r_seq (r_reg (r_op (t_mv (.inr rfl)) ⟨k_B _, trivial⟩ ?_))
  refine r_nil (r_next (r_seq (r_reg (r_mv ?_))))
  refine r_mv ?_
  obtain ⟨v1, h2, hF⟩ := bnd hF
  refine r_op (t_call rfl (ct_slices_Index_int h2) rfl) ⟨rfl, rfl, trivial⟩ ?_
  refine r_op (t_ge rfl) ⟨rfl, k_I _ _, trivial⟩ ?_
  refine r_as ?_
  refine r_nil (r_next (r_ret (r_toR ?_)))
  obtain rfl := sm1 hF
  exact r_done1 (.inl rfl) Tryz.results110 (.tmp rfl .nil) rfl rfl
def F_matrix_Kernel_j32 (K : Nat) (x25 : List (List Rat)) : Option ((List (List Rat)) × Int) :=
  some (x25, 0)
def F_matrix_Kernel_j72 (K : Nat) (x18 : List (List Rat)) (x24 : Int) (recl31 : (List (List Rat)) → Int → Option (List (List Rat))) (x65 : List Rat) : Option (List (List Rat)) :=
  (apL x18 [x65]).bind fun x73 => (chk (x24 + 1)).bind fun v80 => recl31 x73 v80
def F_matrix_Kernel_l71 (K : Nat) (v6 : matrix_form) (x24 : Int) : Nat → (List Rat) → Int → Option (List Rat)
  | 0, _, _ => none
  | k + 1, x58, x64 => bif (decide (x64 < (v6.pivots.length : Int))) then ((rdL v6.pivots x64).bind fun v83 => (rdL v6.rows x64).bind fun v85 => (rdL v85 x24).bind fun v87 => (qneg v87).bind fun v89 => (rdL x58 v83).bind fun v91 => (stL x58 v83 v89).bind fun x93 => (chk (x64 + 1)).bind fun v96 => F_matrix_Kernel_l71 K v6 x24 k x93 v96) else (some x58)
def F_matrix_Kernel_l31 (K : Nat) (v4 : Int) (v6 : matrix_form) : Nat → (List (List Rat)) → Int → Option (List (List Rat))
  | 0, _, _ => none
  | k + 1, x18, x24 => bif (decide (x24 < v4)) then ((F_slices_Contains_int K v6.pivots x24).bind fun v34 => bif v34 then ((chk (x24 + 1)).bind fun v37 => F_matrix_Kernel_l31 K v4 v6 k x18 v37) else ((mkL v4 0).bind fun x39 => (qof 1 1).bind fun v44 => (rdL x39 x24).bind fun v46 => (stL x39 x24 v44).bind fun x48 => (F_matrix_Kernel_l71 K v6 x24 K x48 0).bind fun x65 => F_matrix_Kernel_j72 K x18 x24 (F_matrix_Kernel_l31 K v4 v6 k) x65)) else (some x18)
def F_matrix_Kernel (K : Nat) (a0 : List (List Rat)) : Option ((List (List Rat)) × Int) :=
  (F_matrix_Valid K a0).bind fun v1 => bif (!v1) then (some ([], 1)) else ((F_matrix_cols a0).bind fun v4 => (F_matrix_reduce K a0 v4).bind fun v6 => (F_matrix_Kernel_l31 K v4 v6 K ([] : List (List Rat)) 0).bind fun x25 => F_matrix_Kernel_j32 K x25)
theorem ct_matrix_Kernel {K : Nat} {a0 : List (List Rat)} {r : (List (List Rat)) × Int} (hF : F_matrix_Kernel K a0 = some r) : Ct Tryz.prog 50 [.vc (pS (cSl cQ) a0)] (.t2 (.vc (pS (cSl cQ) r.1)) (.vc (pI .i64 r.2))) := by
  unfold F_matrix_Kernel at hF
  refine ctO_intro Tryz.func50 rfl (by kernel_rfl) Tryz.ntmps50 rfl (fun w0 M0 => ?_)
  refine r_seq (r_reg (r_op (t_mv (.inr rfl)) ⟨k_nil (cSl cQ), trivial⟩ ?_))
  refine r_op (t_mv (.inr rfl)) ⟨k_I _ _, trivial⟩ ?_
  refine r_nil (r_next (r_seq (r_seq (r_reg (r_mv ?_)))))
  obtain ⟨v1, h2, hF⟩ := bnd hF
  refine r_op (t_call rfl (ct_matrix_Valid h2) rfl) ⟨rfl, trivial⟩ ?_
  refine r_op (t_not rfl) ⟨rfl, trivial⟩ ?_
  refine r_nil (r_next (r_if rfl (fun h3 => ?_) (fun h3 => ?_)))
  · have hF := cnd_t h3 hF
    refine r_seq (r_reg (r_op (t_mv (.inr rfl)) ⟨k_nil (cSl cQ), trivial⟩ ?_))
    refine r_op (t_mv (.inr rfl)) ⟨k_I _ _, trivial⟩ ?_
    refine r_nil (r_next (r_ret (r_toR ?_)))
    obtain rfl := sm1 hF
    exact r_done1 (.inl rfl) Tryz.results50 (.tmp rfl (.tmp rfl .nil)) rfl rfl
  have hF := cnd_f h3 hF
  refine r_skip (r_next (r_seq (r_reg (r_mv ?_))))
  obtain ⟨v4, h5, hF⟩ := bnd hF
  refine r_op (t_call rfl (ct_matrix_cols h5) rfl) ⟨rfl, trivial⟩ ?_
  refine r_as ?_
  refine r_nil (r_next (r_seq (r_reg (r_mv ?_))))
  refine r_mv ?_
  obtain ⟨v6, h7, hF⟩ := bnd hF
  refine r_op (t_call rfl (ct_matrix_reduce h7) rfl) ⟨rfl, rfl, trivial⟩ ?_
  refine r_alloc rfl tyZ136q (fun b8 => ?_)
  refine r_op0 (t_s 0 rfl rfl rfl tyA136.s) ⟨rfl, rfl, trivial⟩ ?_
  refine r_nil (r_next (r_seq (r_reg (r_nilO (cSl cQ) 24 rfl ?_))))
  refine r_nil (r_next (r_seq (r_seq (r_reg (r_mv ?_)))))
  refine r_op (t_mv (.inl rfl)) ⟨k_I _ _, trivial⟩ ?_
  refine r_nil (r_next (r_blk (r_cutN (fun H E => ∃ (x25 : List (List Rat)), ∃ (b26 : Option Nat), ∃ (c27 : Nat), ∃ (n28 : Nat), F_matrix_Kernel_j32 K x25 = some r ∧ x25.length = n28 ∧ H = [hO (cSl cQ) b26 c27 24 n28 x25] ∧ E = [(6, .vc (pO b26 n28 c27))]) ?_ (fun Jj32 => ?_))))
  · rintro _ _ ⟨x25, b26, c27, n28, hF, q29, rfl, rfl⟩
    unfold F_matrix_Kernel_j32 at hF
    refine r_next (r_seq (r_reg (r_mv ?_)))
    refine r_as ?_
    refine r_op (t_mv (.inr rfl)) ⟨k_I _ _, trivial⟩ ?_
    refine r_nil (r_next (r_ret (r_toR (r_fzX 0 [2, 6, 59] rfl q29 ⟨rfl, rfl, rfl, trivial⟩ rfl ?_))))
    obtain rfl := sm1 hF
    exact r_done1 (.inl rfl) Tryz.results50 (.tmp rfl (.tmp rfl .nil)) rfl rfl
  obtain ⟨x25', hL, hRl31⟩ := bnd hF
  refine r_lp (fun k a w => ∃ (x18 : List (List Rat)), ∃ (x24 : Int), ∃ (b19 : Option Nat), ∃ (c20 : Nat), ∃ (n21 : Nat), F_matrix_Kernel_l31 K v4 v6 k x18 x24 = some x25' ∧ x18.length = n21 ∧ hs _ [hO (cSl cQ) b19 c20 24 n21 x18, ⟨some b8, 1, 136, 6, 1, (matrix_form.enc v6)⟩] [(4, .vc (pI .i64 v4)), (5, .vc (pP (some b8) 0)), (6, .vc (pO b19 n21 c20)), (19, .vc (pI .i64 v4)), (20, .vc (pI .i64 x24))] a w) K (fun a w ⟨_, _, _, _, _, hF, _, _⟩ => by cases hF) (fun k a w ⟨x18, x24, b19, c20, n21, hF, q22, hh⟩ => r_at ?_ hh) (fun a w hh => ⟨([] : List (List Rat)), 0, none, 0, 0, hL, rfl, hs_back [0, 1] rfl (by decide) (by exact ⟨rfl, rfl, rfl, rfl, rfl, trivial⟩) hh⟩)
  rw [F_matrix_Kernel_l31.eq_2] at hF
  refine r_seq (r_reg (r_op (t_lt rfl) ⟨rfl, rfl, trivial⟩ ?_))
  refine r_nil (r_next (r_seq (r_if rfl (fun h33 => ?_) (fun h33 => ?_))))
  · have hF := cnd_t h33 hF
    refine r_skip (r_next (r_seq (r_blk (r_seq (r_reg (r_mv ?_))))))
    refine r_as ?_
    refine r_nil (r_next (r_seq (r_seq (r_reg (r_op (t_fa (off := 0) (k := 1) rfl tyF136_1) ⟨rfl, trivial⟩ ?_)))))
    refine r_op (t_l 1 1 rfl rfl rfl rfl (.one tyO22)) ⟨rfl, trivial⟩ ?_
    refine r_mv ?_
    obtain ⟨v34, h35, hF⟩ := bnd hF
    refine r_op (t_call rfl (ct_slices_Contains_int h35) rfl) ⟨rfl, rfl, trivial⟩ ?_
    refine r_nil (r_next (r_if rfl (fun h36 => ?_) (fun h36 => ?_)))
    · have hF := cnd_t h36 hF
      refine r_brk (r_next (r_reg ?_))
      obtain ⟨v37, h38, hF⟩ := bnd hF
      refine r_op (t_add rfl h38) ⟨rfl, k_I _ _, trivial⟩ ?_
      refine r_mv ?_
      refine r_nil ?_
      exact r_round (fun a w hh => ⟨x18, v37, b19, c20, n21, hF, q22, hs_back [0, 1] rfl (by decide) (by exact ⟨rfl, rfl, rfl, rfl, rfl, trivial⟩) hh⟩)
    have hF := cnd_f h36 hF
    refine r_skip (r_next (r_seq (r_reg (r_mv ?_))))
    obtain ⟨x39, h40, hF⟩ := bnd hF
    refine r_make (C := cQ) rfl tyS24 rfl tyZ35q rfl h40 (fun b41 => ?_)
    refine r_as ?_
    refine r_nil (r_next (r_seq (r_reg (r_mv ?_))))
    refine r_mv ?_
    obtain ⟨v44, h45, hF⟩ := bnd hF
    refine r_op (t_call rfl (qc_rat_Of h45) rfl) ⟨k_I _ _, k_I _ _, trivial⟩ ?_
    obtain ⟨v46, h47, hF⟩ := bnd hF
    refine r_op (t_ixE (C := cQ) 0 rfl tyS24 rfl rfl (rdL_some h47).1 (rdL_some h47).2.1) ⟨rfl, rfl, trivial⟩ ?_
    obtain ⟨x48, h49, hF⟩ := bnd hF
    refine r_op0 (t_stE 0 rfl rfl h47 h49 tyA35.s) ⟨rfl, rfl, trivial⟩ ?_
    refine r_nil (r_next (r_seq (r_seq (r_reg (r_op (t_fa (off := 0) (k := 1) rfl tyF136_1) ⟨rfl, trivial⟩ ?_)))))
    refine r_op (t_l 2 1 rfl rfl rfl rfl (.one tyO22)) ⟨rfl, trivial⟩ ?_
    refine r_op (t_ln rfl tyS22) ⟨rfl, trivial⟩ ?_
    refine r_op (t_mv (.inl rfl)) ⟨k_I _ _, trivial⟩ ?_
    refine r_nil (r_next (r_blk (r_cutN (fun H E => ∃ (x65 : List Rat), F_matrix_Kernel_j72 K x18 x24 (F_matrix_Kernel_l31 K v4 v6 k) x65 = some x25' ∧ x65.length = x39.length ∧ H = [hO cQ b41 x39.length 35 x39.length x65, hO (cSl cQ) b19 c20 24 n21 x18, ⟨some b8, 1, 136, 6, 1, (matrix_form.enc v6)⟩] ∧ E = [(4, .vc (pI .i64 v4)), (5, .vc (pP (some b8) 0)), (6, .vc (pO b19 n21 c20)), (8, .vc (pO b41 x39.length x39.length)), (19, .vc (pI .i64 v4)), (20, .vc (pI .i64 x24))]) ?_ (fun Jj72 => ?_))))
    · rintro _ _ ⟨x65, hF, q69, rfl, rfl⟩
      unfold F_matrix_Kernel_j72 at hF
      refine r_next (r_reg (r_mv ?_))
      refine r_mv ?_
      refine r_fzL 0 [8, 55] rfl q69 ⟨rfl, rfl, trivial⟩ rfl ?_
      refine r_op (t_bs (C := (cSl cQ)) (xs := [.tmp 55]) (ps := [.vc (pS cQ x65)]) (zs := [x65]) rfl tyS47 rfl ⟨⟨trivial, rfl⟩, trivial⟩ rfl) ⟨rfl, trivial⟩ ?_
      obtain ⟨x73, h74, hF⟩ := bnd hF
      refine r_app 0 rfl tyS47 rfl rfl q22 rfl rfl h74 (fun b75 c76 H77 e78 => ?_)
      cases e78
      refine r_as ?_
      refine r_nil (r_blkN (r_next (r_reg ?_)))
      obtain ⟨v80, h81, hF⟩ := bnd hF
      refine r_op (t_add rfl h81) ⟨rfl, k_I _ _, trivial⟩ ?_
      refine r_mv ?_
      refine r_nil ?_
      exact r_round (fun a w hh => ⟨x73, v80, b75, c76, (n21 + [x65].length), hF, (apL_len h74 q22), hs_back [0, 1] rfl (by decide) (by exact ⟨rfl, rfl, rfl, rfl, rfl, trivial⟩) hh⟩)
    obtain ⟨x65', hL, hRl71⟩ := bnd hF
    refine r_lp (fun k a w => ∃ (x58 : List Rat), ∃ (x64 : Int), F_matrix_Kernel_l71 K v6 x24 k x58 x64 = some x65' ∧ x58.length = x39.length ∧ hs _ [hO cQ b41 x39.length 35 x39.length x58, hO (cSl cQ) b19 c20 24 n21 x18, ⟨some b8, 1, 136, 6, 1, (matrix_form.enc v6)⟩] [(4, .vc (pI .i64 v4)), (5, .vc (pP (some b8) 0)), (6, .vc (pO b19 n21 c20)), (7, .vc (pI .i64 x24)), (8, .vc (pO b41 x39.length x39.length)), (19, .vc (pI .i64 v4)), (20, .vc (pI .i64 x24)), (34, .vc (pS cI v6.pivots)), (35, .vc (pI .i64 (v6.pivots.length : Int))), (36, .vc (pI .i64 x64))] a w) K (fun a w ⟨_, _, hF, _, _⟩ => by cases hF) (fun k a w ⟨x58, x64, hF, q62, hh⟩ => r_at ?_ hh) (fun a w hh => ⟨x48, 0, hL, (stL_len h49 rfl), hs_back [0, 1, 2] rfl (by decide) (by exact ⟨rfl, rfl, rfl, rfl, rfl, rfl, rfl, rfl, rfl, rfl, trivial⟩) hh⟩)
    rw [F_matrix_Kernel_l71.eq_2] at hF
    refine r_seq (r_reg (r_op (t_lt rfl) ⟨rfl, rfl, trivial⟩ ?_))
    refine r_nil (r_next (r_seq (r_if rfl (fun h82 => ?_) (fun h82 => ?_))))
    · have hF := cnd_t h82 hF
      refine r_skip (r_next (r_seq (r_blk (r_seq (r_reg (r_mv ?_))))))
      obtain ⟨v83, h84, hF⟩ := bnd hF
      refine r_op (t_ix rfl tyS22 h84) ⟨rfl, rfl, trivial⟩ ?_
      refine r_op (t_lM 1 rfl rfl (.one tyO3)) ⟨rfl, trivial⟩ ?_
      refine r_as ?_
      refine r_as ?_
      refine r_nil (r_next (r_reg (r_mv ?_)))
      refine r_mv ?_
      refine r_op (t_fa (off := 0) (k := 0) rfl tyF136_0) ⟨rfl, trivial⟩ ?_
      refine r_op (t_l 2 1 rfl rfl rfl rfl (.one tyO47)) ⟨rfl, trivial⟩ ?_
      refine r_mv ?_
      obtain ⟨v85, h86, hF⟩ := bnd hF
      refine r_op (t_ix rfl tyS47 h86) ⟨rfl, rfl, trivial⟩ ?_
      refine r_op (t_lM 1 rfl rfl (.one tyO24)) ⟨rfl, trivial⟩ ?_
      refine r_mv ?_
      obtain ⟨v87, h88, hF⟩ := bnd hF
      refine r_op (t_ix rfl tyS24 h88) ⟨rfl, rfl, trivial⟩ ?_
      refine r_op (t_lM 4 rfl rfl (.agg tyA35)) ⟨rfl, trivial⟩ ?_
      obtain ⟨v89, h90, hF⟩ := bnd hF
      refine r_op (t_call rfl (qc_rat_Neg h90) rfl) ⟨rfl, trivial⟩ ?_
      obtain ⟨v91, h92, hF⟩ := bnd hF
      refine r_op (t_ixE (C := cQ) 0 rfl tyS24 rfl q62 (rdL_some h92).1 (rdL_some h92).2.1) ⟨rfl, rfl, trivial⟩ ?_
      obtain ⟨x93, h94, hF⟩ := bnd hF
      refine r_op0 (t_stE 0 rfl rfl h92 h94 tyA35.s) ⟨rfl, rfl, trivial⟩ ?_
      refine r_nil (r_blkN (r_next (r_reg ?_)))
      obtain ⟨v96, h97, hF⟩ := bnd hF
      refine r_op (t_add rfl h97) ⟨rfl, k_I _ _, trivial⟩ ?_
      refine r_mv ?_
      refine r_nil ?_
      exact r_round (fun a w hh => ⟨x93, v96, hF, (stL_len h94 q62), hs_back [0, 1, 2] rfl (by decide) (by exact ⟨rfl, rfl, rfl, rfl, rfl, rfl, rfl, rfl, rfl, rfl, trivial⟩) hh⟩)
    have hF := cnd_f h82 hF
    refine r_brk ?_
    obtain rfl := sm1 hF
    exact r_backJ Jj72 ⟨x58, hRl71, q62, rfl, rfl⟩ [0, 1, 2] rfl ⟨rfl, rfl, rfl, rfl, rfl, rfl, trivial⟩
  have hF := cnd_f h33 hF
  refine r_brk ?_
  obtain rfl := sm1 hF
  exact r_backJ Jj32 ⟨x18, b19, c20, n21, hRl31, q22, rfl, rfl⟩ [0] rfl ⟨rfl, trivial⟩
def F_slices_Grow_Rat (a1 : Int) : Option (List Rat) :=
  bif (decide (a1 < 0)) then (none) else ((chk (((0 : Nat) : Int) - (([] : List Rat).length : Int))).bind fun v6 => (chk (a1 - v6)).bind fun v8 => bif (decide (0 < v8)) then ((mkP v8 (0 : Rat)).bind fun x11 => some ([] : List Rat)) else (some ([] : List Rat)))
theorem ctO_slices_Grow_Rat {a1 : Int} {r : List Rat} (hF : F_slices_Grow_Rat a1 = some r) : CtO Tryz.prog 156 [] [.vc (pO none 0 0), .vc (pI .i64 a1)] (fun Ho q => ∃ b20 c21 n19, r.length = n19 ∧ Ho = [hO cQ b20 c21 35 n19 r] ∧ q = .vc (pO b20 n19 c21)) := by
  unfold F_slices_Grow_Rat at hF
  refine ctO_intro Tryz.func156 rfl (by kernel_rfl) Tryz.ntmps156 rfl (fun w0 M0 => ?_)
  refine r_newC cQ 35 ?_
  refine r_seq (r_reg (r_nilO cQ 35 rfl ?_))
  refine r_nil (r_next (r_seq (r_seq (r_reg (r_mv ?_)))))
  refine r_op (t_lt rfl) ⟨rfl, k_I _ _, trivial⟩ ?_
  refine r_nil (r_next (r_if rfl (fun h5 => ?_) (fun h5 => ?_)))
  · have hF := cnd_t h5 hF
    refine r_reg ?_
    cases hF
  have hF := cnd_f h5 hF
  refine r_skip (r_next (r_seq (r_seq (r_reg (r_mv ?_)))))
  refine r_mv ?_
  refine r_op (t_capO (n := 0) (c := 0) rfl tyS24) ⟨rfl, trivial⟩ ?_
  refine r_mv ?_
  refine r_op (t_lnE (C := cQ) (xs := ([] : List Rat)) (T := 35) rfl tyS24 rfl) ⟨rfl, trivial⟩ ?_
  obtain ⟨v6, h7, hF⟩ := bnd hF
  refine r_op (t_sub rfl h7) ⟨rfl, rfl, trivial⟩ ?_
  obtain ⟨v8, h9, hF⟩ := bnd hF
  refine r_op (t_sub rfl h9) ⟨rfl, rfl, trivial⟩ ?_
  refine r_as ?_
  refine r_nil (r_next (r_seq (r_reg (r_mv ?_))))
  refine r_op (t_gt rfl) ⟨rfl, k_I _ _, trivial⟩ ?_
  refine r_nil (r_next (r_if rfl (fun h10 => ?_) (fun h10 => ?_)))
  · have hF := cnd_t h10 hF
    refine r_reg (r_mv ?_)
    refine r_mv ?_
    refine r_op (t_capO (n := 0) (c := 0) rfl tyS24) ⟨rfl, trivial⟩ ?_
    refine r_op (t_cut0 (C := cQ) 1 rfl tyS24 rfl (by first | rfl | simp) rfl) ⟨rfl, rfl, trivial⟩ ?_
    refine r_mv ?_
    obtain ⟨x11, h12, hF⟩ := bnd hF
    refine r_appZ (C := cQ) rfl tyS24 Tryz.underlying3 rfl tyZ35q rfl rfl (mkP_some h12).1 (mkP_some h12).2 (fun b13 c14 => ?_)
    refine r_mv ?_
    refine r_op (t_lnE (C := cQ) (xs := ([] : List Rat)) (T := 35) rfl tyS24 rfl) ⟨rfl, trivial⟩ ?_
    refine r_op (t_cut0 (C := cQ) 0 rfl tyS24 rfl (by first | rfl | simp) rfl) ⟨rfl, rfl, trivial⟩ ?_
    refine r_as ?_
    refine r_nil (r_next (r_seq (r_reg (r_mv ?_))))
    refine r_as ?_
    refine r_nil (r_next (r_ret (r_toR ?_)))
    obtain rfl := sm1 hF
    exact r_done (.inl rfl) Tryz.results156 (.tmp rfl .nil) rfl [0] rfl (by decide) ⟨b13, c14, 0, rfl, rfl, rfl⟩
  have hF := cnd_f h10 hF
  refine r_skip (r_next (r_seq (r_reg (r_mv ?_))))
  refine r_as ?_
  refine r_nil (r_next (r_ret (r_toR ?_)))
  obtain rfl := sm1 hF
  exact r_done (.inl rfl) Tryz.results156 (.tmp rfl .nil) rfl [1] rfl (by decide) ⟨none, 0, 0, rfl, rfl, rfl⟩
def F_slices_Concat_Rat_j37 (K : Nat) (x30 : List Rat) : Option (List Rat) :=
  some x30
def F_slices_Concat_Rat_l36 (K : Nat) (a0 : List (List Rat)) : Nat → (List Rat) → Int → Option (List Rat)
  | 0, _, _ => none
  | k + 1, x23, x29 => bif (decide (x29 < (a0.length : Int))) then ((rdL a0 x29).bind fun v39 => (apL x23 v39).bind fun x41 => (chk (x29 + 1)).bind fun v48 => F_slices_Concat_Rat_l36 K a0 k x41 v48) else (some x23)
def F_slices_Concat_Rat_j7 (K : Nat) (a0 : List (List Rat)) (x5 : Int) : Option (List Rat) :=
  (F_slices_Grow_Rat x5).bind fun v8 => (F_slices_Concat_Rat_l36 K a0 K v8 0).bind fun x30 => F_slices_Concat_Rat_j37 K x30
def F_slices_Concat_Rat_l6 (K : Nat) (a0 : List (List Rat)) : Nat → Int → Int → Option Int
  | 0, _, _ => none
  | k + 1, x3, x4 => bif (decide (x4 < (a0.length : Int))) then ((rdL a0 x4).bind fun v51 => (chk (x3 + (v51.length : Int))).bind fun v53 => bif (decide (v53 < 0)) then (none) else ((chk (x4 + 1)).bind fun v56 => F_slices_Concat_Rat_l6 K a0 k v53 v56)) else (some x3)
def F_slices_Concat_Rat (K : Nat) (a0 : List (List Rat)) : Option (List Rat) :=
  (F_slices_Concat_Rat_l6 K a0 K 0 0).bind fun x5 => F_slices_Concat_Rat_j7 K a0 x5
theorem ct_slices_Concat_Rat {K : Nat} {a0 : List (List Rat)} {r : List Rat} (hF : F_slices_Concat_Rat K a0 = some r) : Ct Tryz.prog 118 [.vc (pS (cSl cQ) a0)] (.vc (pS cQ r)) := by
  unfold F_slices_Concat_Rat at hF
  refine ctO_intro Tryz.func118 rfl (by kernel_rfl) Tryz.ntmps118 rfl (fun w0 M0 => ?_)
  refine r_seq (r_reg (r_op (t_mv (.inr rfl)) ⟨k_nil cQ, trivial⟩ ?_))
  refine r_nil (r_next (r_seq (r_reg (r_op (t_mv (.inr rfl)) ⟨k_I _ _, trivial⟩ ?_))))
  refine r_nil (r_next (r_seq (r_seq (r_reg (r_mv ?_)))))
  refine r_op (t_ln rfl tyS47) ⟨rfl, trivial⟩ ?_
  refine r_op (t_mv (.inl rfl)) ⟨k_I _ _, trivial⟩ ?_
  refine r_nil (r_next (r_blk (r_cutN (fun H E => ∃ (x5 : Int), F_slices_Concat_Rat_j7 K a0 x5 = some r ∧ H = [] ∧ E = [(0, .vc (pS (cSl cQ) a0)), (3, .vc (pI .i64 x5))]) ?_ (fun Jj7 => ?_))))
  · rintro _ _ ⟨x5, hF, rfl, rfl⟩
    unfold F_slices_Concat_Rat_j7 at hF
    refine r_next (r_seq (r_reg (r_mv ?_)))
    obtain ⟨v8, h9, hF⟩ := bnd hF
    refine r_callO [] [] rfl (ctO_slices_Grow_Rat h9) ⟨k_nilO, rfl, trivial⟩ rfl rfl (by decide) ?_
    rintro _ _ ⟨b11, c12, n13, q14, rfl, rfl⟩
    refine r_as ?_
    refine r_nil (r_next (r_seq (r_seq (r_reg (r_mv ?_)))))
    refine r_op (t_ln rfl tyS47) ⟨rfl, trivial⟩ ?_
    refine r_op (t_mv (.inl rfl)) ⟨k_I _ _, trivial⟩ ?_
    refine r_nil (r_next (r_blk (r_cutN (fun H E => ∃ (x30 : List Rat), ∃ (b31 : Option Nat), ∃ (c32 : Nat), ∃ (n33 : Nat), F_slices_Concat_Rat_j37 K x30 = some r ∧ x30.length = n33 ∧ H = [hO cQ b31 c32 35 n33 x30] ∧ E = [(6, .vc (pO b31 n33 c32))]) ?_ (fun Jj37 => ?_))))
    · rintro _ _ ⟨x30, b31, c32, n33, hF, q34, rfl, rfl⟩
      unfold F_slices_Concat_Rat_j37 at hF
      refine r_next (r_seq (r_reg (r_mv ?_)))
      refine r_as ?_
      refine r_nil (r_next (r_ret (r_toR (r_fzX 0 [2, 6, 35] rfl q34 ⟨rfl, rfl, rfl, trivial⟩ rfl ?_))))
      obtain rfl := sm1 hF
      exact r_done1 (.inl rfl) Tryz.results118 (.tmp rfl .nil) rfl rfl
    obtain ⟨x30', hL, hRl36⟩ := bnd hF
    refine r_lp (fun k a w => ∃ (x23 : List Rat), ∃ (x29 : Int), ∃ (b24 : Option Nat), ∃ (c25 : Nat), ∃ (n26 : Nat), F_slices_Concat_Rat_l36 K a0 k x23 x29 = some x30' ∧ x23.length = n26 ∧ hs _ [hO cQ b24 c25 35 n26 x23] [(6, .vc (pO b24 n26 c25)), (25, .vc (pS (cSl cQ) a0)), (26, .vc (pI .i64 (a0.length : Int))), (27, .vc (pI .i64 x29))] a w) K (fun a w ⟨_, _, _, _, _, hF, _, _⟩ => by cases hF) (fun k a w ⟨x23, x29, b24, c25, n26, hF, q27, hh⟩ => r_at ?_ hh) (fun a w hh => ⟨v8, 0, b11, c12, n13, hL, q14, hs_back [0] rfl (by decide) (by exact ⟨rfl, rfl, rfl, rfl, trivial⟩) hh⟩)
    rw [F_slices_Concat_Rat_l36.eq_2] at hF
    refine r_seq (r_reg (r_op (t_lt rfl) ⟨rfl, rfl, trivial⟩ ?_))
    refine r_nil (r_next (r_seq (r_if rfl (fun h38 => ?_) (fun h38 => ?_))))
    · have hF := cnd_t h38 hF
      refine r_skip (r_next (r_seq (r_blk (r_seq (r_reg ?_)))))
      obtain ⟨v39, h40, hF⟩ := bnd hF
      refine r_op (t_ix rfl tyS47 h40) ⟨rfl, rfl, trivial⟩ ?_
      refine r_op (t_lM 1 rfl rfl (.one tyO24)) ⟨rfl, trivial⟩ ?_
      refine r_as ?_
      refine r_nil (r_next (r_reg (r_mv ?_)))
      refine r_mv ?_
      obtain ⟨x41, h42, hF⟩ := bnd hF
      refine r_app 0 rfl tyS24 rfl rfl q27 rfl rfl h42 (fun b43 c44 H45 e46 => ?_)
      cases e46
      refine r_as ?_
      refine r_nil (r_blkN (r_next (r_reg ?_)))
      obtain ⟨v48, h49, hF⟩ := bnd hF
      refine r_op (t_add rfl h49) ⟨rfl, k_I _ _, trivial⟩ ?_
      refine r_mv ?_
      refine r_nil ?_
      exact r_round (fun a w hh => ⟨x41, v48, b43, c44, (n26 + v39.length), hF, (apL_len h42 q27), hs_back [0] rfl (by decide) (by exact ⟨rfl, rfl, rfl, rfl, trivial⟩) hh⟩)
    have hF := cnd_f h38 hF
    refine r_brk ?_
    obtain rfl := sm1 hF
    exact r_backJ Jj37 ⟨x23, b24, c25, n26, hRl36, q27, rfl, rfl⟩ [0] rfl ⟨rfl, trivial⟩
  obtain ⟨x5', hL, hRl6⟩ := bnd hF
  refine r_lp (fun k a w => ∃ (x3 : Int), ∃ (x4 : Int), F_slices_Concat_Rat_l6 K a0 k x3 x4 = some x5' ∧ hs _ [] [(0, .vc (pS (cSl cQ) a0)), (3, .vc (pI .i64 x3)), (9, .vc (pS (cSl cQ) a0)), (10, .vc (pI .i64 (a0.length : Int))), (11, .vc (pI .i64 x4))] a w) K (fun a w ⟨_, _, hF, _⟩ => by cases hF) (fun k a w ⟨x3, x4, hF, hh⟩ => r_at ?_ hh) (fun a w hh => ⟨0, 0, hL, hs_back [] rfl (by decide) (by exact ⟨rfl, rfl, rfl, rfl, rfl, trivial⟩) hh⟩)
  rw [F_slices_Concat_Rat_l6.eq_2] at hF
  refine r_seq (r_reg (r_op (t_lt rfl) ⟨rfl, rfl, trivial⟩ ?_))
  refine r_nil (r_next (r_seq (r_if rfl (fun h50 => ?_) (fun h50 => ?_))))
  · have hF := cnd_t h50 hF
    refine r_skip (r_next (r_seq (r_blk (r_seq (r_reg ?_)))))
    obtain ⟨v51, h52, hF⟩ := bnd hF
    refine r_op (t_ix rfl tyS47 h52) ⟨rfl, rfl, trivial⟩ ?_
    refine r_op (t_lM 1 rfl rfl (.one tyO24)) ⟨rfl, trivial⟩ ?_
    refine r_as ?_
    refine r_nil (r_next (r_seq (r_reg (r_mv ?_))))
    refine r_mv ?_
    refine r_op (t_ln rfl tyS24) ⟨rfl, trivial⟩ ?_
    obtain ⟨v53, h54, hF⟩ := bnd hF
    refine r_op (t_add rfl h54) ⟨rfl, rfl, trivial⟩ ?_
    refine r_as ?_
    refine r_nil (r_next (r_seq (r_reg (r_mv ?_))))
    refine r_op (t_lt rfl) ⟨rfl, k_I _ _, trivial⟩ ?_
    refine r_nil (r_next (r_if rfl (fun h55 => ?_) (fun h55 => ?_)))
    · have hF := cnd_t h55 hF
      refine r_reg ?_
      cases hF
    have hF := cnd_f h55 hF
    refine r_skip (r_blkN (r_next (r_reg ?_)))
    obtain ⟨v56, h57, hF⟩ := bnd hF
    refine r_op (t_add rfl h57) ⟨rfl, k_I _ _, trivial⟩ ?_
    refine r_mv ?_
    refine r_nil ?_
    exact r_round (fun a w hh => ⟨v53, v56, hF, hs_back [] rfl (by decide) (by exact ⟨rfl, rfl, rfl, rfl, rfl, trivial⟩) hh⟩)
  have hF := cnd_f h50 hF
  refine r_brk ?_
  obtain rfl := sm1 hF
  exact r_backJ Jj7 ⟨x3, hRl6, rfl, rfl⟩ [] rfl ⟨rfl, rfl, trivial⟩
def F_matrix_Inverse_j55 (K : Nat) (x48 : List (List Rat)) : Option ((List (List Rat)) × Int) :=
  some (x48, 0)
def F_matrix_Inverse_l54 (K : Nat) (a0 : List (List Rat)) (v28 : matrix_form) : Nat → (List (List Rat)) → Int → Option (List (List Rat))
  | 0, _, _ => none
  | k + 1, x41, x47 => bif (decide (x47 < (v28.rows.length : Int))) then ((rdL v28.rows x47).bind fun v57 => (slL v57 (a0.length : Int) (v57.length : Int)).bind fun x59 => (apL x41 [x59]).bind fun x61 => (chk (x47 + 1)).bind fun v68 => F_matrix_Inverse_l54 K a0 v28 k x61 v68) else (some x41)
def F_matrix_Inverse_j27 (K : Nat) (a0 : List (List Rat)) (x20 : List (List Rat)) : Option ((List (List Rat)) × Int) :=
  (F_matrix_reduce K x20 (a0.length : Int)).bind fun v28 => bif (decide ((v28.pivots.length : Int) < (a0.length : Int))) then (some ([], 6)) else ((F_matrix_Inverse_l54 K a0 v28 K ([] : List (List Rat)) 0).bind fun x48 => F_matrix_Inverse_j55 K x48)
def F_matrix_Inverse_l26 (K : Nat) (a0 : List (List Rat)) : Nat → (List (List Rat)) → Int → Option (List (List Rat))
  | 0, _, _ => none
  | k + 1, x13, x19 => bif (decide (x19 < (a0.length : Int))) then ((rdL a0 x19).bind fun v71 => (mkL (a0.length : Int) 0).bind fun x73 => (qof 1 1).bind fun v78 => (rdL x73 x19).bind fun v80 => (stL x73 x19 v78).bind fun x82 => (F_slices_Concat_Rat K [v71, x82]).bind fun v85 => (apL x13 [v85]).bind fun x87 => (chk (x19 + 1)).bind fun v94 => F_matrix_Inverse_l26 K a0 k x87 v94) else (some x13)
def F_matrix_Inverse (K : Nat) (a0 : List (List Rat)) : Option ((List (List Rat)) × Int) :=
  (F_matrix_square K a0).bind fun v1 => bif (!v1) then (some ([], 1)) else ((F_matrix_Inverse_l26 K a0 K ([] : List (List Rat)) 0).bind fun x20 => F_matrix_Inverse_j27 K a0 x20)
theorem ct_matrix_Inverse {K : Nat} {a0 : List (List Rat)} {r : (List (List Rat)) × Int} (hF : F_matrix_Inverse K a0 = some r) : Ct Tryz.prog 54 [.vc (pS (cSl cQ) a0)] (.t2 (.vc (pS (cSl cQ) r.1)) (.vc (pI .i64 r.2))) := by
  unfold F_matrix_Inverse at hF
  refine ctO_intro Tryz.func54 rfl (by kernel_rfl) Tryz.ntmps54 rfl (fun w0 M0 => ?_)
  refine r_seq (r_reg (r_op (t_mv (.inr rfl)) ⟨k_nil (cSl cQ), trivial⟩ ?_))
  refine r_op (t_mv (.inr rfl)) ⟨k_I _ _, trivial⟩ ?_
  refine r_nil (r_next (r_seq (r_seq (r_reg (r_mv ?_)))))
  obtain ⟨v1, h2, hF⟩ := bnd hF
  refine r_op (t_call rfl (ct_matrix_square h2) rfl) ⟨rfl, trivial⟩ ?_
  refine r_op (t_not rfl) ⟨rfl, trivial⟩ ?_
  refine r_nil (r_next (r_if rfl (fun h3 => ?_) (fun h3 => ?_)))
  · have hF := cnd_t h3 hF
    refine r_seq (r_reg (r_op (t_mv (.inr rfl)) ⟨k_nil (cSl cQ), trivial⟩ ?_))
    refine r_op (t_mv (.inr rfl)) ⟨k_I _ _, trivial⟩ ?_
    refine r_nil (r_next (r_ret (r_toR ?_)))
    obtain rfl := sm1 hF
    exact r_done1 (.inl rfl) Tryz.results54 (.tmp rfl (.tmp rfl .nil)) rfl rfl
  have hF := cnd_f h3 hF
  refine r_skip (r_next (r_seq (r_reg (r_mv ?_))))
  refine r_op (t_ln rfl tyS47) ⟨rfl, trivial⟩ ?_
  refine r_as ?_
  refine r_nil (r_next (r_seq (r_reg (r_nilO (cSl cQ) 24 rfl ?_))))
  refine r_nil (r_next (r_seq (r_seq (r_reg (r_mv ?_)))))
  refine r_op (t_ln rfl tyS47) ⟨rfl, trivial⟩ ?_
  refine r_op (t_mv (.inl rfl)) ⟨k_I _ _, trivial⟩ ?_
  refine r_nil (r_next (r_blk (r_cutN (fun H E => ∃ (x20 : List (List Rat)), ∃ (b21 : Option Nat), ∃ (c22 : Nat), ∃ (n23 : Nat), F_matrix_Inverse_j27 K a0 x20 = some r ∧ x20.length = n23 ∧ H = [hO (cSl cQ) b21 c22 24 n23 x20] ∧ E = [(4, .vc (pI .i64 (a0.length : Int))), (5, .vc (pO b21 n23 c22))]) ?_ (fun Jj27 => ?_))))
  · rintro _ _ ⟨x20, b21, c22, n23, hF, q24, rfl, rfl⟩
    unfold F_matrix_Inverse_j27 at hF
    refine r_next (r_seq (r_reg (r_mv ?_)))
    refine r_mv ?_
    refine r_fzL 0 [5, 39] rfl q24 ⟨rfl, rfl, trivial⟩ rfl ?_
    obtain ⟨v28, h29, hF⟩ := bnd hF
    refine r_op (t_call rfl (ct_matrix_reduce h29) rfl) ⟨rfl, rfl, trivial⟩ ?_
    refine r_alloc rfl tyZ136q (fun b30 => ?_)
    refine r_op0 (t_s 0 rfl rfl rfl tyA136.s) ⟨rfl, rfl, trivial⟩ ?_
    refine r_nil (r_next (r_seq (r_seq (r_reg (r_op (t_fa (off := 0) (k := 1) rfl tyF136_1) ⟨rfl, trivial⟩ ?_)))))
    refine r_op (t_l 0 1 rfl rfl rfl rfl (.one tyO22)) ⟨rfl, trivial⟩ ?_
    refine r_op (t_ln rfl tyS22) ⟨rfl, trivial⟩ ?_
    refine r_mv ?_
    refine r_op (t_lt rfl) ⟨rfl, rfl, trivial⟩ ?_
    refine r_nil (r_next (r_if rfl (fun h31 => ?_) (fun h31 => ?_)))
    · have hF := cnd_t h31 hF
      refine r_seq (r_reg (r_op (t_mv (.inr rfl)) ⟨k_nil (cSl cQ), trivial⟩ ?_))
      refine r_op (t_mv (.inr rfl)) ⟨k_I _ _, trivial⟩ ?_
      refine r_nil (r_next (r_ret (r_toR ?_)))
      obtain rfl := sm1 hF
      exact r_done1 (.inl rfl) Tryz.results54 (.tmp rfl (.tmp rfl .nil)) rfl rfl
    have hF := cnd_f h31 hF
    refine r_skip (r_next (r_seq (r_reg (r_nilO (cSl cQ) 24 rfl ?_))))
    refine r_nil (r_next (r_seq (r_seq (r_reg (r_op (t_fa (off := 0) (k := 0) rfl tyF136_0) ⟨rfl, trivial⟩ ?_)))))
    refine r_op (t_l 1 1 rfl rfl rfl rfl (.one tyO47)) ⟨rfl, trivial⟩ ?_
    refine r_op (t_ln rfl tyS47) ⟨rfl, trivial⟩ ?_
    refine r_op (t_mv (.inl rfl)) ⟨k_I _ _, trivial⟩ ?_
    refine r_nil (r_next (r_blk (r_cutN (fun H E => ∃ (x48 : List (List Rat)), ∃ (b49 : Option Nat), ∃ (c50 : Nat), ∃ (n51 : Nat), F_matrix_Inverse_j55 K x48 = some r ∧ x48.length = n51 ∧ H = [hO (cSl cQ) b49 c50 24 n51 x48] ∧ E = [(10, .vc (pO b49 n51 c50))]) ?_ (fun Jj55 => ?_))))
    · rintro _ _ ⟨x48, b49, c50, n51, hF, q52, rfl, rfl⟩
      unfold F_matrix_Inverse_j55 at hF
      refine r_next (r_seq (r_reg (r_mv ?_)))
      refine r_as ?_
      refine r_op (t_mv (.inr rfl)) ⟨k_I _ _, trivial⟩ ?_
      refine r_nil (r_next (r_ret (r_toR (r_fzX 0 [2, 10, 61] rfl q52 ⟨rfl, rfl, rfl, trivial⟩ rfl ?_))))
      obtain rfl := sm1 hF
      exact r_done1 (.inl rfl) Tryz.results54 (.tmp rfl (.tmp rfl .nil)) rfl rfl
    obtain ⟨x48', hL, hRl54⟩ := bnd hF
    refine r_lp (fun k a w => ∃ (x41 : List (List Rat)), ∃ (x47 : Int), ∃ (b42 : Option Nat), ∃ (c43 : Nat), ∃ (n44 : Nat), F_matrix_Inverse_l54 K a0 v28 k x41 x47 = some x48' ∧ x41.length = n44 ∧ hs _ [hO (cSl cQ) b42 c43 24 n44 x41] [(4, .vc (pI .i64 (a0.length : Int))), (10, .vc (pO b42 n44 c43)), (48, .vc (pS (cSl cQ) v28.rows)), (49, .vc (pI .i64 (v28.rows.length : Int))), (50, .vc (pI .i64 x47))] a w) K (fun a w ⟨_, _, _, _, _, hF, _, _⟩ => by cases hF) (fun k a w ⟨x41, x47, b42, c43, n44, hF, q45, hh⟩ => r_at ?_ hh) (fun a w hh => ⟨([] : List (List Rat)), 0, none, 0, 0, hL, rfl, hs_back [0] rfl (by decide) (by exact ⟨rfl, rfl, rfl, rfl, rfl, trivial⟩) hh⟩)
    rw [F_matrix_Inverse_l54.eq_2] at hF
    refine r_seq (r_reg (r_op (t_lt rfl) ⟨rfl, rfl, trivial⟩ ?_))
    refine r_nil (r_next (r_seq (r_if rfl (fun h56 => ?_) (fun h56 => ?_))))
    · have hF := cnd_t h56 hF
      refine r_skip (r_next (r_seq (r_blk (r_seq (r_reg ?_)))))
      obtain ⟨v57, h58, hF⟩ := bnd hF
      refine r_op (t_ix rfl tyS47 h58) ⟨rfl, rfl, trivial⟩ ?_
      refine r_op (t_lM 1 rfl rfl (.one tyO24)) ⟨rfl, trivial⟩ ?_
      refine r_as ?_
      refine r_nil (r_next (r_reg (r_mv ?_)))
      refine r_mv ?_
      refine r_mv ?_
      obtain ⟨x59, h60, hF⟩ := bnd hF
      refine r_op (t_cutL rfl tyS24 h60) ⟨rfl, rfl, trivial⟩ ?_
      refine r_op (t_bs (C := (cSl cQ)) (xs := [.tmp 57]) (ps := [.vc (pS cQ x59)]) (zs := [x59]) rfl tyS47 rfl ⟨⟨trivial, rfl⟩, trivial⟩ rfl) ⟨rfl, trivial⟩ ?_
      obtain ⟨x61, h62, hF⟩ := bnd hF
      refine r_app 0 rfl tyS47 rfl rfl q45 rfl rfl h62 (fun b63 c64 H65 e66 => ?_)
      cases e66
      refine r_as ?_
      refine r_nil (r_blkN (r_next (r_reg ?_)))
      obtain ⟨v68, h69, hF⟩ := bnd hF
      refine r_op (t_add rfl h69) ⟨rfl, k_I _ _, trivial⟩ ?_
      refine r_mv ?_
      refine r_nil ?_
      exact r_round (fun a w hh => ⟨x61, v68, b63, c64, (n44 + [x59].length), hF, (apL_len h62 q45), hs_back [0] rfl (by decide) (by exact ⟨rfl, rfl, rfl, rfl, rfl, trivial⟩) hh⟩)
    have hF := cnd_f h56 hF
    refine r_brk ?_
    obtain rfl := sm1 hF
    exact r_backJ Jj55 ⟨x41, b42, c43, n44, hRl54, q45, rfl, rfl⟩ [0] rfl ⟨rfl, trivial⟩
  obtain ⟨x20', hL, hRl26⟩ := bnd hF
  refine r_lp (fun k a w => ∃ (x13 : List (List Rat)), ∃ (x19 : Int), ∃ (b14 : Option Nat), ∃ (c15 : Nat), ∃ (n16 : Nat), F_matrix_Inverse_l26 K a0 k x13 x19 = some x20' ∧ x13.length = n16 ∧ hs _ [hO (cSl cQ) b14 c15 24 n16 x13] [(4, .vc (pI .i64 (a0.length : Int))), (5, .vc (pO b14 n16 c15)), (18, .vc (pS (cSl cQ) a0)), (19, .vc (pI .i64 (a0.length : Int))), (20, .vc (pI .i64 x19))] a w) K (fun a w ⟨_, _, _, _, _, hF, _, _⟩ => by cases hF) (fun k a w ⟨x13, x19, b14, c15, n16, hF, q17, hh⟩ => r_at ?_ hh) (fun a w hh => ⟨([] : List (List Rat)), 0, none, 0, 0, hL, rfl, hs_back [0] rfl (by decide) (by exact ⟨rfl, rfl, rfl, rfl, rfl, trivial⟩) hh⟩)
  rw [F_matrix_Inverse_l26.eq_2] at hF
  refine r_seq (r_reg (r_op (t_lt rfl) ⟨rfl, rfl, trivial⟩ ?_))
  refine r_nil (r_next (r_seq (r_if rfl (fun h70 => ?_) (fun h70 => ?_))))
  · have hF := cnd_t h70 hF
    refine r_skip (r_next (r_seq (r_blk (r_seq (r_reg (r_mv ?_))))))
    obtain ⟨v71, h72, hF⟩ := bnd hF
    refine r_op (t_ix rfl tyS47 h72) ⟨rfl, rfl, trivial⟩ ?_
    refine r_op (t_lM 1 rfl rfl (.one tyO24)) ⟨rfl, trivial⟩ ?_
    refine r_as ?_
    refine r_as ?_
    refine r_nil (r_next (r_seq (r_reg (r_mv ?_))))
    obtain ⟨x73, h74, hF⟩ := bnd hF
    refine r_make (C := cQ) rfl tyS24 rfl tyZ35q rfl h74 (fun b75 => ?_)
    refine r_as ?_
    refine r_nil (r_next (r_seq (r_reg (r_mv ?_))))
    refine r_mv ?_
    obtain ⟨v78, h79, hF⟩ := bnd hF
    refine r_op (t_call rfl (qc_rat_Of h79) rfl) ⟨k_I _ _, k_I _ _, trivial⟩ ?_
    obtain ⟨v80, h81, hF⟩ := bnd hF
    refine r_op (t_ixE (C := cQ) 0 rfl tyS24 rfl rfl (rdL_some h81).1 (rdL_some h81).2.1) ⟨rfl, rfl, trivial⟩ ?_
    obtain ⟨x82, h83, hF⟩ := bnd hF
    refine r_op0 (t_stE 0 rfl rfl h81 h83 tyA35.s) ⟨rfl, rfl, trivial⟩ ?_
    refine r_nil (r_next (r_reg (r_mv ?_)))
    refine r_mv ?_
    refine r_mv ?_
    refine r_fzL 0 [8, 26, 27, 33] rfl (stL_len h83 rfl) ⟨rfl, rfl, rfl, rfl, trivial⟩ rfl ?_
    refine r_op (t_bs (C := (cSl cQ)) (xs := [.tmp 32, .tmp 33]) (ps := [.vc (pS cQ v71), .vc (pS cQ x82)]) (zs := [v71, x82]) rfl tyS47 rfl ⟨⟨trivial, rfl⟩, ⟨trivial, rfl⟩, trivial⟩ rfl) ⟨rfl, rfl, trivial⟩ ?_
    obtain ⟨v85, h86, hF⟩ := bnd hF
    refine r_op (t_call rfl (ct_slices_Concat_Rat h86) rfl) ⟨rfl, trivial⟩ ?_
    refine r_op (t_bs (C := (cSl cQ)) (xs := [.tmp 35]) (ps := [.vc (pS cQ v85)]) (zs := [v85]) rfl tyS47 rfl ⟨⟨trivial, rfl⟩, trivial⟩ rfl) ⟨rfl, trivial⟩ ?_
    obtain ⟨x87, h88, hF⟩ := bnd hF
    refine r_app 0 rfl tyS47 rfl rfl q17 rfl rfl h88 (fun b89 c90 H91 e92 => ?_)
    cases e92
    refine r_as ?_
    refine r_nil (r_blkN (r_next (r_reg ?_)))
    obtain ⟨v94, h95, hF⟩ := bnd hF
    refine r_op (t_add rfl h95) ⟨rfl, k_I _ _, trivial⟩ ?_
    refine r_mv ?_
    refine r_nil ?_
    exact r_round (fun a w hh => ⟨x87, v94, b89, c90, (n16 + [v85].length), hF, (apL_len h88 q17), hs_back [0] rfl (by decide) (by exact ⟨rfl, rfl, rfl, rfl, rfl, trivial⟩) hh⟩)
  have hF := cnd_f h70 hF
  refine r_brk ?_
  obtain rfl := sm1 hF
  exact r_backJ Jj27 ⟨x13, b14, c15, n16, hRl26, q17, rfl, rfl⟩ [0] rfl ⟨rfl, rfl, trivial⟩
def F_matrix_Positive_j78 (K : Nat) : Option Bool :=
  some true
def F_matrix_Positive_j106 (K : Nat) (x64 : List Nat) (x76 : Int) (recl77 : (List Nat) → (List (List Rat)) → Int → Option (LR Bool Unit)) (x101 : List (List Rat)) : Option (LR Bool Unit) :=
  (chk (x76 + 1)).bind fun v107 => recl77 x64 x101 v107
def F_matrix_Positive_j135 (K : Nat) (x100 : Int) (recl105 : (List (List Rat)) → Int → Option (List (List Rat))) (x130 : List (List Rat)) : Option (List (List Rat)) :=
  (chk (x100 + 1)).bind fun v136 => recl105 x130 v136
def F_matrix_Positive_l134 (K : Nat) (v80 : Nat) (v110 : Nat) (v118 : Rat) : Nat → (List (List Rat)) → Int → Option (List (List Rat))
  | 0, _, _ => none
  | k + 1, x125, x129 => bif (decide (x129 < ((x125.getD v110 []).length : Int))) then ((qsgn v118).bind fun v139 => bif (v139 != 0) then ((rdL (x125.getD v110 []) x129).bind fun v144 => (rdL (x125.getD v80 []) x129).bind fun v146 => (qmul v118 v146).bind fun v148 => (qsub v144 v148).bind fun v150 => (rdL (x125.getD v110 []) x129).bind fun v152 => (stL (x125.getD v110 []) x129 v150).bind fun x154 => (chk (x129 + 1)).bind fun v157 => F_matrix_Positive_l134 K v80 v110 v118 k (x125.set v110 x154) v157) else (some x125)) else (some x125)
def F_matrix_Positive_l105 (K : Nat) (x64 : List Nat) (x76 : Int) (v80 : Nat) (v87 : Int) (x89 : List (List Rat)) : Nat → (List (List Rat)) → Int → Option (List (List Rat))
  | 0, _, _ => none
  | k + 1, x96, x100 => bif (decide (x100 < (x89.length : Int))) then ((rdL (x64.drop v87.toNat) x100).bind fun v110 => (rdL (x96.getD v110 []) x76).bind fun v114 => (rdL (x96.getD v80 []) x76).bind fun v116 => (qdiv v114 v116).bind fun v118 => (F_matrix_Positive_l134 K v80 v110 v118 K x96 x76).bind fun x130 => F_matrix_Positive_j135 K x100 (F_matrix_Positive_l105 K x64 x76 v80 v87 x89 k) x130) else (some x96)
def F_matrix_Positive_l77 (K : Nat) (x37 : List Nat) : Nat → (List Nat) → (List (List Rat)) → Int → Option (LR Bool Unit)
  | 0, _, _, _ => none
  | k + 1, x64, x70, x76 => bif (decide (x76 < (x37.length : Int))) then ((rdL x64 x76).bind fun v80 => (rdL (x70.getD v80 []) x76).bind fun v82 => (qsgn v82).bind fun v84 => bif (decide (v84 ≤ 0)) then (some (.ret false)) else ((chk (x76 + 1)).bind fun v87 => (slL (selL x70 x64) v87 ((selL x70 x64).length : Int)).bind fun x89 => (F_matrix_Positive_l105 K x64 x76 v80 v87 x89 K x70 0).bind fun x101 => F_matrix_Positive_j106 K x64 x76 (F_matrix_Positive_l77 K x37 k) x101)) else (some (.go ()))
def F_matrix_Positive_j50 (K : Nat) (x37 : List Nat) (x43 : List (List Rat)) : Option Bool :=
  (F_matrix_Positive_l77 K x37 K x37 x43 0).bind fun o => match o with | .ret r => some r | .go _ => F_matrix_Positive_j78 K 
def F_matrix_Positive_j165 (K : Nat) (x24 : List Nat) (x30 : List (List Rat)) (x36 : Int) (v160 : List Rat) (recl49 : (List Nat) → (List (List Rat)) → Int → Option (LR Bool ((List Nat) × (List (List Rat))))) : Option (LR Bool ((List Nat) × (List (List Rat)))) :=
  (F_slices_Clone_Rat v160).bind fun v166 => (rdL x24 x36).bind fun v174 => (stL x24 x36 x30.length).bind fun x176 => (chk (x36 + 1)).bind fun v180 => recl49 x176 (x30 ++ [v166]) v180
def F_matrix_Positive_l164 (K : Nat) (a0 : List (List Rat)) (x36 : Int) (v160 : List Rat) : Nat → Int → Option (LR Bool Unit)
  | 0, _ => none
  | k + 1, x163 => bif (decide (x163 < x36)) then ((rdL v160 x163).bind fun v185 => (rdL a0 x163).bind fun v187 => (rdL v187 x36).bind fun v189 => (qsame v185 v189).bind fun v191 => bif (!v191) then (some (.ret false)) else ((chk (x163 + 1)).bind fun v194 => F_matrix_Positive_l164 K a0 x36 v160 k v194)) else (some (.go ()))
def F_matrix_Positive_l49 (K : Nat) (a0 : List (List Rat)) : Nat → (List Nat) → (List (List Rat)) → Int → Option (LR Bool ((List Nat) × (List (List Rat))))
  | 0, _, _, _ => none
  | k + 1, x24, x30, x36 => bif (decide (x36 < (a0.length : Int))) then ((rdL a0 x36).bind fun v160 => (F_matrix_Positive_l164 K a0 x36 v160 K 0).bind fun o => match o with | .ret r => some (.ret r) | .go _ => F_matrix_Positive_j165 K x24 x30 x36 v160 (F_matrix_Positive_l49 K a0 k) ) else (some (.go (x24, x30)))
def F_matrix_Positive (K : Nat) (a0 : List (List Rat)) : Option Bool :=
  (F_matrix_square K a0).bind fun v1 => bif (!v1) then (some false) else ((mkL (a0.length : Int) (0 : Nat)).bind fun x7 => (F_matrix_Positive_l49 K a0 K x7 [([] : List Rat)] 0).bind fun o => match o with | .ret r => some r | .go (x37, x43) => F_matrix_Positive_j50 K x37 x43)
theorem ct_matrix_Positive {K : Nat} {a0 : List (List Rat)} {r : Bool} (hF : F_matrix_Positive K a0 = some r) : Ct Tryz.prog 55 [.vc (pS (cSl cQ) a0)] (.vc (pB r)) := by
  unfold F_matrix_Positive at hF
  refine ctO_intro Tryz.func55 rfl (by kernel_rfl) Tryz.ntmps55 rfl (fun w0 M0 => ?_)
  refine r_seq (r_reg (r_op (t_mv (.inr rfl)) ⟨k_B _, trivial⟩ ?_))
  refine r_nil (r_next (r_seq (r_seq (r_reg (r_mv ?_)))))
  obtain ⟨v1, h2, hF⟩ := bnd hF
  refine r_op (t_call rfl (ct_matrix_square h2) rfl) ⟨rfl, trivial⟩ ?_
  refine r_op (t_not rfl) ⟨rfl, trivial⟩ ?_
  refine r_nil (r_next (r_if rfl (fun h3 => ?_) (fun h3 => ?_)))
  · have hF := cnd_t h3 hF
    refine r_seq (r_reg (r_op (t_mv (.inr rfl)) ⟨k_B _, trivial⟩ ?_))
    refine r_nil (r_next (r_ret (r_toR ?_)))
    obtain rfl := sm1 hF
    exact r_done1 (.inl rfl) Tryz.results55 (.tmp rfl .nil) rfl rfl
  have hF := cnd_f h3 hF
  refine r_skip (r_next (r_seq (r_reg (r_mv ?_))))
  refine r_op (t_ln rfl tyS47) ⟨rfl, trivial⟩ ?_
  obtain ⟨x7, h8, hF⟩ := bnd hF
  refine r_nest1 cQ 35 ?_
  refine r_make (C := cH [(none, 0, 0)]) (z := 0) rfl tyS47 rfl tyZ24_oq rfl h8 (fun b6 => ?_)
  refine r_as ?_
  refine r_nil (r_next (r_seq (r_seq (r_reg (r_mv ?_)))))
  refine r_op (t_ln rfl tyS47) ⟨rfl, trivial⟩ ?_
  refine r_op (t_mv (.inl rfl)) ⟨k_I _ _, trivial⟩ ?_
  refine r_nil (r_next (r_blk (r_cutN (fun H E => ∃ (x37 : List Nat), ∃ (x43 : List (List Rat)), ∃ (b38 : Option Nat), ∃ (c39 : Nat), ∃ (n40 : Nat), ∃ (g44 : List Hdr), ∃ (N45 : Nat), F_matrix_Positive_j50 K x37 x43 = some r ∧ x37.length = n40 ∧ x43.length = N45 ∧ LenOk g44 x43 ∧ (∀ k ∈ x37, k < N45) ∧ H = ([hO (cH g44) b38 c39 24 n40 x37] ++ inn cQ 35 g44 x43) ∧ E = [(3, .vc (pO b38 n40 c39))]) ?_ (fun Jj50 => ?_))))
  · rintro _ _ ⟨x37, x43, b38, c39, n40, g44, N45, hF, q41, q46, q47, q48, rfl, rfl⟩
    unfold F_matrix_Positive_j50 at hF
    refine r_next (r_seq (r_seq (r_reg (r_mv ?_))))
    refine r_op (t_lnE (C := (cH g44)) (xs := x37) (T := 24) rfl tyS47 q41) ⟨rfl, trivial⟩ ?_
    refine r_op (t_mv (.inl rfl)) ⟨k_I _ _, trivial⟩ ?_
    refine r_nil (r_next (r_blk (r_cutN (fun H E => F_matrix_Positive_j78 K = some r ∧ H = [] ∧ E = []) ?_ (fun Jj78 => ?_))))
    · rintro _ _ ⟨hF, rfl, rfl⟩
      unfold F_matrix_Positive_j78 at hF
      refine r_next (r_seq (r_reg (r_op (t_mv (.inr rfl)) ⟨k_B _, trivial⟩ ?_)))
      refine r_nil (r_next (r_ret (r_toR ?_)))
      obtain rfl := sm1 hF
      exact r_done1 (.inl rfl) Tryz.results55 (.tmp rfl .nil) rfl rfl
    obtain ⟨ol77, hL, hRl77⟩ := bnd hF
    refine r_lp (fun k a w => ∃ (x64 : List Nat), ∃ (x70 : List (List Rat)), ∃ (x76 : Int), ∃ (b65 : Option Nat), ∃ (c66 : Nat), ∃ (n67 : Nat), ∃ (g71 : List Hdr), ∃ (N72 : Nat), F_matrix_Positive_l77 K x37 k x64 x70 x76 = some ol77 ∧ x64.length = n67 ∧ x70.length = N72 ∧ LenOk g71 x70 ∧ (∀ k ∈ x64, k < N72) ∧ hs _ ([hO (cH g71) b65 c66 24 n67 x64] ++ inn cQ 35 g71 x70) [(3, .vc (pO b65 n67 c66)), (50, .vc (pO b65 n67 c66)), (51, .vc (pI .i64 (x37.length : Int))), (52, .vc (pI .i64 x76))] a w) K (fun a w ⟨_, _, _, _, _, _, _, _, hF, _, _, _, _, _⟩ => by cases hF) (fun k a w ⟨x64, x70, x76, b65, c66, n67, g71, N72, hF, q68, q73, q74, q75, hh⟩ => r_at ?_ hh) (fun a w hh => ⟨x37, x43, 0, b38, c39, n40, g44, N45, hL, q41, q46, q47, q48, hs_backA 1 [0] rfl rfl (by decide) (by exact ⟨rfl, rfl, rfl, rfl, trivial⟩) hh⟩)
    rw [F_matrix_Positive_l77.eq_2] at hF
    refine r_seq (r_reg (r_op (t_lt rfl) ⟨rfl, rfl, trivial⟩ ?_))
    refine r_nil (r_next (r_seq (r_if rfl (fun h79 => ?_) (fun h79 => ?_))))
    · have hF := cnd_t h79 hF
      refine r_skip (r_next (r_seq (r_blk (r_seq (r_reg (r_mv ?_))))))
      obtain ⟨v80, h81, hF⟩ := bnd hF
      refine r_op (t_ixE (C := (cH g71)) 0 rfl tyS47 rfl q68 (rdL_some h81).1 (rdL_some h81).2.1) ⟨rfl, rfl, trivial⟩ ?_
      refine r_op (t_ldE (C := (cH g71)) (k := 1) 0 rfl rfl h81 rfl (.one tyO24) rfl) ⟨rfl, trivial⟩ ?_
      refine r_as ?_
      refine r_as ?_
      refine r_nil (r_next (r_seq (r_seq (r_reg (r_mv ?_)))))
      refine r_mv ?_
      obtain ⟨v82, h83, hF⟩ := bnd hF
      refine r_op (t_ixE (1 + v80) rfl tyS24 (inn_p 1 rfl q74 q73 (q75 _ (rdL_mem h81))) (row_len q74 q73 (q75 _ (rdL_mem h81))) (rdL_some h83).1 (rdL_some h83).2.1) ⟨rfl, rfl, trivial⟩ ?_
      refine r_op (t_ldE (k := 4) (1 + v80) rfl (inn_p 1 rfl q74 q73 (q75 _ (rdL_mem h81))) h83 rfl (.agg tyA35) rfl) ⟨rfl, trivial⟩ ?_
      obtain ⟨v84, h85, hF⟩ := bnd hF
      refine r_op (t_call rfl (qc_rat_Sign h85) rfl) ⟨rfl, trivial⟩ ?_
      refine r_op (t_le rfl) ⟨rfl, k_I _ _, trivial⟩ ?_
      refine r_nil (r_next (r_if rfl (fun h86 => ?_) (fun h86 => ?_)))
      · have hF := cnd_t h86 hF
        refine r_seq (r_reg (r_op (t_mv (.inr rfl)) ⟨k_B _, trivial⟩ ?_))
        refine r_nil (r_next (r_ret (r_toR ?_)))
        obtain rfl := sm1 hF
        obtain rfl := sm1 hRl77
        exact r_done1 (.inl rfl) Tryz.results55 (.tmp rfl .nil) rfl rfl
      have hF := cnd_f h86 hF
      refine r_skip (r_next (r_seq (r_reg (r_mv ?_))))
      refine r_mv ?_
      obtain ⟨v87, h88, hF⟩ := bnd hF
      refine r_op (t_add rfl h88) ⟨rfl, k_I _ _, trivial⟩ ?_
      obtain ⟨x89, h90, hF⟩ := bnd hF
      refine r_op (t_cutC (i := 0) rfl tyS47 rfl rfl rfl rfl (cut_lo h90).1 (cut_hi h90 q68)) ⟨rfl, rfl, trivial⟩ ?_
      refine r_op (t_lnC rfl tyS47 (cut_len h90 q68)) ⟨rfl, trivial⟩ ?_
      refine r_op (t_mv (.inl rfl)) ⟨k_I _ _, trivial⟩ ?_
      refine r_nil (r_next (r_blk (r_cutN (fun H E => ∃ (x101 : List (List Rat)), F_matrix_Positive_j106 K x64 x76 (F_matrix_Positive_l77 K x37 k) x101 = some ol77 ∧ x101.length = N72 ∧ LenOk g71 x101 ∧ H = ([hO (cH g71) b65 c66 24 n67 x64] ++ inn cQ 35 g71 x101) ∧ E = [(3, .vc (pO b65 n67 c66)), (50, .vc (pO b65 n67 c66)), (51, .vc (pI .i64 (x37.length : Int))), (52, .vc (pI .i64 x76))]) ?_ (fun Jj106 => ?_))))
      · rintro _ _ ⟨x101, hF, q102, q103, rfl, rfl⟩
        unfold F_matrix_Positive_j106 at hF
        refine r_blkN (r_next (r_reg ?_))
        obtain ⟨v107, h108, hF⟩ := bnd hF
        refine r_op (t_add rfl h108) ⟨rfl, k_I _ _, trivial⟩ ?_
        refine r_mv ?_
        refine r_nil ?_
        exact r_round (fun a w hh => ⟨x64, x101, v107, b65, c66, n67, g71, N72, hF, q68, q102, q103, q75, hs_backA 1 [0] rfl rfl (by decide) (by exact ⟨rfl, rfl, rfl, rfl, trivial⟩) hh⟩)
      obtain ⟨x101', hL, hRl105⟩ := bnd hF
      refine r_lp (fun k a w => ∃ (x96 : List (List Rat)), ∃ (x100 : Int), F_matrix_Positive_l105 K x64 x76 v80 v87 x89 k x96 x100 = some x101' ∧ x96.length = N72 ∧ LenOk g71 x96 ∧ hs _ ([hO (cH g71) b65 c66 24 n67 x64] ++ inn cQ 35 g71 x96) [(3, .vc (pO b65 n67 c66)), (7, .vc (pI .i64 x76)), (8, .vc (pO (hdr g71 v80).1 (hdr g71 v80).2.1 (hdr g71 v80).2.2)), (50, .vc (pO b65 n67 c66)), (51, .vc (pI .i64 (x37.length : Int))), (52, .vc (pI .i64 x76)), (66, .vc (pC (pO b65 n67 c66) v87.toNat 1)), (67, .vc (pI .i64 (x89.length : Int))), (68, .vc (pI .i64 x100))] a w) K (fun a w ⟨_, _, hF, _, _, _⟩ => by cases hF) (fun k a w ⟨x96, x100, hF, q97, q98, hh⟩ => r_at ?_ hh) (fun a w hh => ⟨x70, 0, hL, q73, q74, hs_backA 1 [0] rfl rfl (by decide) (by exact ⟨rfl, rfl, rfl, rfl, rfl, rfl, rfl, rfl, rfl, trivial⟩) hh⟩)
      rw [F_matrix_Positive_l105.eq_2] at hF
      refine r_seq (r_reg (r_op (t_lt rfl) ⟨rfl, rfl, trivial⟩ ?_))
      refine r_nil (r_next (r_seq (r_if rfl (fun h109 => ?_) (fun h109 => ?_))))
      · have hF := cnd_t h109 hF
        refine r_skip (r_next (r_seq (r_blk (r_seq (r_reg ?_)))))
        obtain ⟨v110, h111, hF⟩ := bnd hF
        refine r_op (t_ixC (C := (cH g71)) 0 rfl tyS47 rfl q68 (cut_lo h90).1 h111) ⟨rfl, rfl, trivial⟩ ?_
        refine r_op (t_ldE (C := (cH g71)) (k := 1) 0 rfl rfl (rdL_dropI (cut_lo h90).1 h111) rfl (.one tyO24) rfl) ⟨rfl, trivial⟩ ?_
        refine r_as ?_
        refine r_nil (r_next (r_seq ?_))
        obtain ⟨v114, h115, hF⟩ := bnd hF
        obtain ⟨v116, h117, hF⟩ := bnd hF
        obtain ⟨v118, h119, hF⟩ := bnd hF
        refine r_draw [0, 0, 3, 7, 0, 0, 48, 112, 255, 0, 1023] 10 1 [.v (.vc (pO (hdr g71 v110).1 (hdr g71 v110).2.1 (hdr g71 v110).2.2)), .v (.vc (pI .i64 x76)), .v (.vc (pE (hdr g71 v110).1 x76 cQ.n 0)), .v (.va (eQ v114)), .v (.vc (pO (hdr g71 v80).1 (hdr g71 v80).2.1 (hdr g71 v80).2.2)), .v (.vc (pI .i64 x76)), .v (.vc (pE (hdr g71 v80).1 x76 cQ.n 0)), .v (.va (eQ v116)), .v (.va (eQ v118)), .a 35 (eQ 0)] Tryz_mixed ⟨d0 (t_mv (.inl rfl)) ⟨rfl, trivial⟩, d0 (t_mv (.inl rfl)) ⟨rfl, trivial⟩, d0 (t_ixE (1 + v110) rfl tyS24 (inn_pA 1 rfl q98 q97 (q75 _ (rdL_mem (rdL_dropI (cut_lo h90).1 h111)))) (row_len q98 q97 (q75 _ (rdL_mem (rdL_dropI (cut_lo h90).1 h111)))) (rdL_some h115).1 (rdL_some h115).2.1) ⟨rfl, rfl, trivial⟩, d0 (t_ldE (k := 4) (1 + v110) rfl (inn_pA 1 rfl q98 q97 (q75 _ (rdL_mem (rdL_dropI (cut_lo h90).1 h111)))) h115 rfl (.agg tyA35) rfl) ⟨rfl, trivial⟩, d0 (t_mv (.inl rfl)) ⟨rfl, trivial⟩, d0 (t_mv (.inl rfl)) ⟨rfl, trivial⟩, d0 (t_ixE (1 + v80) rfl tyS24 (inn_pA 1 rfl q98 q97 (q75 _ (rdL_mem h81))) (row_len q98 q97 (q75 _ (rdL_mem h81))) (rdL_some h117).1 (rdL_some h117).2.1) ⟨rfl, rfl, trivial⟩, d0 (t_ldE (k := 4) (1 + v80) rfl (inn_pA 1 rfl q98 q97 (q75 _ (rdL_mem h81))) h117 rfl (.agg tyA35) rfl) ⟨rfl, trivial⟩, d0 (t_call rfl (qc_rat_Div h119) rfl) ⟨rfl, rfl, trivial⟩, ⟨rfl, .alc tyZ35q⟩, trivial⟩ (fun bs113 G112 => ?_)
        refine r_op0 (t_s 0 rfl rfl rfl tyA35.s) ⟨rfl, rfl, trivial⟩ ?_
        refine r_nil (r_next (r_seq (r_reg (r_mv ?_))))
        refine r_as ?_
        refine r_nil (r_next (r_blk (r_cutN (fun H E => ∃ (x130 : List (List Rat)), F_matrix_Positive_j135 K x100 (F_matrix_Positive_l105 K x64 x76 v80 v87 x89 k) x130 = some x101' ∧ x130.length = N72 ∧ LenOk g71 x130 ∧ H = ([hO (cH g71) b65 c66 24 n67 x64] ++ inn cQ 35 g71 x130) ∧ E = [(3, .vc (pO b65 n67 c66)), (7, .vc (pI .i64 x76)), (8, .vc (pO (hdr g71 v80).1 (hdr g71 v80).2.1 (hdr g71 v80).2.2)), (50, .vc (pO b65 n67 c66)), (51, .vc (pI .i64 (x37.length : Int))), (52, .vc (pI .i64 x76)), (66, .vc (pC (pO b65 n67 c66) v87.toNat 1)), (67, .vc (pI .i64 (x89.length : Int))), (68, .vc (pI .i64 x100))]) ?_ (fun Jj135 => ?_))))
        · rintro _ _ ⟨x130, hF, q131, q132, rfl, rfl⟩
          unfold F_matrix_Positive_j135 at hF
          refine r_blkN (r_next (r_reg ?_))
          obtain ⟨v136, h137, hF⟩ := bnd hF
          refine r_op (t_add rfl h137) ⟨rfl, k_I _ _, trivial⟩ ?_
          refine r_mv ?_
          refine r_nil ?_
          exact r_round (fun a w hh => ⟨x130, v136, hF, q131, q132, hs_backA 1 [0] rfl rfl (by decide) (by exact ⟨rfl, rfl, rfl, rfl, rfl, rfl, rfl, rfl, rfl, trivial⟩) hh⟩)
        obtain ⟨x130', hL, hRl134⟩ := bnd hF
        refine r_lp (fun k a w => ∃ (x125 : List (List Rat)), ∃ (x129 : Int), F_matrix_Positive_l134 K v80 v110 v118 k x125 x129 = some x130' ∧ x125.length = N72 ∧ LenOk g71 x125 ∧ hs _ ([⟨some (bs113 9), 1, 35, 4, 1, (eQ v118)⟩, hO (cH g71) b65 c66 24 n67 x64] ++ inn cQ 35 g71 x125) [(3, .vc (pO b65 n67 c66)), (7, .vc (pI .i64 x76)), (8, .vc (pO (hdr g71 v80).1 (hdr g71 v80).2.1 (hdr g71 v80).2.2)), (10, .vc (pO (hdr g71 v110).1 (hdr g71 v110).2.1 (hdr g71 v110).2.2)), (11, .vc (pP (some (bs113 9)) 0)), (12, .vc (pI .i64 x129)), (50, .vc (pO b65 n67 c66)), (51, .vc (pI .i64 (x37.length : Int))), (52, .vc (pI .i64 x76)), (66, .vc (pC (pO b65 n67 c66) v87.toNat 1)), (67, .vc (pI .i64 (x89.length : Int))), (68, .vc (pI .i64 x100))] a w) K (fun a w ⟨_, _, hF, _, _, _⟩ => by cases hF) (fun k a w ⟨x125, x129, hF, q126, q127, hh⟩ => r_at ?_ hh) (fun a w hh => ⟨x96, x76, hL, q97, q98, hs_backA 2 [0, 1] rfl rfl (by decide) (by exact ⟨rfl, rfl, rfl, rfl, rfl, rfl, rfl, rfl, rfl, rfl, rfl, rfl, trivial⟩) hh⟩)
        rw [F_matrix_Positive_l134.eq_2] at hF
        refine r_seq (r_seq (r_reg (r_mv ?_)))
        refine r_mv ?_
        refine r_op (t_lnE (C := cQ) (xs := (x125.getD v110 [])) (T := 35) rfl tyS24 (row_len q127 q126 (q75 _ (rdL_mem (rdL_dropI (cut_lo h90).1 h111))))) ⟨rfl, trivial⟩ ?_
        refine r_op (t_lt rfl) ⟨rfl, rfl, trivial⟩ ?_
        refine r_mv ?_
        refine r_bool (fun h138 => ?_) (fun h138 => ?_)
        · have hF := cnd_t h138 hF
          refine r_opg (t_l 0 4 rfl rfl rfl rfl (.agg tyA35)) ⟨rfl, trivial⟩ ?_
          obtain ⟨v139, h140, hF⟩ := bnd hF
          refine r_opg (t_call rfl (qc_rat_Sign h140) rfl) ⟨rfl, trivial⟩ ?_
          refine r_opg (t_ne rfl) ⟨rfl, k_I _ _, trivial⟩ ?_
          refine r_op (t_pickT rfl) ⟨rfl, rfl, trivial⟩ ?_
          refine r_nil (r_next (r_if rfl (fun h141 => ?_) (fun h141 => ?_)))
          · have hF := cnd_t h141 hF
            refine r_skip (r_next (r_seq (r_blk ?_)))
            obtain ⟨v144, h145, hF⟩ := bnd hF
            obtain ⟨v146, h147, hF⟩ := bnd hF
            obtain ⟨v148, h149, hF⟩ := bnd hF
            obtain ⟨v150, h151, hF⟩ := bnd hF
            obtain ⟨v152, h153, hF⟩ := bnd hF
            refine r_draw [0, 0, 0, 0, 12, 28, 0, 0, 0, 384, 896, 1984, 4092, 8191, 16383] 14 1 [.v (.vc (pO (hdr g71 v110).1 (hdr g71 v110).2.1 (hdr g71 v110).2.2)), .v (.vc (pI .i64 x129)), .v (.vc (pO (hdr g71 v110).1 (hdr g71 v110).2.1 (hdr g71 v110).2.2)), .v (.vc (pI .i64 x129)), .v (.vc (pE (hdr g71 v110).1 x129 cQ.n 0)), .v (.va (eQ v144)), .v (.va (eQ v118)), .v (.vc (pO (hdr g71 v80).1 (hdr g71 v80).2.1 (hdr g71 v80).2.2)), .v (.vc (pI .i64 x129)), .v (.vc (pE (hdr g71 v80).1 x129 cQ.n 0)), .v (.va (eQ v146)), .v (.va (eQ v148)), .v (.va (eQ v150)), .v (.vc (pE (hdr g71 v110).1 x129 cQ.n 0))] Tryz_mixed ⟨d0 (t_mv (.inl rfl)) ⟨rfl, trivial⟩, d0 (t_mv (.inl rfl)) ⟨rfl, trivial⟩, d0 (t_mv (.inl rfl)) ⟨rfl, trivial⟩, d0 (t_mv (.inl rfl)) ⟨rfl, trivial⟩, d0 (t_ixE (2 + v110) rfl tyS24 (inn_pA 2 rfl q127 q126 (q75 _ (rdL_mem (rdL_dropI (cut_lo h90).1 h111)))) (row_len q127 q126 (q75 _ (rdL_mem (rdL_dropI (cut_lo h90).1 h111)))) (rdL_some h145).1 (rdL_some h145).2.1) ⟨rfl, rfl, trivial⟩, d0 (t_ldE (k := 4) (2 + v110) rfl (inn_pA 2 rfl q127 q126 (q75 _ (rdL_mem (rdL_dropI (cut_lo h90).1 h111)))) h145 rfl (.agg tyA35) rfl) ⟨rfl, trivial⟩, d0 (t_l 0 4 rfl rfl rfl rfl (.agg tyA35)) ⟨rfl, trivial⟩, d0 (t_mv (.inl rfl)) ⟨rfl, trivial⟩, d0 (t_mv (.inl rfl)) ⟨rfl, trivial⟩, d0 (t_ixE (2 + v80) rfl tyS24 (inn_pA 2 rfl q127 q126 (q75 _ (rdL_mem h81))) (row_len q127 q126 (q75 _ (rdL_mem h81))) (rdL_some h147).1 (rdL_some h147).2.1) ⟨rfl, rfl, trivial⟩, d0 (t_ldE (k := 4) (2 + v80) rfl (inn_pA 2 rfl q127 q126 (q75 _ (rdL_mem h81))) h147 rfl (.agg tyA35) rfl) ⟨rfl, trivial⟩, d0 (t_call rfl (qc_rat_Mul h149) rfl) ⟨rfl, rfl, trivial⟩, d0 (t_call rfl (qc_rat_Sub h151) rfl) ⟨rfl, rfl, trivial⟩, d0 (t_ixE (2 + v110) rfl tyS24 (inn_pA 2 rfl q127 q126 (q75 _ (rdL_mem (rdL_dropI (cut_lo h90).1 h111)))) (row_len q127 q126 (q75 _ (rdL_mem (rdL_dropI (cut_lo h90).1 h111)))) (rdL_some h153).1 (rdL_some h153).2.1) ⟨rfl, rfl, trivial⟩, trivial⟩ (fun bs143 G142 => ?_)
            obtain ⟨x154, h155, hF⟩ := bnd hF
            refine r_op0 (t_stE (H' := ([⟨some (bs113 9), 1, 35, 4, 1, (eQ v118)⟩, hO (cH g71) b65 c66 24 n67 x64] ++ inn cQ 35 g71 (x125.set v110 x154))) (2 + v110) rfl (inn_p 2 rfl q127 q126 (q75 _ (rdL_mem (rdL_dropI (cut_lo h90).1 h111)))) h153 h155 tyA35.s (hH := stN 2 rfl q127 q126 (q75 _ (rdL_mem (rdL_dropI (cut_lo h90).1 h111))))) ⟨rfl, rfl, trivial⟩ ?_
            refine r_nil (r_blkN (r_next (r_reg (r_mv ?_))))
            obtain ⟨v157, h158, hF⟩ := bnd hF
            refine r_op (t_add rfl h158) ⟨rfl, k_I _ _, trivial⟩ ?_
            refine r_as ?_
            refine r_nil ?_
            exact r_round (fun a w hh => ⟨(x125.set v110 x154), v157, hF, (set_len q126), (set_ok q127 q126 (q75 _ (rdL_mem (rdL_dropI (cut_lo h90).1 h111))) (stL_len h155 rfl)), hs_backA 2 [0, 1] rfl rfl (by decide) (by exact ⟨rfl, rfl, rfl, rfl, rfl, rfl, rfl, rfl, rfl, rfl, rfl, rfl, trivial⟩) hh⟩)
          have hF := cnd_f h141 hF
          refine r_brk ?_
          obtain rfl := sm1 hF
          exact r_backA Jj135 ⟨x125, hRl134, q126, q127, rfl, rfl⟩ 2 [1] rfl rfl ⟨rfl, rfl, rfl, rfl, rfl, rfl, rfl, rfl, rfl, trivial⟩
        have hF := cnd_f h138 hF
        refine r_opn ?_
        refine r_opn ?_
        refine r_opn ?_
        refine r_op (t_pickF rfl) ⟨rfl, k_B _, trivial⟩ ?_
        refine r_nil (r_next (r_ifF rfl ?_))
        refine r_brk ?_
        obtain rfl := sm1 hF
        exact r_backA Jj135 ⟨x125, hRl134, q126, q127, rfl, rfl⟩ 2 [1] rfl rfl ⟨rfl, rfl, rfl, rfl, rfl, rfl, rfl, rfl, rfl, trivial⟩
      have hF := cnd_f h109 hF
      refine r_brk ?_
      obtain rfl := sm1 hF
      exact r_backA Jj106 ⟨x96, hRl105, q97, q98, rfl, rfl⟩ 1 [0] rfl rfl ⟨rfl, rfl, rfl, rfl, trivial⟩
    have hF := cnd_f h79 hF
    refine r_brk ?_
    obtain rfl := sm1 hF
    exact r_backJ Jj78 ⟨hRl77, rfl, rfl⟩ [] rfl trivial
  obtain ⟨ol49, hL, hRl49⟩ := bnd hF
  refine r_lp (fun k a w => ∃ (x24 : List Nat), ∃ (x30 : List (List Rat)), ∃ (x36 : Int), ∃ (b25 : Option Nat), ∃ (c26 : Nat), ∃ (n27 : Nat), ∃ (g31 : List Hdr), ∃ (N32 : Nat), F_matrix_Positive_l49 K a0 k x24 x30 x36 = some ol49 ∧ x24.length = n27 ∧ x30.length = N32 ∧ LenOk g31 x30 ∧ (∀ k ∈ x24, k < N32) ∧ hs _ ([hO (cH g31) b25 c26 24 n27 x24] ++ inn cQ 35 g31 x30) [(0, .vc (pS (cSl cQ) a0)), (3, .vc (pO b25 n27 c26)), (19, .vc (pS (cSl cQ) a0)), (20, .vc (pI .i64 (a0.length : Int))), (21, .vc (pI .i64 x36))] a w) K (fun a w ⟨_, _, _, _, _, _, _, _, hF, _, _, _, _, _⟩ => by cases hF) (fun k a w ⟨x24, x30, x36, b25, c26, n27, g31, N32, hF, q28, q33, q34, q35, hh⟩ => r_at ?_ hh) (fun a w hh => ⟨x7, [([] : List Rat)], 0, b6, x7.length, x7.length, [(none, 0, 0)], 1, hL, rfl, rfl, lenOk_one, (mkL_hx h8), hs_backA 1 [0] rfl rfl (by decide) (by exact ⟨rfl, rfl, rfl, rfl, rfl, trivial⟩) hh⟩)
  rw [F_matrix_Positive_l49.eq_2] at hF
  refine r_seq (r_reg (r_op (t_lt rfl) ⟨rfl, rfl, trivial⟩ ?_))
  refine r_nil (r_next (r_seq (r_if rfl (fun h159 => ?_) (fun h159 => ?_))))
  · have hF := cnd_t h159 hF
    refine r_skip (r_next (r_seq (r_blk (r_seq (r_reg (r_mv ?_))))))
    obtain ⟨v160, h161, hF⟩ := bnd hF
    refine r_op (t_ix rfl tyS47 h161) ⟨rfl, rfl, trivial⟩ ?_
    refine r_op (t_lM 1 rfl rfl (.one tyO24)) ⟨rfl, trivial⟩ ?_
    refine r_as ?_
    refine r_as ?_
    refine r_nil (r_next (r_seq (r_seq (r_reg (r_mv ?_)))))
    refine r_op (t_mv (.inl rfl)) ⟨k_I _ _, trivial⟩ ?_
    refine r_nil (r_next (r_blk (r_cutN (fun H E => F_matrix_Positive_j165 K x24 x30 x36 v160 (F_matrix_Positive_l49 K a0 k) = some ol49 ∧ H = ([hO (cH g31) b25 c26 24 n27 x24] ++ inn cQ 35 g31 x30) ∧ E = [(0, .vc (pS (cSl cQ) a0)), (3, .vc (pO b25 n27 c26)), (4, .vc (pI .i64 x36)), (5, .vc (pS cQ v160)), (19, .vc (pS (cSl cQ) a0)), (20, .vc (pI .i64 (a0.length : Int))), (21, .vc (pI .i64 x36))]) ?_ (fun Jj165 => ?_))))
    · rintro _ _ ⟨hF, rfl, rfl⟩
      unfold F_matrix_Positive_j165 at hF
      refine r_next (r_reg (r_mv ?_))
      refine r_mv ?_
      refine r_mv ?_
      obtain ⟨v166, h167, hF⟩ := bnd hF
      refine r_callN rfl (ctO_slices_Clone_Rat h167) ⟨rfl, trivial⟩ ?_
      rintro _ _ ⟨b169, c170, n171, q172, rfl, rfl⟩
      obtain ⟨v174, h175, hF⟩ := bnd hF
      refine r_op (t_ixE (C := (cH g31)) 1 rfl tyS47 rfl q28 (rdL_some h175).1 (rdL_some h175).2.1) ⟨rfl, rfl, trivial⟩ ?_
      obtain ⟨x176, h177, hF⟩ := bnd hF
      refine r_eqL (show ([hO cQ b169 c170 35 n171 v166, hO (cH (g31 ++ [(b169, n171, c170)])) b25 c26 24 n27 x24] ++ inn cQ 35 g31 x30) = ([hO cQ b169 c170 35 n171 v166, hO (cH g31) b25 c26 24 n27 x24] ++ inn cQ 35 g31 x30) from by rw [recode (N := x30.length) (b169, n171, c170) q34.1 (lt_len q33 q35)]) ?_
      refine r_op0 (t_stE (C := cH (g31 ++ [(b169, n171, c170)])) (z' := x30.length) 1 rfl rfl h175 h177 tyO24.s (hq := put_last (b169, n171, c170) q34.1)) ⟨rfl, rfl, trivial⟩ ?_
      refine r_mergeL (g := (b169, n171, c170)) 0 2 rfl rfl rfl q34 ?_
      refine r_nil (r_blkN (r_next (r_reg ?_)))
      obtain ⟨v180, h181, hF⟩ := bnd hF
      refine r_op (t_add rfl h181) ⟨rfl, k_I _ _, trivial⟩ ?_
      refine r_mv ?_
      refine r_nil ?_
      exact r_round (fun a w hh => ⟨x176, (x30 ++ [v166]), v180, b25, c26, n27, (g31 ++ [(b169, n171, c170)]), (N32 + 1), hF, (stL_len h177 q28), (snoc_len q33), (lenOk_snoc q34 q172), (stL_hx1 q35 h177 q33), hs_backA 1 [0] rfl rfl (by decide) (by exact ⟨rfl, rfl, rfl, rfl, rfl, trivial⟩) hh⟩)
    obtain ⟨ol164, hL, hRl164⟩ := bnd hF
    refine r_lp (fun k a w => ∃ (x163 : Int), F_matrix_Positive_l164 K a0 x36 v160 k x163 = some ol164 ∧ hs _ ([hO (cH g31) b25 c26 24 n27 x24] ++ inn cQ 35 g31 x30) [(0, .vc (pS (cSl cQ) a0)), (3, .vc (pO b25 n27 c26)), (4, .vc (pI .i64 x36)), (5, .vc (pS cQ v160)), (19, .vc (pS (cSl cQ) a0)), (20, .vc (pI .i64 (a0.length : Int))), (21, .vc (pI .i64 x36)), (26, .vc (pI .i64 x36)), (27, .vc (pI .i64 x163))] a w) K (fun a w ⟨_, hF, _⟩ => by cases hF) (fun k a w ⟨x163, hF, hh⟩ => r_at ?_ hh) (fun a w hh => ⟨0, hL, hs_backA 1 [0] rfl rfl (by decide) (by exact ⟨rfl, rfl, rfl, rfl, rfl, rfl, rfl, rfl, rfl, trivial⟩) hh⟩)
    rw [F_matrix_Positive_l164.eq_2] at hF
    refine r_seq (r_reg (r_op (t_lt rfl) ⟨rfl, rfl, trivial⟩ ?_))
    refine r_nil (r_next (r_seq (r_if rfl (fun h182 => ?_) (fun h182 => ?_))))
    · have hF := cnd_t h182 hF
      refine r_skip (r_next (r_seq (r_blk (r_seq (r_reg (r_mv ?_))))))
      refine r_as ?_
      refine r_nil (r_next (r_seq ?_))
      obtain ⟨v185, h186, hF⟩ := bnd hF
      obtain ⟨v187, h188, hF⟩ := bnd hF
      obtain ⟨v189, h190, hF⟩ := bnd hF
      obtain ⟨v191, h192, hF⟩ := bnd hF
      refine r_draw [0, 0, 3, 7, 0, 0, 48, 112, 0, 496, 1008, 2047, 4095] 13 0 [.v (.vc (pS cQ v160)), .v (.vc (pI .i64 x163)), .v (.vc (pM (cQ.e v185))), .v (.va (eQ v185)), .v (.vc (pS (cSl cQ) a0)), .v (.vc (pI .i64 x163)), .v (.vc (pM ((cSl cQ).e v187))), .v (.vc (pS cQ v187)), .v (.vc (pI .i64 x36)), .v (.vc (pM (cQ.e v189))), .v (.va (eQ v189)), .v (.vc (pB v191)), .v (.vc (pB (!v191)))] Tryz_mixed ⟨d0 (t_mv (.inl rfl)) ⟨rfl, trivial⟩, d0 (t_mv (.inl rfl)) ⟨rfl, trivial⟩, d0 (t_ix rfl tyS24 h186) ⟨rfl, rfl, trivial⟩, d0 (t_lM 4 rfl rfl (.agg tyA35)) ⟨rfl, trivial⟩, d0 (t_mv (.inl rfl)) ⟨rfl, trivial⟩, d0 (t_mv (.inl rfl)) ⟨rfl, trivial⟩, d0 (t_ix rfl tyS47 h188) ⟨rfl, rfl, trivial⟩, d0 (t_lM 1 rfl rfl (.one tyO24)) ⟨rfl, trivial⟩, d0 (t_mv (.inl rfl)) ⟨rfl, trivial⟩, d0 (t_ix rfl tyS24 h190) ⟨rfl, rfl, trivial⟩, d0 (t_lM 4 rfl rfl (.agg tyA35)) ⟨rfl, trivial⟩, d0 (t_call rfl (qc_rat_Same h192) rfl) ⟨rfl, rfl, trivial⟩, d0 (t_not rfl) ⟨rfl, trivial⟩, trivial⟩ (fun bs184 G183 => ?_)
      refine r_nil (r_next (r_if rfl (fun h193 => ?_) (fun h193 => ?_)))
      · have hF := cnd_t h193 hF
        refine r_seq (r_reg (r_op (t_mv (.inr rfl)) ⟨k_B _, trivial⟩ ?_))
        refine r_nil (r_next (r_ret (r_toR ?_)))
        obtain rfl := sm1 hF
        obtain rfl := sm1 hRl164
        obtain rfl := sm1 hRl49
        exact r_done1 (.inl rfl) Tryz.results55 (.tmp rfl .nil) rfl rfl
      have hF := cnd_f h193 hF
      refine r_skip (r_blkN (r_next (r_reg ?_)))
      obtain ⟨v194, h195, hF⟩ := bnd hF
      refine r_op (t_add rfl h195) ⟨rfl, k_I _ _, trivial⟩ ?_
      refine r_mv ?_
      refine r_nil ?_
      exact r_round (fun a w hh => ⟨v194, hF, hs_backA 1 [0] rfl rfl (by decide) (by exact ⟨rfl, rfl, rfl, rfl, rfl, rfl, rfl, rfl, rfl, trivial⟩) hh⟩)
    have hF := cnd_f h182 hF
    refine r_brk ?_
    obtain rfl := sm1 hF
    exact r_backA Jj165 ⟨hRl164, rfl, rfl⟩ 1 [0] rfl rfl ⟨rfl, rfl, rfl, rfl, rfl, rfl, rfl, trivial⟩
  have hF := cnd_f h159 hF
  refine r_brk ?_
  obtain rfl := sm1 hF
  exact r_backA Jj50 ⟨x24, x30, b25, c26, n27, g31, N32, hRl49, q28, q33, q34, q35, rfl, rfl⟩ 1 [0] rfl rfl ⟨rfl, trivial⟩
def F_gantrylaw09_whole_j24 (K : Nat) (x17 : List Rat) : Option (List Rat) :=
  some x17
def F_gantrylaw09_whole_l23 (K : Nat) (a0 : List Int) : Nat → (List Rat) → Int → Option (List Rat)
  | 0, _, _ => none
  | k + 1, x10, x16 => bif (decide (x16 < (a0.length : Int))) then ((rdL a0 x16).bind fun v26 => (qof v26 1).bind fun v28 => (apL x10 [v28]).bind fun x30 => (chk (x16 + 1)).bind fun v37 => F_gantrylaw09_whole_l23 K a0 k x30 v37) else (some x10)
def F_gantrylaw09_whole (K : Nat) (a0 : List Int) : Option (List Rat) :=
  (F_gantrylaw09_whole_l23 K a0 K ([] : List Rat) 0).bind fun x17 => F_gantrylaw09_whole_j24 K x17
theorem ct_gantrylaw09_whole {K : Nat} {a0 : List Int} {r : List Rat} (hF : F_gantrylaw09_whole K a0 = some r) : Ct Tryz.prog 104 [.vc (pS cI a0)] (.vc (pS cQ r)) := by
  unfold F_gantrylaw09_whole at hF
  refine ctO_intro Tryz.func104 rfl (by kernel_rfl) Tryz.ntmps104 rfl (fun w0 M0 => ?_)
  refine r_seq (r_reg (r_op (t_mv (.inr rfl)) ⟨k_nil cQ, trivial⟩ ?_))
  refine r_nil (r_next (r_seq (r_reg (r_nilO cQ 35 rfl ?_))))
  refine r_nil (r_next (r_seq (r_seq (r_reg (r_op (t_mv (.inr rfl)) ⟨k_I _ _, trivial⟩ ?_)))))
  refine r_nil (r_next (r_blk (r_cutN (fun H E => ∃ (x17 : List Rat), ∃ (b18 : Option Nat), ∃ (c19 : Nat), ∃ (n20 : Nat), F_gantrylaw09_whole_j24 K x17 = some r ∧ x17.length = n20 ∧ H = [hO cQ b18 c19 35 n20 x17] ∧ E = [(3, .vc (pO b18 n20 c19))]) ?_ (fun Jj24 => ?_))))
  · rintro _ _ ⟨x17, b18, c19, n20, hF, q21, rfl, rfl⟩
    unfold F_gantrylaw09_whole_j24 at hF
    refine r_next (r_seq (r_reg (r_mv ?_)))
    refine r_as ?_
    refine r_nil (r_next (r_ret (r_toR (r_fzX 0 [2, 3, 19] rfl q21 ⟨rfl, rfl, rfl, trivial⟩ rfl ?_))))
    obtain rfl := sm1 hF
    exact r_done1 (.inl rfl) Tryz.results104 (.tmp rfl .nil) rfl rfl
  obtain ⟨x17', hL, hRl23⟩ := bnd hF
  refine r_lp (fun k a w => ∃ (x10 : List Rat), ∃ (x16 : Int), ∃ (b11 : Option Nat), ∃ (c12 : Nat), ∃ (n13 : Nat), F_gantrylaw09_whole_l23 K a0 k x10 x16 = some x17' ∧ x10.length = n13 ∧ hs _ [hO cQ b11 c12 35 n13 x10] [(0, .vc (pS cI a0)), (3, .vc (pO b11 n13 c12)), (4, .vc (pI .i64 x16))] a w) K (fun a w ⟨_, _, _, _, _, hF, _, _⟩ => by cases hF) (fun k a w ⟨x10, x16, b11, c12, n13, hF, q14, hh⟩ => r_at ?_ hh) (fun a w hh => ⟨([] : List Rat), 0, none, 0, 0, hL, rfl, hs_back [0] rfl (by decide) (by exact ⟨rfl, rfl, rfl, trivial⟩) hh⟩)
  rw [F_gantrylaw09_whole_l23.eq_2] at hF
  refine r_seq (r_seq (r_reg (r_mv ?_)))
  refine r_mv ?_
  refine r_op (t_ln rfl tyS22) ⟨rfl, trivial⟩ ?_
  refine r_op (t_lt rfl) ⟨rfl, rfl, trivial⟩ ?_
  refine r_nil (r_next (r_if rfl (fun h25 => ?_) (fun h25 => ?_)))
  · have hF := cnd_t h25 hF
    refine r_skip (r_next (r_seq (r_blk (r_reg (r_mv ?_)))))
    refine r_mv ?_
    refine r_mv ?_
    obtain ⟨v26, h27, hF⟩ := bnd hF
    refine r_op (t_ix rfl tyS22 h27) ⟨rfl, rfl, trivial⟩ ?_
    refine r_op (t_lM 1 rfl rfl (.one tyO3)) ⟨rfl, trivial⟩ ?_
    obtain ⟨v28, h29, hF⟩ := bnd hF
    refine r_op (t_call rfl (qc_gantryref05_Of h29) rfl) ⟨rfl, k_I _ _, trivial⟩ ?_
    refine r_op (t_bs (C := cQ) (xs := [.tmp 16]) (ps := [.va (eQ v28)]) (zs := [v28]) rfl tyS24 rfl ⟨⟨trivial, rfl⟩, trivial⟩ rfl) ⟨rfl, trivial⟩ ?_
    obtain ⟨x30, h31, hF⟩ := bnd hF
    refine r_app 0 rfl tyS24 rfl rfl q14 rfl rfl h31 (fun b32 c33 H34 e35 => ?_)
    cases e35
    refine r_as ?_
    refine r_nil (r_blkN (r_next (r_reg (r_mv ?_))))
    obtain ⟨v37, h38, hF⟩ := bnd hF
    refine r_op (t_add rfl h38) ⟨rfl, k_I _ _, trivial⟩ ?_
    refine r_as ?_
    refine r_nil ?_
    exact r_round (fun a w hh => ⟨x30, v37, b32, c33, (n13 + [v28].length), hF, (apL_len h31 q14), hs_back [0] rfl (by decide) (by exact ⟨rfl, rfl, rfl, trivial⟩) hh⟩)
  have hF := cnd_f h25 hF
  refine r_brk ?_
  obtain rfl := sm1 hF
  exact r_backJ Jj24 ⟨x10, b11, c12, n13, hRl23, q14, rfl, rfl⟩ [0] rfl ⟨rfl, trivial⟩
def F_gantrylaw09_lives (K : Nat) : Option Bool :=
  (F_gantrylaw09_whole K [1, 2, 3]).bind fun v1 => (F_gantrylaw09_whole K [2, 4, 7]).bind fun v3 => (F_gantrylaw09_whole K [2, 1]).bind fun v5 => (F_gantrylaw09_whole K [1, 2]).bind fun v7 => (F_matrix_Rank K [v1, v3]).bind fun v9 => (F_gantrylaw09_whole K [1, 3]).bind fun v11 => (F_matrix_Solve K [v1, v3] v11).bind fun v13 => (F_matrix_Kernel K [v1, v3]).bind fun v15 => (F_gantrylaw09_whole K [2, 4]).bind fun v17 => (F_gantrylaw09_whole K [1, 2]).bind fun v19 => (F_gantrylaw09_whole K [1, 1]).bind fun v21 => (F_matrix_Solve K [v17, v19] v21).bind fun v23 => (F_matrix_Det K [v5, v7]).bind fun v25 => (F_matrix_Inverse K [v5, v7]).bind fun v28 => bif (v9.2 != 0) then (some false) else (bif (v13.2 != 0) then (some false) else (bif (v15.2 != 0) then (some false) else (bif (v25.2 != 0) then (some false) else (bif (v28.2 != 0) then (some false) else (bif (v23.2 != 6) then (some false) else (bif ((v15.1.length : Int) != 1) then (some false) else ((qof (-1) 3).bind fun v37 => (qof 2 3).bind fun v40 => bif (v9.1 == 2) then ((F_gantrylaw09_whole K [(-2), 0, 1]).bind fun v46 => (F_gantryref09_SameRow K v13.1 v46).bind fun v48 => bif v48 then ((rdL v15.1 0).bind fun v51 => (F_gantrylaw09_whole K [(-2), 1, 0]).bind fun v53 => (F_gantryref09_SameRow K v51 v53).bind fun v55 => bif v55 then ((qof 3 1).bind fun v58 => (qsame v25.1 v58).bind fun v60 => bif v60 then ((F_gantryref09_Same K v28.1 [[v40, v37], [v37, v40]]).bind fun v63 => bif v63 then ((F_matrix_Positive K [v5, v7]).bind fun v66 => bif v66 then ((F_gantrylaw09_whole K [1, 2]).bind fun v69 => (F_gantrylaw09_whole K [2, 1]).bind fun v71 => (F_matrix_Positive K [v69, v71]).bind fun v73 => some (!v73)) else (some false)) else (some false)) else (some false)) else (some false)) else (some false)) else (some false))))))))
theorem ct_gantrylaw09_lives {K : Nat} {r : Bool} (hF : F_gantrylaw09_lives K = some r) : Ct Tryz.prog 44 [] (.vc (pB r)) := by
  unfold F_gantrylaw09_lives at hF
  refine ctO_intro Tryz.func44 rfl (by kernel_rfl) Tryz.ntmps44 rfl (fun w0 M0 => ?_)
  refine r_seq (r_reg (r_op (t_mv (.inr rfl)) ⟨k_B _, trivial⟩ ?_))
  refine r_nil (r_next (r_seq (r_reg (r_op (t_bs (C := cI) (xs := [.const (.int .i64 (1)), .const (.int .i64 (2)), .const (.int .i64 (3))]) (ps := [.vc (pI .i64 1), .vc (pI .i64 2), .vc (pI .i64 3)]) (zs := [1, 2, 3]) rfl tyS22 rfl ⟨⟨trivial, rfl⟩, ⟨trivial, rfl⟩, ⟨trivial, rfl⟩, trivial⟩ rfl) ⟨k_I _ _, k_I _ _, k_I _ _, trivial⟩ ?_))))
  obtain ⟨v1, h2, hF⟩ := bnd hF
  refine r_op (t_call rfl (ct_gantrylaw09_whole h2) rfl) ⟨rfl, trivial⟩ ?_
  refine r_op (t_bs (C := cI) (xs := [.const (.int .i64 (2)), .const (.int .i64 (4)), .const (.int .i64 (7))]) (ps := [.vc (pI .i64 2), .vc (pI .i64 4), .vc (pI .i64 7)]) (zs := [2, 4, 7]) rfl tyS22 rfl ⟨⟨trivial, rfl⟩, ⟨trivial, rfl⟩, ⟨trivial, rfl⟩, trivial⟩ rfl) ⟨k_I _ _, k_I _ _, k_I _ _, trivial⟩ ?_
  obtain ⟨v3, h4, hF⟩ := bnd hF
  refine r_op (t_call rfl (ct_gantrylaw09_whole h4) rfl) ⟨rfl, trivial⟩ ?_
  refine r_op (t_bs (C := (cSl cQ)) (xs := [.tmp 19, .tmp 21]) (ps := [.vc (pS cQ v1), .vc (pS cQ v3)]) (zs := [v1, v3]) rfl tyS47 rfl ⟨⟨trivial, rfl⟩, ⟨trivial, rfl⟩, trivial⟩ rfl) ⟨rfl, rfl, trivial⟩ ?_
  refine r_as ?_
  refine r_nil (r_next (r_seq (r_reg (r_op (t_bs (C := cI) (xs := [.const (.int .i64 (2)), .const (.int .i64 (1))]) (ps := [.vc (pI .i64 2), .vc (pI .i64 1)]) (zs := [2, 1]) rfl tyS22 rfl ⟨⟨trivial, rfl⟩, ⟨trivial, rfl⟩, trivial⟩ rfl) ⟨k_I _ _, k_I _ _, trivial⟩ ?_))))
  obtain ⟨v5, h6, hF⟩ := bnd hF
  refine r_op (t_call rfl (ct_gantrylaw09_whole h6) rfl) ⟨rfl, trivial⟩ ?_
  refine r_op (t_bs (C := cI) (xs := [.const (.int .i64 (1)), .const (.int .i64 (2))]) (ps := [.vc (pI .i64 1), .vc (pI .i64 2)]) (zs := [1, 2]) rfl tyS22 rfl ⟨⟨trivial, rfl⟩, ⟨trivial, rfl⟩, trivial⟩ rfl) ⟨k_I _ _, k_I _ _, trivial⟩ ?_
  obtain ⟨v7, h8, hF⟩ := bnd hF
  refine r_op (t_call rfl (ct_gantrylaw09_whole h8) rfl) ⟨rfl, trivial⟩ ?_
  refine r_op (t_bs (C := (cSl cQ)) (xs := [.tmp 24, .tmp 26]) (ps := [.vc (pS cQ v5), .vc (pS cQ v7)]) (zs := [v5, v7]) rfl tyS47 rfl ⟨⟨trivial, rfl⟩, ⟨trivial, rfl⟩, trivial⟩ rfl) ⟨rfl, rfl, trivial⟩ ?_
  refine r_as ?_
  refine r_nil (r_next (r_seq (r_reg (r_mv ?_))))
  obtain ⟨v9, h10, hF⟩ := bnd hF
  refine r_op (t_call rfl (ct_matrix_Rank h10) rfl) ⟨rfl, trivial⟩ ?_
  refine r_mv ?_
  refine r_op (t_ext2a rfl) ⟨rfl, trivial⟩ ?_
  refine r_op (t_ext2b rfl) ⟨rfl, trivial⟩ ?_
  refine r_as ?_
  refine r_as ?_
  refine r_nil (r_next (r_seq (r_reg (r_mv ?_))))
  refine r_op (t_bs (C := cI) (xs := [.const (.int .i64 (1)), .const (.int .i64 (3))]) (ps := [.vc (pI .i64 1), .vc (pI .i64 3)]) (zs := [1, 3]) rfl tyS22 rfl ⟨⟨trivial, rfl⟩, ⟨trivial, rfl⟩, trivial⟩ rfl) ⟨k_I _ _, k_I _ _, trivial⟩ ?_
  obtain ⟨v11, h12, hF⟩ := bnd hF
  refine r_op (t_call rfl (ct_gantrylaw09_whole h12) rfl) ⟨rfl, trivial⟩ ?_
  obtain ⟨v13, h14, hF⟩ := bnd hF
  refine r_op (t_call rfl (ct_matrix_Solve h14) rfl) ⟨rfl, rfl, trivial⟩ ?_
  refine r_mv ?_
  refine r_op (t_ext2a rfl) ⟨rfl, trivial⟩ ?_
  refine r_op (t_ext2b rfl) ⟨rfl, trivial⟩ ?_
  refine r_as ?_
  refine r_as ?_
  refine r_nil (r_next (r_seq (r_reg (r_mv ?_))))
  obtain ⟨v15, h16, hF⟩ := bnd hF
  refine r_op (t_call rfl (ct_matrix_Kernel h16) rfl) ⟨rfl, trivial⟩ ?_
  refine r_mv ?_
  refine r_op (t_ext2a rfl) ⟨rfl, trivial⟩ ?_
  refine r_op (t_ext2b rfl) ⟨rfl, trivial⟩ ?_
  refine r_as ?_
  refine r_as ?_
  refine r_nil (r_next (r_seq (r_reg (r_op (t_bs (C := cI) (xs := [.const (.int .i64 (2)), .const (.int .i64 (4))]) (ps := [.vc (pI .i64 2), .vc (pI .i64 4)]) (zs := [2, 4]) rfl tyS22 rfl ⟨⟨trivial, rfl⟩, ⟨trivial, rfl⟩, trivial⟩ rfl) ⟨k_I _ _, k_I _ _, trivial⟩ ?_))))
  obtain ⟨v17, h18, hF⟩ := bnd hF
  refine r_op (t_call rfl (ct_gantrylaw09_whole h18) rfl) ⟨rfl, trivial⟩ ?_
  refine r_op (t_bs (C := cI) (xs := [.const (.int .i64 (1)), .const (.int .i64 (2))]) (ps := [.vc (pI .i64 1), .vc (pI .i64 2)]) (zs := [1, 2]) rfl tyS22 rfl ⟨⟨trivial, rfl⟩, ⟨trivial, rfl⟩, trivial⟩ rfl) ⟨k_I _ _, k_I _ _, trivial⟩ ?_
  obtain ⟨v19, h20, hF⟩ := bnd hF
  refine r_op (t_call rfl (ct_gantrylaw09_whole h20) rfl) ⟨rfl, trivial⟩ ?_
  refine r_op (t_bs (C := (cSl cQ)) (xs := [.tmp 47, .tmp 49]) (ps := [.vc (pS cQ v17), .vc (pS cQ v19)]) (zs := [v17, v19]) rfl tyS47 rfl ⟨⟨trivial, rfl⟩, ⟨trivial, rfl⟩, trivial⟩ rfl) ⟨rfl, rfl, trivial⟩ ?_
  refine r_op (t_bs (C := cI) (xs := [.const (.int .i64 (1)), .const (.int .i64 (1))]) (ps := [.vc (pI .i64 1), .vc (pI .i64 1)]) (zs := [1, 1]) rfl tyS22 rfl ⟨⟨trivial, rfl⟩, ⟨trivial, rfl⟩, trivial⟩ rfl) ⟨k_I _ _, k_I _ _, trivial⟩ ?_
  obtain ⟨v21, h22, hF⟩ := bnd hF
  refine r_op (t_call rfl (ct_gantrylaw09_whole h22) rfl) ⟨rfl, trivial⟩ ?_
  obtain ⟨v23, h24, hF⟩ := bnd hF
  refine r_op (t_call rfl (ct_matrix_Solve h24) rfl) ⟨rfl, rfl, trivial⟩ ?_
  refine r_mv ?_
  refine r_op (t_ext2a rfl) ⟨rfl, trivial⟩ ?_
  refine r_op (t_ext2b rfl) ⟨rfl, trivial⟩ ?_
  refine r_as ?_
  refine r_as ?_
  refine r_nil (r_next (r_seq (r_reg (r_mv ?_))))
  obtain ⟨v25, h26, hF⟩ := bnd hF
  refine r_op (t_call rfl (ct_matrix_Det h26) rfl) ⟨rfl, trivial⟩ ?_
  refine r_mv ?_
  refine r_op (t_ext2a rfl) ⟨rfl, trivial⟩ ?_
  refine r_op (t_ext2b rfl) ⟨rfl, trivial⟩ ?_
  refine r_alloc rfl tyZ35q (fun b27 => ?_)
  refine r_op0 (t_s 0 rfl rfl rfl tyA35.s) ⟨rfl, rfl, trivial⟩ ?_
  refine r_as ?_
  refine r_nil (r_next (r_seq (r_reg (r_mv ?_))))
  obtain ⟨v28, h29, hF⟩ := bnd hF
  refine r_op (t_call rfl (ct_matrix_Inverse h29) rfl) ⟨rfl, trivial⟩ ?_
  refine r_mv ?_
  refine r_op (t_ext2a rfl) ⟨rfl, trivial⟩ ?_
  refine r_op (t_ext2b rfl) ⟨rfl, trivial⟩ ?_
  refine r_as ?_
  refine r_as ?_
  refine r_nil (r_next (r_seq (r_seq (r_reg (r_mv ?_)))))
  refine r_op (t_ne rfl) ⟨rfl, k_I _ _, trivial⟩ ?_
  refine r_mv ?_
  refine r_bool (fun h30 => ?_) (fun h30 => ?_)
  · have hF := cnd_t h30 hF
    refine r_opn ?_
    refine r_opn ?_
    refine r_op (t_pickT rfl) ⟨rfl, k_B _, trivial⟩ ?_
    refine r_mv ?_
    refine r_opn ?_
    refine r_opn ?_
    refine r_op (t_pickT rfl) ⟨rfl, k_B _, trivial⟩ ?_
    refine r_mv ?_
    refine r_opn ?_
    refine r_opn ?_
    refine r_op (t_pickT rfl) ⟨rfl, k_B _, trivial⟩ ?_
    refine r_mv ?_
    refine r_opn ?_
    refine r_opn ?_
    refine r_op (t_pickT rfl) ⟨rfl, k_B _, trivial⟩ ?_
    refine r_mv ?_
    refine r_opn ?_
    refine r_opn ?_
    refine r_op (t_pickT rfl) ⟨rfl, k_B _, trivial⟩ ?_
    refine r_mv ?_
    refine r_opn ?_
    refine r_opn ?_
    refine r_opn ?_
    refine r_op (t_pickT rfl) ⟨rfl, k_B _, trivial⟩ ?_
    refine r_nil (r_next (r_ifT rfl ?_))
    refine r_seq (r_reg (r_op (t_mv (.inr rfl)) ⟨k_B _, trivial⟩ ?_))
    refine r_nil (r_next (r_ret (r_toR ?_)))
    obtain rfl := sm1 hF
    exact r_done1 (.inl rfl) Tryz.results44 (.tmp rfl .nil) rfl rfl
  have hF := cnd_f h30 hF
  refine r_opg (t_mv (.inl rfl)) ⟨rfl, trivial⟩ ?_
  refine r_opg (t_ne rfl) ⟨rfl, k_I _ _, trivial⟩ ?_
  refine r_op (t_pickF rfl) ⟨rfl, rfl, trivial⟩ ?_
  refine r_mv ?_
  refine r_bool (fun h31 => ?_) (fun h31 => ?_)
  · have hF := cnd_t h31 hF
    refine r_opn ?_
    refine r_opn ?_
    refine r_op (t_pickT rfl) ⟨rfl, k_B _, trivial⟩ ?_
    refine r_mv ?_
    refine r_opn ?_
    refine r_opn ?_
    refine r_op (t_pickT rfl) ⟨rfl, k_B _, trivial⟩ ?_
    refine r_mv ?_
    refine r_opn ?_
    refine r_opn ?_
    refine r_op (t_pickT rfl) ⟨rfl, k_B _, trivial⟩ ?_
    refine r_mv ?_
    refine r_opn ?_
    refine r_opn ?_
    refine r_op (t_pickT rfl) ⟨rfl, k_B _, trivial⟩ ?_
    refine r_mv ?_
    refine r_opn ?_
    refine r_opn ?_
    refine r_opn ?_
    refine r_op (t_pickT rfl) ⟨rfl, k_B _, trivial⟩ ?_
    refine r_nil (r_next (r_ifT rfl ?_))
    refine r_seq (r_reg (r_op (t_mv (.inr rfl)) ⟨k_B _, trivial⟩ ?_))
    refine r_nil (r_next (r_ret (r_toR ?_)))
    obtain rfl := sm1 hF
    exact r_done1 (.inl rfl) Tryz.results44 (.tmp rfl .nil) rfl rfl
  have hF := cnd_f h31 hF
  refine r_opg (t_mv (.inl rfl)) ⟨rfl, trivial⟩ ?_
  refine r_opg (t_ne rfl) ⟨rfl, k_I _ _, trivial⟩ ?_
  refine r_op (t_pickF rfl) ⟨rfl, rfl, trivial⟩ ?_
  refine r_mv ?_
  refine r_bool (fun h32 => ?_) (fun h32 => ?_)
  · have hF := cnd_t h32 hF
    refine r_opn ?_
    refine r_opn ?_
    refine r_op (t_pickT rfl) ⟨rfl, k_B _, trivial⟩ ?_
    refine r_mv ?_
    refine r_opn ?_
    refine r_opn ?_
    refine r_op (t_pickT rfl) ⟨rfl, k_B _, trivial⟩ ?_
    refine r_mv ?_
    refine r_opn ?_
    refine r_opn ?_
    refine r_op (t_pickT rfl) ⟨rfl, k_B _, trivial⟩ ?_
    refine r_mv ?_
    refine r_opn ?_
    refine r_opn ?_
    refine r_opn ?_
    refine r_op (t_pickT rfl) ⟨rfl, k_B _, trivial⟩ ?_
    refine r_nil (r_next (r_ifT rfl ?_))
    refine r_seq (r_reg (r_op (t_mv (.inr rfl)) ⟨k_B _, trivial⟩ ?_))
    refine r_nil (r_next (r_ret (r_toR ?_)))
    obtain rfl := sm1 hF
    exact r_done1 (.inl rfl) Tryz.results44 (.tmp rfl .nil) rfl rfl
  have hF := cnd_f h32 hF
  refine r_opg (t_mv (.inl rfl)) ⟨rfl, trivial⟩ ?_
  refine r_opg (t_ne rfl) ⟨rfl, k_I _ _, trivial⟩ ?_
  refine r_op (t_pickF rfl) ⟨rfl, rfl, trivial⟩ ?_
  refine r_mv ?_
  refine r_bool (fun h33 => ?_) (fun h33 => ?_)
  · have hF := cnd_t h33 hF
    refine r_opn ?_
    refine r_opn ?_
    refine r_op (t_pickT rfl) ⟨rfl, k_B _, trivial⟩ ?_
    refine r_mv ?_
    refine r_opn ?_
    refine r_opn ?_
    refine r_op (t_pickT rfl) ⟨rfl, k_B _, trivial⟩ ?_
    refine r_mv ?_
    refine r_opn ?_
    refine r_opn ?_
    refine r_opn ?_
    refine r_op (t_pickT rfl) ⟨rfl, k_B _, trivial⟩ ?_
    refine r_nil (r_next (r_ifT rfl ?_))
    refine r_seq (r_reg (r_op (t_mv (.inr rfl)) ⟨k_B _, trivial⟩ ?_))
    refine r_nil (r_next (r_ret (r_toR ?_)))
    obtain rfl := sm1 hF
    exact r_done1 (.inl rfl) Tryz.results44 (.tmp rfl .nil) rfl rfl
  have hF := cnd_f h33 hF
  refine r_opg (t_mv (.inl rfl)) ⟨rfl, trivial⟩ ?_
  refine r_opg (t_ne rfl) ⟨rfl, k_I _ _, trivial⟩ ?_
  refine r_op (t_pickF rfl) ⟨rfl, rfl, trivial⟩ ?_
  refine r_mv ?_
  refine r_bool (fun h34 => ?_) (fun h34 => ?_)
  · have hF := cnd_t h34 hF
    refine r_opn ?_
    refine r_opn ?_
    refine r_op (t_pickT rfl) ⟨rfl, k_B _, trivial⟩ ?_
    refine r_mv ?_
    refine r_opn ?_
    refine r_opn ?_
    refine r_opn ?_
    refine r_op (t_pickT rfl) ⟨rfl, k_B _, trivial⟩ ?_
    refine r_nil (r_next (r_ifT rfl ?_))
    refine r_seq (r_reg (r_op (t_mv (.inr rfl)) ⟨k_B _, trivial⟩ ?_))
    refine r_nil (r_next (r_ret (r_toR ?_)))
    obtain rfl := sm1 hF
    exact r_done1 (.inl rfl) Tryz.results44 (.tmp rfl .nil) rfl rfl
  have hF := cnd_f h34 hF
  refine r_opg (t_mv (.inl rfl)) ⟨rfl, trivial⟩ ?_
  refine r_opg (t_ne rfl) ⟨rfl, k_I _ _, trivial⟩ ?_
  refine r_op (t_pickF rfl) ⟨rfl, rfl, trivial⟩ ?_
  refine r_mv ?_
  refine r_bool (fun h35 => ?_) (fun h35 => ?_)
  · have hF := cnd_t h35 hF
    refine r_opn ?_
    refine r_opn ?_
    refine r_opn ?_
    refine r_op (t_pickT rfl) ⟨rfl, k_B _, trivial⟩ ?_
    refine r_nil (r_next (r_ifT rfl ?_))
    refine r_seq (r_reg (r_op (t_mv (.inr rfl)) ⟨k_B _, trivial⟩ ?_))
    refine r_nil (r_next (r_ret (r_toR ?_)))
    obtain rfl := sm1 hF
    exact r_done1 (.inl rfl) Tryz.results44 (.tmp rfl .nil) rfl rfl
  have hF := cnd_f h35 hF
  refine r_opg (t_mv (.inl rfl)) ⟨rfl, trivial⟩ ?_
  refine r_opg (t_ln rfl tyS47) ⟨rfl, trivial⟩ ?_
  refine r_opg (t_ne rfl) ⟨rfl, k_I _ _, trivial⟩ ?_
  refine r_op (t_pickF rfl) ⟨rfl, rfl, trivial⟩ ?_
  refine r_nil (r_next (r_if rfl (fun h36 => ?_) (fun h36 => ?_)))
  · have hF := cnd_t h36 hF
    refine r_seq (r_reg (r_op (t_mv (.inr rfl)) ⟨k_B _, trivial⟩ ?_))
    refine r_nil (r_next (r_ret (r_toR ?_)))
    obtain rfl := sm1 hF
    exact r_done1 (.inl rfl) Tryz.results44 (.tmp rfl .nil) rfl rfl
  have hF := cnd_f h36 hF
  refine r_skip (r_next (r_seq (r_reg ?_)))
  obtain ⟨v37, h38, hF⟩ := bnd hF
  refine r_op (t_call rfl (qc_gantryref05_Of h38) rfl) ⟨k_I _ _, k_I _ _, trivial⟩ ?_
  refine r_alloc rfl tyZ35q (fun b39 => ?_)
  refine r_op0 (t_s 0 rfl rfl rfl tyA35.s) ⟨rfl, rfl, trivial⟩ ?_
  refine r_nil (r_next (r_seq (r_reg ?_)))
  obtain ⟨v40, h41, hF⟩ := bnd hF
  refine r_op (t_call rfl (qc_gantryref05_Of h41) rfl) ⟨k_I _ _, k_I _ _, trivial⟩ ?_
  refine r_alloc rfl tyZ35q (fun b42 => ?_)
  refine r_op0 (t_s 0 rfl rfl rfl tyA35.s) ⟨rfl, rfl, trivial⟩ ?_
  refine r_nil (r_next (r_seq ?_))
  rcases Bool.eq_false_or_eq_true (v9.1 == 2) with h45 | h45
  · have hF := cnd_t h45 hF
    obtain ⟨v46, h47, hF⟩ := bnd hF
    obtain ⟨v48, h49, hF⟩ := bnd hF
    rcases Bool.eq_false_or_eq_true v48 with h50 | h50
    · have hF := cnd_t h50 hF
      obtain ⟨v51, h52, hF⟩ := bnd hF
      obtain ⟨v53, h54, hF⟩ := bnd hF
      obtain ⟨v55, h56, hF⟩ := bnd hF
      rcases Bool.eq_false_or_eq_true v55 with h57 | h57
      · have hF := cnd_t h57 hF
        obtain ⟨v58, h59, hF⟩ := bnd hF
        obtain ⟨v60, h61, hF⟩ := bnd hF
        refine r_draw [0, 1, 3, 7, 7, 23, 63, 127, 255, 511, 1023, 2047, 511, 4607, 16383, 32767, 65535, 131071, 131071, 524287, 1048575, 2097151] 22 0 [.v (.vc (pI .i64 v9.1)), .v (.vc (pB (v9.1 == 2))), .v (.vc (pB true)), .v (.vc (pS cQ v13.1)), .v (.vc (pS cI [(-2), 0, 1])), .v (.vc (pS cQ v46)), .v (.vc (pB v48)), .v (.vc (pB v48)), .v (.vc (pB true)), .v (.vc (pS (cSl cQ) v15.1)), .v (.vc (pM ((cSl cQ).e v51))), .v (.vc (pS cQ v51)), .v (.vc (pS cI [(-2), 1, 0])), .v (.vc (pS cQ v53)), .v (.vc (pB v55)), .v (.vc (pB v55)), .v (.vc (pB true)), .v (.va (eQ v25.1)), .v (.va (eQ v58)), .v (.vc (pB v60)), .v (.vc (pB v60)), .v (.vc (pB v60))] Tryz_mixed ⟨d0 (t_mv (.inl rfl)) ⟨rfl, trivial⟩, d0 (t_eq rfl) ⟨rfl, k_I _ _, trivial⟩, d0 (tr_bool (t_mv (.inl rfl)) h45) ⟨rfl, trivial⟩, g0 (t_mv (.inl rfl)) ⟨rfl, trivial⟩, g0 (t_bs (C := cI) (xs := [.const (.int .i64 (-2)), .const (.int .i64 (0)), .const (.int .i64 (1))]) (ps := [.vc (pI .i64 (-2)), .vc (pI .i64 0), .vc (pI .i64 1)]) (zs := [(-2), 0, 1]) rfl tyS22 rfl ⟨⟨trivial, rfl⟩, ⟨trivial, rfl⟩, ⟨trivial, rfl⟩, trivial⟩ rfl) ⟨k_I _ _, k_I _ _, k_I _ _, trivial⟩, g0 (t_call rfl (ct_gantrylaw09_whole h47) rfl) ⟨rfl, trivial⟩, g0 (t_call rfl (ct_gantryref09_SameRow h49) rfl) ⟨rfl, rfl, trivial⟩, d0 (t_pickT rfl) ⟨rfl, rfl, trivial⟩, d0 (tr_bool (t_mv (.inl rfl)) h50) ⟨rfl, trivial⟩, g0 (t_mv (.inl rfl)) ⟨rfl, trivial⟩, g0 (t_ix rfl tyS47 h52) ⟨rfl, k_I _ _, trivial⟩, g0 (t_lM 1 rfl rfl (.one tyO24)) ⟨rfl, trivial⟩, g0 (t_bs (C := cI) (xs := [.const (.int .i64 (-2)), .const (.int .i64 (1)), .const (.int .i64 (0))]) (ps := [.vc (pI .i64 (-2)), .vc (pI .i64 1), .vc (pI .i64 0)]) (zs := [(-2), 1, 0]) rfl tyS22 rfl ⟨⟨trivial, rfl⟩, ⟨trivial, rfl⟩, ⟨trivial, rfl⟩, trivial⟩ rfl) ⟨k_I _ _, k_I _ _, k_I _ _, trivial⟩, g0 (t_call rfl (ct_gantrylaw09_whole h54) rfl) ⟨rfl, trivial⟩, g0 (t_call rfl (ct_gantryref09_SameRow h56) rfl) ⟨rfl, rfl, trivial⟩, d0 (t_pickT rfl) ⟨rfl, rfl, trivial⟩, d0 (tr_bool (t_mv (.inl rfl)) h57) ⟨rfl, trivial⟩, g0 (t_l 2 4 rfl rfl rfl rfl (.agg tyA35)) ⟨rfl, trivial⟩, g0 (t_call rfl (qc_gantryref05_Of h59) rfl) ⟨k_I _ _, k_I _ _, trivial⟩, g0 (t_call rfl (qc_rat_Same h61) rfl) ⟨rfl, rfl, trivial⟩, d0 (t_pickT rfl) ⟨rfl, rfl, trivial⟩, d0 (t_mv (.inr rfl)) ⟨rfl, trivial⟩, trivial⟩ (fun bs44 G43 => ?_)
        refine r_nil (r_next (r_seq (r_reg (r_mv ?_))))
        refine r_mv ?_
        refine r_bool (fun h62 => ?_) (fun h62 => ?_)
        · have hF := cnd_t h62 hF
          refine r_opg (t_mv (.inl rfl)) ⟨rfl, trivial⟩ ?_
          refine r_opg (t_l 0 4 rfl rfl rfl rfl (.agg tyA35)) ⟨rfl, trivial⟩ ?_
          refine r_opg (t_l 1 4 rfl rfl rfl rfl (.agg tyA35)) ⟨rfl, trivial⟩ ?_
          refine r_opg (t_bs (C := cQ) (xs := [.tmp 119, .tmp 120]) (ps := [.va (eQ v40), .va (eQ v37)]) (zs := [v40, v37]) rfl tyS24 rfl ⟨⟨trivial, rfl⟩, ⟨trivial, rfl⟩, trivial⟩ rfl) ⟨rfl, rfl, trivial⟩ ?_
          refine r_opg (t_l 1 4 rfl rfl rfl rfl (.agg tyA35)) ⟨rfl, trivial⟩ ?_
          refine r_opg (t_l 0 4 rfl rfl rfl rfl (.agg tyA35)) ⟨rfl, trivial⟩ ?_
          refine r_opg (t_bs (C := cQ) (xs := [.tmp 122, .tmp 123]) (ps := [.va (eQ v37), .va (eQ v40)]) (zs := [v37, v40]) rfl tyS24 rfl ⟨⟨trivial, rfl⟩, ⟨trivial, rfl⟩, trivial⟩ rfl) ⟨rfl, rfl, trivial⟩ ?_
          refine r_opg (t_bs (C := (cSl cQ)) (xs := [.tmp 121, .tmp 124]) (ps := [.vc (pS cQ [v40, v37]), .vc (pS cQ [v37, v40])]) (zs := [[v40, v37], [v37, v40]]) rfl tyS47 rfl ⟨⟨trivial, rfl⟩, ⟨trivial, rfl⟩, trivial⟩ rfl) ⟨rfl, rfl, trivial⟩ ?_
          obtain ⟨v63, h64, hF⟩ := bnd hF
          refine r_opg (t_call rfl (ct_gantryref09_Same h64) rfl) ⟨rfl, rfl, trivial⟩ ?_
          refine r_op (t_pickT rfl) ⟨rfl, rfl, trivial⟩ ?_
          refine r_mv ?_
          refine r_bool (fun h65 => ?_) (fun h65 => ?_)
          · have hF := cnd_t h65 hF
            refine r_opg (t_mv (.inl rfl)) ⟨rfl, trivial⟩ ?_
            obtain ⟨v66, h67, hF⟩ := bnd hF
            refine r_opg (t_call rfl (ct_matrix_Positive h67) rfl) ⟨rfl, trivial⟩ ?_
            refine r_op (t_pickT rfl) ⟨rfl, rfl, trivial⟩ ?_
            refine r_mv ?_
            refine r_bool (fun h68 => ?_) (fun h68 => ?_)
            · have hF := cnd_t h68 hF
              refine r_opg (t_bs (C := cI) (xs := [.const (.int .i64 (1)), .const (.int .i64 (2))]) (ps := [.vc (pI .i64 1), .vc (pI .i64 2)]) (zs := [1, 2]) rfl tyS22 rfl ⟨⟨trivial, rfl⟩, ⟨trivial, rfl⟩, trivial⟩ rfl) ⟨k_I _ _, k_I _ _, trivial⟩ ?_
              obtain ⟨v69, h70, hF⟩ := bnd hF
              refine r_opg (t_call rfl (ct_gantrylaw09_whole h70) rfl) ⟨rfl, trivial⟩ ?_
              refine r_opg (t_bs (C := cI) (xs := [.const (.int .i64 (2)), .const (.int .i64 (1))]) (ps := [.vc (pI .i64 2), .vc (pI .i64 1)]) (zs := [2, 1]) rfl tyS22 rfl ⟨⟨trivial, rfl⟩, ⟨trivial, rfl⟩, trivial⟩ rfl) ⟨k_I _ _, k_I _ _, trivial⟩ ?_
              obtain ⟨v71, h72, hF⟩ := bnd hF
              refine r_opg (t_call rfl (ct_gantrylaw09_whole h72) rfl) ⟨rfl, trivial⟩ ?_
              refine r_opg (t_bs (C := (cSl cQ)) (xs := [.tmp 134, .tmp 136]) (ps := [.vc (pS cQ v69), .vc (pS cQ v71)]) (zs := [v69, v71]) rfl tyS47 rfl ⟨⟨trivial, rfl⟩, ⟨trivial, rfl⟩, trivial⟩ rfl) ⟨rfl, rfl, trivial⟩ ?_
              obtain ⟨v73, h74, hF⟩ := bnd hF
              refine r_opg (t_call rfl (ct_matrix_Positive h74) rfl) ⟨rfl, trivial⟩ ?_
              refine r_opg (t_not rfl) ⟨rfl, trivial⟩ ?_
              refine r_op (t_pickT rfl) ⟨rfl, rfl, trivial⟩ ?_
              refine r_as ?_
              refine r_nil (r_next (r_ret (r_toR ?_)))
              obtain rfl := sm1 hF
              exact r_done1 (.inl rfl) Tryz.results44 (.tmp rfl .nil) rfl rfl
            have hF := cnd_f h68 hF
            refine r_opn ?_
            refine r_opn ?_
            refine r_opn ?_
            refine r_opn ?_
            refine r_opn ?_
            refine r_opn ?_
            refine r_opn ?_
            refine r_op (t_pickF rfl) ⟨rfl, k_B _, trivial⟩ ?_
            refine r_as ?_
            refine r_nil (r_next (r_ret (r_toR ?_)))
            obtain rfl := sm1 hF
            exact r_done1 (.inl rfl) Tryz.results44 (.tmp rfl .nil) rfl rfl
          have hF := cnd_f h65 hF
          refine r_opn ?_
          refine r_opn ?_
          refine r_op (t_pickF rfl) ⟨rfl, k_B _, trivial⟩ ?_
          refine r_mv ?_
          refine r_opn ?_
          refine r_opn ?_
          refine r_opn ?_
          refine r_opn ?_
          refine r_opn ?_
          refine r_opn ?_
          refine r_opn ?_
          refine r_op (t_pickF rfl) ⟨rfl, k_B _, trivial⟩ ?_
          refine r_as ?_
          refine r_nil (r_next (r_ret (r_toR ?_)))
          obtain rfl := sm1 hF
          exact r_done1 (.inl rfl) Tryz.results44 (.tmp rfl .nil) rfl rfl
        have hF := cnd_f h62 hF
        refine r_opn ?_
        refine r_opn ?_
        refine r_opn ?_
        refine r_opn ?_
        refine r_opn ?_
        refine r_opn ?_
        refine r_opn ?_
        refine r_opn ?_
        refine r_opn ?_
        refine r_op (t_pickF rfl) ⟨rfl, k_B _, trivial⟩ ?_
        refine r_mv ?_
        refine r_opn ?_
        refine r_opn ?_
        refine r_op (t_pickF rfl) ⟨rfl, k_B _, trivial⟩ ?_
        refine r_mv ?_
        refine r_opn ?_
        refine r_opn ?_
        refine r_opn ?_
        refine r_opn ?_
        refine r_opn ?_
        refine r_opn ?_
        refine r_opn ?_
        refine r_op (t_pickF rfl) ⟨rfl, k_B _, trivial⟩ ?_
        refine r_as ?_
        refine r_nil (r_next (r_ret (r_toR ?_)))
        obtain rfl := sm1 hF
        exact r_done1 (.inl rfl) Tryz.results44 (.tmp rfl .nil) rfl rfl
      have hF := cnd_f h57 hF
      refine r_draw [0, 1, 3, 7, 7, 23, 63, 127, 255, 511, 1023, 2047, 511, 4607, 16383, 32767, 65535, 131071, 131071, 524287, 1048575, 2097151] 22 0 [.v (.vc (pI .i64 v9.1)), .v (.vc (pB (v9.1 == 2))), .v (.vc (pB true)), .v (.vc (pS cQ v13.1)), .v (.vc (pS cI [(-2), 0, 1])), .v (.vc (pS cQ v46)), .v (.vc (pB v48)), .v (.vc (pB v48)), .v (.vc (pB true)), .v (.vc (pS (cSl cQ) v15.1)), .v (.vc (pM ((cSl cQ).e v51))), .v (.vc (pS cQ v51)), .v (.vc (pS cI [(-2), 1, 0])), .v (.vc (pS cQ v53)), .v (.vc (pB v55)), .v (.vc (pB v55)), .v (.vc (pB false)), .v .un, .v .un, .v .un, .v (.vc (pB false)), .v (.vc (pB false))] Tryz_mixed ⟨d0 (t_mv (.inl rfl)) ⟨rfl, trivial⟩, d0 (t_eq rfl) ⟨rfl, k_I _ _, trivial⟩, d0 (tr_bool (t_mv (.inl rfl)) h45) ⟨rfl, trivial⟩, g0 (t_mv (.inl rfl)) ⟨rfl, trivial⟩, g0 (t_bs (C := cI) (xs := [.const (.int .i64 (-2)), .const (.int .i64 (0)), .const (.int .i64 (1))]) (ps := [.vc (pI .i64 (-2)), .vc (pI .i64 0), .vc (pI .i64 1)]) (zs := [(-2), 0, 1]) rfl tyS22 rfl ⟨⟨trivial, rfl⟩, ⟨trivial, rfl⟩, ⟨trivial, rfl⟩, trivial⟩ rfl) ⟨k_I _ _, k_I _ _, k_I _ _, trivial⟩, g0 (t_call rfl (ct_gantrylaw09_whole h47) rfl) ⟨rfl, trivial⟩, g0 (t_call rfl (ct_gantryref09_SameRow h49) rfl) ⟨rfl, rfl, trivial⟩, d0 (t_pickT rfl) ⟨rfl, rfl, trivial⟩, d0 (tr_bool (t_mv (.inl rfl)) h50) ⟨rfl, trivial⟩, g0 (t_mv (.inl rfl)) ⟨rfl, trivial⟩, g0 (t_ix rfl tyS47 h52) ⟨rfl, k_I _ _, trivial⟩, g0 (t_lM 1 rfl rfl (.one tyO24)) ⟨rfl, trivial⟩, g0 (t_bs (C := cI) (xs := [.const (.int .i64 (-2)), .const (.int .i64 (1)), .const (.int .i64 (0))]) (ps := [.vc (pI .i64 (-2)), .vc (pI .i64 1), .vc (pI .i64 0)]) (zs := [(-2), 1, 0]) rfl tyS22 rfl ⟨⟨trivial, rfl⟩, ⟨trivial, rfl⟩, ⟨trivial, rfl⟩, trivial⟩ rfl) ⟨k_I _ _, k_I _ _, k_I _ _, trivial⟩, g0 (t_call rfl (ct_gantrylaw09_whole h54) rfl) ⟨rfl, trivial⟩, g0 (t_call rfl (ct_gantryref09_SameRow h56) rfl) ⟨rfl, rfl, trivial⟩, d0 (t_pickT rfl) ⟨rfl, rfl, trivial⟩, d0 (tr_bool (t_mv (.inl rfl)) h57) ⟨rfl, trivial⟩, ⟨rfl, .skipN⟩, ⟨rfl, .skipN⟩, ⟨rfl, .skipN⟩, d0 (t_pickF rfl) ⟨rfl, k_B _, trivial⟩, d0 (t_mv (.inr rfl)) ⟨rfl, trivial⟩, trivial⟩ (fun bs44 G43 => ?_)
      refine r_nil (r_next (r_seq (r_reg (r_mv ?_))))
      refine r_mv ?_
      refine r_opn ?_
      refine r_opn ?_
      refine r_opn ?_
      refine r_opn ?_
      refine r_opn ?_
      refine r_opn ?_
      refine r_opn ?_
      refine r_opn ?_
      refine r_opn ?_
      refine r_op (t_pickF rfl) ⟨rfl, k_B _, trivial⟩ ?_
      refine r_mv ?_
      refine r_opn ?_
      refine r_opn ?_
      refine r_op (t_pickF rfl) ⟨rfl, k_B _, trivial⟩ ?_
      refine r_mv ?_
      refine r_opn ?_
      refine r_opn ?_
      refine r_opn ?_
      refine r_opn ?_
      refine r_opn ?_
      refine r_opn ?_
      refine r_opn ?_
      refine r_op (t_pickF rfl) ⟨rfl, k_B _, trivial⟩ ?_
      refine r_as ?_
      refine r_nil (r_next (r_ret (r_toR ?_)))
      obtain rfl := sm1 hF
      exact r_done1 (.inl rfl) Tryz.results44 (.tmp rfl .nil) rfl rfl
    have hF := cnd_f h50 hF
    refine r_draw [0, 1, 3, 7, 7, 23, 63, 127, 255, 511, 1023, 2047, 511, 4607, 16383, 32767, 65535, 131071, 131071, 524287, 1048575, 2097151] 22 0 [.v (.vc (pI .i64 v9.1)), .v (.vc (pB (v9.1 == 2))), .v (.vc (pB true)), .v (.vc (pS cQ v13.1)), .v (.vc (pS cI [(-2), 0, 1])), .v (.vc (pS cQ v46)), .v (.vc (pB v48)), .v (.vc (pB v48)), .v (.vc (pB false)), .v .un, .v .un, .v .un, .v .un, .v .un, .v .un, .v (.vc (pB false)), .v (.vc (pB false)), .v .un, .v .un, .v .un, .v (.vc (pB false)), .v (.vc (pB false))] Tryz_mixed ⟨d0 (t_mv (.inl rfl)) ⟨rfl, trivial⟩, d0 (t_eq rfl) ⟨rfl, k_I _ _, trivial⟩, d0 (tr_bool (t_mv (.inl rfl)) h45) ⟨rfl, trivial⟩, g0 (t_mv (.inl rfl)) ⟨rfl, trivial⟩, g0 (t_bs (C := cI) (xs := [.const (.int .i64 (-2)), .const (.int .i64 (0)), .const (.int .i64 (1))]) (ps := [.vc (pI .i64 (-2)), .vc (pI .i64 0), .vc (pI .i64 1)]) (zs := [(-2), 0, 1]) rfl tyS22 rfl ⟨⟨trivial, rfl⟩, ⟨trivial, rfl⟩, ⟨trivial, rfl⟩, trivial⟩ rfl) ⟨k_I _ _, k_I _ _, k_I _ _, trivial⟩, g0 (t_call rfl (ct_gantrylaw09_whole h47) rfl) ⟨rfl, trivial⟩, g0 (t_call rfl (ct_gantryref09_SameRow h49) rfl) ⟨rfl, rfl, trivial⟩, d0 (t_pickT rfl) ⟨rfl, rfl, trivial⟩, d0 (tr_bool (t_mv (.inl rfl)) h50) ⟨rfl, trivial⟩, ⟨rfl, .skipN⟩, ⟨rfl, .skipN⟩, ⟨rfl, .skipN⟩, ⟨rfl, .skipN⟩, ⟨rfl, .skipN⟩, ⟨rfl, .skipN⟩, d0 (t_pickF rfl) ⟨rfl, k_B _, trivial⟩, d0 (t_mv (.inl rfl)) ⟨rfl, trivial⟩, ⟨rfl, .skipN⟩, ⟨rfl, .skipN⟩, ⟨rfl, .skipN⟩, d0 (t_pickF rfl) ⟨rfl, k_B _, trivial⟩, d0 (t_mv (.inr rfl)) ⟨rfl, trivial⟩, trivial⟩ (fun bs44 G43 => ?_)
    refine r_nil (r_next (r_seq (r_reg (r_mv ?_))))
    refine r_mv ?_
    refine r_opn ?_
    refine r_opn ?_
    refine r_opn ?_
    refine r_opn ?_
    refine r_opn ?_
    refine r_opn ?_
    refine r_opn ?_
    refine r_opn ?_
    refine r_opn ?_
    refine r_op (t_pickF rfl) ⟨rfl, k_B _, trivial⟩ ?_
    refine r_mv ?_
    refine r_opn ?_
    refine r_opn ?_
    refine r_op (t_pickF rfl) ⟨rfl, k_B _, trivial⟩ ?_
    refine r_mv ?_
    refine r_opn ?_
    refine r_opn ?_
    refine r_opn ?_
    refine r_opn ?_
    refine r_opn ?_
    refine r_opn ?_
    refine r_opn ?_
    refine r_op (t_pickF rfl) ⟨rfl, k_B _, trivial⟩ ?_
    refine r_as ?_
    refine r_nil (r_next (r_ret (r_toR ?_)))
    obtain rfl := sm1 hF
    exact r_done1 (.inl rfl) Tryz.results44 (.tmp rfl .nil) rfl rfl
  have hF := cnd_f h45 hF
  refine r_draw [0, 1, 3, 7, 7, 23, 63, 127, 255, 511, 1023, 2047, 511, 4607, 16383, 32767, 65535, 131071, 131071, 524287, 1048575, 2097151] 22 0 [.v (.vc (pI .i64 v9.1)), .v (.vc (pB (v9.1 == 2))), .v (.vc (pB false)), .v .un, .v .un, .v .un, .v .un, .v (.vc (pB false)), .v (.vc (pB false)), .v .un, .v .un, .v .un, .v .un, .v .un, .v .un, .v (.vc (pB false)), .v (.vc (pB false)), .v .un, .v .un, .v .un, .v (.vc (pB false)), .v (.vc (pB false))] Tryz_mixed ⟨d0 (t_mv (.inl rfl)) ⟨rfl, trivial⟩, d0 (t_eq rfl) ⟨rfl, k_I _ _, trivial⟩, d0 (tr_bool (t_mv (.inl rfl)) h45) ⟨rfl, trivial⟩, ⟨rfl, .skipN⟩, ⟨rfl, .skipN⟩, ⟨rfl, .skipN⟩, ⟨rfl, .skipN⟩, d0 (t_pickF rfl) ⟨rfl, k_B _, trivial⟩, d0 (t_mv (.inl rfl)) ⟨rfl, trivial⟩, ⟨rfl, .skipN⟩, ⟨rfl, .skipN⟩, ⟨rfl, .skipN⟩, ⟨rfl, .skipN⟩, ⟨rfl, .skipN⟩, ⟨rfl, .skipN⟩, d0 (t_pickF rfl) ⟨rfl, k_B _, trivial⟩, d0 (t_mv (.inl rfl)) ⟨rfl, trivial⟩, ⟨rfl, .skipN⟩, ⟨rfl, .skipN⟩, ⟨rfl, .skipN⟩, d0 (t_pickF rfl) ⟨rfl, k_B _, trivial⟩, d0 (t_mv (.inr rfl)) ⟨rfl, trivial⟩, trivial⟩ (fun bs44 G43 => ?_)
  refine r_nil (r_next (r_seq (r_reg (r_mv ?_))))
  refine r_mv ?_
  refine r_opn ?_
  refine r_opn ?_
  refine r_opn ?_
  refine r_opn ?_
  refine r_opn ?_
  refine r_opn ?_
  refine r_opn ?_
  refine r_opn ?_
  refine r_opn ?_
  refine r_op (t_pickF rfl) ⟨rfl, k_B _, trivial⟩ ?_
  refine r_mv ?_
  refine r_opn ?_
  refine r_opn ?_
  refine r_op (t_pickF rfl) ⟨rfl, k_B _, trivial⟩ ?_
  refine r_mv ?_
  refine r_opn ?_
  refine r_opn ?_
  refine r_opn ?_
  refine r_opn ?_
  refine r_opn ?_
  refine r_opn ?_
  refine r_opn ?_
  refine r_op (t_pickF rfl) ⟨rfl, k_B _, trivial⟩ ?_
  refine r_as ?_
  refine r_nil (r_next (r_ret (r_toR ?_)))
  obtain rfl := sm1 hF
  exact r_done1 (.inl rfl) Tryz.results44 (.tmp rfl .nil) rfl rfl
def F_gantryref09_without_j24 (K : Nat) (x17 : List (List Rat)) : Option (List (List Rat)) :=
  some x17
def F_gantryref09_without_l23 (K : Nat) (a0 : List (List Rat)) (a1 : Int) : Nat → (List (List Rat)) → Int → Option (List (List Rat))
  | 0, _, _ => none
  | k + 1, x10, x16 => bif (decide (x16 < (a0.length : Int))) then ((rdL a0 x16).bind fun v30 => (slL v30 0 a1).bind fun x32 => (apL ([] : List Rat) x32).bind fun x34 => (rdL a0 x16).bind fun v37 => (chk (a1 + 1)).bind fun v39 => (slL v37 v39 (v37.length : Int)).bind fun x41 => (apL x34 x41).bind fun x43 => (apL x10 [x43]).bind fun x45 => (chk (x16 + 1)).bind fun v52 => F_gantryref09_without_l23 K a0 a1 k x45 v52) else (some x10)
def F_gantryref09_without (K : Nat) (a0 : List (List Rat)) (a1 : Int) : Option (List (List Rat)) :=
  (F_gantryref09_without_l23 K a0 a1 K ([] : List (List Rat)) 1).bind fun x17 => F_gantryref09_without_j24 K x17
theorem ct_gantryref09_without {K : Nat} {a0 : List (List Rat)} {a1 : Int} {r : List (List Rat)} (hF : F_gantryref09_without K a0 a1 = some r) : Ct Tryz.prog 105 [.vc (pS (cSl cQ) a0), .vc (pI .i64 a1)] (.vc (pS (cSl cQ) r)) := by
  unfold F_gantryref09_without at hF
  refine ctO_intro Tryz.func105 rfl (by kernel_rfl) Tryz.ntmps105 rfl (fun w0 M0 => ?_)
  refine r_seq (r_reg (r_op (t_mv (.inr rfl)) ⟨k_nil (cSl cQ), trivial⟩ ?_))
  refine r_nil (r_next (r_seq (r_reg (r_nilO (cSl cQ) 24 rfl ?_))))
  refine r_nil (r_next (r_seq (r_seq (r_reg (r_op (t_mv (.inr rfl)) ⟨k_I _ _, trivial⟩ ?_)))))
  refine r_nil (r_next (r_blk (r_cutN (fun H E => ∃ (x17 : List (List Rat)), ∃ (b18 : Option Nat), ∃ (c19 : Nat), ∃ (n20 : Nat), F_gantryref09_without_j24 K x17 = some r ∧ x17.length = n20 ∧ H = [hO (cSl cQ) b18 c19 24 n20 x17] ∧ E = [(5, .vc (pO b18 n20 c19))]) ?_ (fun Jj24 => ?_))))
  · rintro _ _ ⟨x17, b18, c19, n20, hF, q21, rfl, rfl⟩
    unfold F_gantryref09_without_j24 at hF
    refine r_next (r_seq (r_reg (r_mv ?_)))
    refine r_as ?_
    refine r_nil (r_next (r_ret (r_toR (r_fzX 0 [4, 5, 33] rfl q21 ⟨rfl, rfl, rfl, trivial⟩ rfl ?_))))
    obtain rfl := sm1 hF
    exact r_done1 (.inl rfl) Tryz.results105 (.tmp rfl .nil) rfl rfl
  obtain ⟨x17', hL, hRl23⟩ := bnd hF
  refine r_lp (fun k a w => ∃ (x10 : List (List Rat)), ∃ (x16 : Int), ∃ (b11 : Option Nat), ∃ (c12 : Nat), ∃ (n13 : Nat), F_gantryref09_without_l23 K a0 a1 k x10 x16 = some x17' ∧ x10.length = n13 ∧ hs _ [hO (cSl cQ) b11 c12 24 n13 x10] [(0, .vc (pS (cSl cQ) a0)), (1, .vc (pI .i64 a1)), (5, .vc (pO b11 n13 c12)), (6, .vc (pI .i64 x16))] a w) K (fun a w ⟨_, _, _, _, _, hF, _, _⟩ => by cases hF) (fun k a w ⟨x10, x16, b11, c12, n13, hF, q14, hh⟩ => r_at ?_ hh) (fun a w hh => ⟨([] : List (List Rat)), 1, none, 0, 0, hL, rfl, hs_back [0] rfl (by decide) (by exact ⟨rfl, rfl, rfl, rfl, trivial⟩) hh⟩)
  rw [F_gantryref09_without_l23.eq_2] at hF
  refine r_seq (r_seq (r_reg (r_mv ?_)))
  refine r_mv ?_
  refine r_op (t_ln rfl tyS47) ⟨rfl, trivial⟩ ?_
  refine r_op (t_lt rfl) ⟨rfl, rfl, trivial⟩ ?_
  refine r_nil (r_next (r_if rfl (fun h25 => ?_) (fun h25 => ?_)))
  · have hF := cnd_t h25 hF
    refine r_skip (r_next (r_seq (r_blk (r_seq (r_reg (r_nilO cQ 35 rfl ?_))))))
    refine r_nil (r_next ?_)
    obtain ⟨v30, h31, hF⟩ := bnd hF
    obtain ⟨x32, h33, hF⟩ := bnd hF
    obtain ⟨x34, h35, hF⟩ := bnd hF
    obtain ⟨v37, h38, hF⟩ := bnd hF
    obtain ⟨v39, h40, hF⟩ := bnd hF
    obtain ⟨x41, h42, hF⟩ := bnd hF
    obtain ⟨x43, h44, hF⟩ := bnd hF
    refine r_drawH (HsL [fun G28 => [hO cQ none 0 35 0 ([] : List Rat), hO (cSl cQ) b11 c12 24 n13 x10], fun G28 => [hO cQ ((G28 8).1) ((G28 8).2) 35 (0 + x32.length) x34, hO (cSl cQ) b11 c12 24 n13 x10], fun G28 => [hO (cSl cQ) b11 c12 24 n13 x10]]) [8, 16] [0, 0, 0, 0, 12, 28, 0, 124, 254, 0, 0, 1536, 3584, 0, 8192, 32256, 65534, 131070, 262143, 524287] 18 2 [.v (.vc (pO b11 n13 c12)), .v (.vc (pO none 0 0)), .v (.vc (pS (cSl cQ) a0)), .v (.vc (pI .i64 x16)), .v (.vc (pM ((cSl cQ).e v30))), .v (.vc (pS cQ v30)), .v (.vc (pI .i64 a1)), .v (.vc (pS cQ x32)), .g (fun b c => .vc (pO b (0 + x32.length) c)), .v (.vc (pS (cSl cQ) a0)), .v (.vc (pI .i64 x16)), .v (.vc (pM ((cSl cQ).e v37))), .v (.vc (pS cQ v37)), .v (.vc (pI .i64 a1)), .v (.vc (pI .i64 v39)), .v (.vc (pS cQ x41)), .g (fun _ _ => .vc (pS cQ x43)), .v (.vc (pS (cSl cQ) [x43]))] Tryz_mixed ⟨⟨rfl, .run (lo := 0) (n := 3) ⟨fun G28 A => t_mv (.inl rfl), fun G28 A => t_mv (.inl rfl), fun G28 A => t_mv (.inl rfl), trivial⟩ (fun G28 => ⟨rfl, trivial⟩)⟩, d1 0 (t_mv (.inl rfl)) ⟨rfl, trivial⟩, d1 0 (t_mv (.inl rfl)) ⟨rfl, trivial⟩, d1 0 (t_mv (.inl rfl)) ⟨rfl, trivial⟩, d1 0 (t_ix rfl tyS47 h31) ⟨rfl, rfl, trivial⟩, d1 0 (t_lM 1 rfl rfl (.one tyO24)) ⟨rfl, trivial⟩, d1 0 (t_mv (.inl rfl)) ⟨rfl, trivial⟩, d1 0 (t_cutH rfl tyS24 h33) ⟨rfl, rfl, trivial⟩, ⟨rfl, .hvy 0 (fun G28 A => hv_app 0 rfl tyS24 rfl rfl rfl h35) (fun G28 => ⟨rfl, rfl, trivial⟩)⟩, ⟨rfl, .run (lo := 0) (n := 2) ⟨fun G28 A => t_mv (.inl rfl), fun G28 A => t_mv (.inl rfl), trivial⟩ (fun G28 => ⟨rfl, trivial⟩)⟩, ⟨rfl, .run (lo := 0) (n := 2) ⟨fun G28 A => t_mv (.inl rfl), fun G28 A => t_mv (.inl rfl), trivial⟩ (fun G28 => ⟨rfl, trivial⟩)⟩, ⟨rfl, .run (lo := 0) (n := 2) ⟨fun G28 A => t_ix rfl tyS47 h38, fun G28 A => t_ix rfl tyS47 h38, trivial⟩ (fun G28 => ⟨rfl, rfl, trivial⟩)⟩, ⟨rfl, .run (lo := 0) (n := 2) ⟨fun G28 A => t_lM 1 rfl rfl (.one tyO24), fun G28 A => t_lM 1 rfl rfl (.one tyO24), trivial⟩ (fun G28 => ⟨rfl, trivial⟩)⟩, ⟨rfl, .run (lo := 0) (n := 2) ⟨fun G28 A => t_mv (.inl rfl), fun G28 A => t_mv (.inl rfl), trivial⟩ (fun G28 => ⟨rfl, trivial⟩)⟩, ⟨rfl, .run (lo := 0) (n := 2) ⟨fun G28 A => t_add rfl h40, fun G28 A => t_add rfl h40, trivial⟩ (fun G28 => ⟨rfl, k_I _ _, trivial⟩)⟩, ⟨rfl, .run (lo := 0) (n := 2) ⟨fun G28 A => t_cutL rfl tyS24 h42, fun G28 A => t_cutL rfl tyS24 h42, trivial⟩ (fun G28 => ⟨rfl, rfl, trivial⟩)⟩, ⟨rfl, .hvy 1 (fun G28 A => hv_tr (tr_frz 0 (hv_app 0 rfl tyS24 rfl rfl (apL_len h35 rfl) h44) (fun _ _ => rfl) (apL_len h44 (apL_len h35 rfl)) (fun _ _ => rfl))) (fun G28 => ⟨rfl, rfl, trivial⟩)⟩, d1 2 (t_bs (C := (cSl cQ)) (xs := [.tmp 30]) (ps := [.vc (pS cQ x43)]) (zs := [x43]) rfl tyS47 rfl ⟨⟨trivial, rfl⟩, trivial⟩ rfl) ⟨rfl, trivial⟩, trivial⟩ (fun bs29 G28 => ?_)
    obtain ⟨x45, h46, hF⟩ := bnd hF
    refine r_app 0 rfl tyS47 rfl rfl q14 rfl rfl h46 (fun b47 c48 H49 e50 => ?_)
    cases e50
    refine r_as ?_
    refine r_nil (r_blkN (r_next (r_reg (r_mv ?_))))
    obtain ⟨v52, h53, hF⟩ := bnd hF
    refine r_op (t_add rfl h53) ⟨rfl, k_I _ _, trivial⟩ ?_
    refine r_as ?_
    refine r_nil ?_
    exact r_round (fun a w hh => ⟨x45, v52, b47, c48, (n13 + [x43].length), hF, (apL_len h46 q14), hs_back [0] rfl (by decide) (by exact ⟨rfl, rfl, rfl, rfl, trivial⟩) hh⟩)
  have hF := cnd_f h25 hF
  refine r_brk ?_
  obtain rfl := sm1 hF
  exact r_backJ Jj24 ⟨x10, b11, c12, n13, hRl23, q14, rfl, rfl⟩ [0] rfl ⟨rfl, trivial⟩
def F_gantryref09_Det_b_j12 (K : Nat) (x10 : Rat) : Option Rat :=
  some x10
def F_gantryref09_Det_b_l11 (K : Nat) (a0 : List (List Rat)) (self : (List (List Rat)) → Option Rat) : Nat → Rat → Int → Option Rat
  | 0, _, _ => none
  | k + 1, x8, x9 => bif (decide (x9 < (a0.length : Int))) then ((rdL a0 0).bind fun v14 => (rdL v14 x9).bind fun v16 => (qsgn v16).bind fun v18 => bif (v18 == 0) then ((chk (x9 + 1)).bind fun v21 => F_gantryref09_Det_b_l11 K a0 self k x8 v21) else ((rdL a0 0).bind fun v25 => (rdL v25 x9).bind fun v27 => (F_gantryref09_without K a0 x9).bind fun v29 => (self v29).bind fun v31 => (qmul v27 v31).bind fun v33 => (chr x9 2).bind fun v35 => bif (v35 == 1) then ((qneg v33).bind fun v38 => (qadd x8 v38).bind fun v40 => (chk (x9 + 1)).bind fun v42 => F_gantryref09_Det_b_l11 K a0 self k v40 v42) else ((qadd x8 v33).bind fun v44 => (chk (x9 + 1)).bind fun v46 => F_gantryref09_Det_b_l11 K a0 self k v44 v46))) else (some x8)
def F_gantryref09_Det_b (K : Nat) (self : (List (List Rat)) → Option Rat) (a0 : List (List Rat)) : Option Rat :=
  bif ((a0.length : Int) == 0) then ((qof 1 1).bind fun v3 => some v3) else ((F_gantryref09_Det_b_l11 K a0 self K 0 0).bind fun x10 => F_gantryref09_Det_b_j12 K x10)
theorem ct_gantryref09_Det_b {K : Nat} {self : (List (List Rat)) → Option Rat} (hself : ∀ {a0 : List (List Rat)} {r : Rat}, self a0 = some r → Ct Tryz.prog 45 [.vc (pS (cSl cQ) a0)] (.va (eQ r))) {a0 : List (List Rat)} {r : Rat} (hF : F_gantryref09_Det_b K self a0 = some r) : Ct Tryz.prog 45 [.vc (pS (cSl cQ) a0)] (.va (eQ r)) := by
  unfold F_gantryref09_Det_b at hF
  refine ctO_intro Tryz.func45 rfl (by kernel_rfl) Tryz.ntmps45 rfl (fun w0 M0 => ?_)
  refine r_seq (r_reg (r_alloc rfl tyZ35q (fun b1 => ?_)))
  refine r_nil (r_next (r_seq (r_seq (r_reg (r_mv ?_)))))
  refine r_op (t_ln rfl tyS47) ⟨rfl, trivial⟩ ?_
  refine r_op (t_eq rfl) ⟨rfl, k_I _ _, trivial⟩ ?_
  refine r_nil (r_next (r_if rfl (fun h2 => ?_) (fun h2 => ?_)))
  · have hF := cnd_t h2 hF
    refine r_seq (r_reg ?_)
    obtain ⟨v3, h4, hF⟩ := bnd hF
    refine r_op (t_call rfl (qc_gantryref05_Of h4) rfl) ⟨k_I _ _, k_I _ _, trivial⟩ ?_
    refine r_op0 (t_s 0 rfl rfl rfl tyA35.s) ⟨rfl, rfl, trivial⟩ ?_
    refine r_nil (r_next (r_ret (r_toR ?_)))
    obtain rfl := sm1 hF
    exact r_done1 (.inl rfl) Tryz.results45 (rv_cell 0 4 rfl rfl rfl rfl (.agg tyA35) .nil) rfl rfl
  have hF := cnd_f h2 hF
  refine r_skip (r_next (r_seq (r_reg (r_alloc rfl tyZ35q (fun b5 => ?_)))))
  refine r_nil (r_next (r_seq (r_seq (r_reg (r_op (t_mv (.inr rfl)) ⟨k_I _ _, trivial⟩ ?_)))))
  refine r_nil (r_next (r_blk (r_cutN (fun H E => ∃ (x10 : Rat), F_gantryref09_Det_b_j12 K x10 = some r ∧ H = [⟨some b5, 1, 35, 4, 1, (eQ x10)⟩, ⟨some b1, 1, 35, 4, 1, (eQ 0)⟩] ∧ E = [(2, .vc (pP (some b1) 0)), (3, .vc (pP (some b5) 0))]) ?_ (fun Jj12 => ?_))))
  · rintro _ _ ⟨x10, hF, rfl, rfl⟩
    unfold F_gantryref09_Det_b_j12 at hF
    refine r_next (r_seq (r_reg (r_op (t_l 0 4 rfl rfl rfl rfl (.agg tyA35)) ⟨rfl, trivial⟩ ?_)))
    refine r_op0 (t_s 1 rfl rfl rfl tyA35.s) ⟨rfl, rfl, trivial⟩ ?_
    refine r_nil (r_next (r_ret (r_toR ?_)))
    obtain rfl := sm1 hF
    exact r_done1 (.inl rfl) Tryz.results45 (rv_cell 1 4 rfl rfl rfl rfl (.agg tyA35) .nil) rfl rfl
  obtain ⟨x10', hL, hRl11⟩ := bnd hF
  refine r_lp (fun k a w => ∃ (x8 : Rat), ∃ (x9 : Int), F_gantryref09_Det_b_l11 K a0 self k x8 x9 = some x10' ∧ hs _ [⟨some b5, 1, 35, 4, 1, (eQ x8)⟩, ⟨some b1, 1, 35, 4, 1, (eQ 0)⟩] [(0, .vc (pS (cSl cQ) a0)), (2, .vc (pP (some b1) 0)), (3, .vc (pP (some b5) 0)), (4, .vc (pI .i64 x9))] a w) K (fun a w ⟨_, _, hF, _⟩ => by cases hF) (fun k a w ⟨x8, x9, hF, hh⟩ => r_at ?_ hh) (fun a w hh => ⟨0, 0, hL, hs_back [0, 1] rfl (by decide) (by exact ⟨rfl, rfl, rfl, rfl, trivial⟩) hh⟩)
  rw [F_gantryref09_Det_b_l11.eq_2] at hF
  refine r_seq (r_seq (r_reg (r_mv ?_)))
  refine r_mv ?_
  refine r_op (t_ln rfl tyS47) ⟨rfl, trivial⟩ ?_
  refine r_op (t_lt rfl) ⟨rfl, rfl, trivial⟩ ?_
  refine r_nil (r_next (r_if rfl (fun h13 => ?_) (fun h13 => ?_)))
  · have hF := cnd_t h13 hF
    refine r_skip (r_next (r_seq (r_blk (r_seq (r_seq (r_reg (r_mv ?_)))))))
    obtain ⟨v14, h15, hF⟩ := bnd hF
    refine r_op (t_ix rfl tyS47 h15) ⟨rfl, k_I _ _, trivial⟩ ?_
    refine r_op (t_lM 1 rfl rfl (.one tyO24)) ⟨rfl, trivial⟩ ?_
    refine r_mv ?_
    obtain ⟨v16, h17, hF⟩ := bnd hF
    refine r_op (t_ix rfl tyS24 h17) ⟨rfl, rfl, trivial⟩ ?_
    refine r_op (t_lM 4 rfl rfl (.agg tyA35)) ⟨rfl, trivial⟩ ?_
    obtain ⟨v18, h19, hF⟩ := bnd hF
    refine r_op (t_call rfl (qc_gantryref05_Sign h19) rfl) ⟨rfl, trivial⟩ ?_
    refine r_op (t_eq rfl) ⟨rfl, k_I _ _, trivial⟩ ?_
    refine r_nil (r_next (r_if rfl (fun h20 => ?_) (fun h20 => ?_)))
    · have hF := cnd_t h20 hF
      refine r_brk (r_next (r_reg (r_mv ?_)))
      obtain ⟨v21, h22, hF⟩ := bnd hF
      refine r_op (t_add rfl h22) ⟨rfl, k_I _ _, trivial⟩ ?_
      refine r_as ?_
      refine r_nil ?_
      exact r_round (fun a w hh => ⟨x8, v21, hF, hs_back [0, 1] rfl (by decide) (by exact ⟨rfl, rfl, rfl, rfl, trivial⟩) hh⟩)
    have hF := cnd_f h20 hF
    refine r_skip (r_next (r_seq ?_))
    obtain ⟨v25, h26, hF⟩ := bnd hF
    obtain ⟨v27, h28, hF⟩ := bnd hF
    obtain ⟨v29, h30, hF⟩ := bnd hF
    obtain ⟨v31, h32, hF⟩ := bnd hF
    obtain ⟨v33, h34, hF⟩ := bnd hF
    refine r_draw [0, 1, 3, 0, 15, 31, 0, 0, 192, 448, 1023, 0, 4095] 12 1 [.v (.vc (pS (cSl cQ) a0)), .v (.vc (pM ((cSl cQ).e v25))), .v (.vc (pS cQ v25)), .v (.vc (pI .i64 x9)), .v (.vc (pM (cQ.e v27))), .v (.va (eQ v27)), .v (.vc (pS (cSl cQ) a0)), .v (.vc (pI .i64 x9)), .v (.vc (pS (cSl cQ) v29)), .v (.va (eQ v31)), .v (.va (eQ v33)), .a 35 (eQ 0)] Tryz_mixed ⟨d0 (t_mv (.inl rfl)) ⟨rfl, trivial⟩, d0 (t_ix rfl tyS47 h26) ⟨rfl, k_I _ _, trivial⟩, d0 (t_lM 1 rfl rfl (.one tyO24)) ⟨rfl, trivial⟩, d0 (t_mv (.inl rfl)) ⟨rfl, trivial⟩, d0 (t_ix rfl tyS24 h28) ⟨rfl, rfl, trivial⟩, d0 (t_lM 4 rfl rfl (.agg tyA35)) ⟨rfl, trivial⟩, d0 (t_mv (.inl rfl)) ⟨rfl, trivial⟩, d0 (t_mv (.inl rfl)) ⟨rfl, trivial⟩, d0 (t_call rfl (ct_gantryref09_without h30) rfl) ⟨rfl, rfl, trivial⟩, d0 (t_call rfl (hself h32) rfl) ⟨rfl, trivial⟩, d0 (t_call rfl (qc_gantryref05_Mul h34) rfl) ⟨rfl, rfl, trivial⟩, ⟨rfl, .alc tyZ35q⟩, trivial⟩ (fun bs24 G23 => ?_)
    refine r_op0 (t_s 0 rfl rfl rfl tyA35.s) ⟨rfl, rfl, trivial⟩ ?_
    refine r_nil (r_next (r_seq (r_seq (r_reg (r_mv ?_)))))
    obtain ⟨v35, h36, hF⟩ := bnd hF
    refine r_op (t_rem rfl h36) ⟨rfl, k_I _ _, trivial⟩ ?_
    refine r_op (t_eq rfl) ⟨rfl, k_I _ _, trivial⟩ ?_
    refine r_nil (r_next (r_if rfl (fun h37 => ?_) (fun h37 => ?_)))
    · have hF := cnd_t h37 hF
      refine r_reg (r_op (t_l 0 4 rfl rfl rfl rfl (.agg tyA35)) ⟨rfl, trivial⟩ ?_)
      obtain ⟨v38, h39, hF⟩ := bnd hF
      refine r_op (t_call rfl (qc_gantryref05_Neg h39) rfl) ⟨rfl, trivial⟩ ?_
      refine r_op0 (t_s 0 rfl rfl rfl tyA35.s) ⟨rfl, rfl, trivial⟩ ?_
      refine r_nil (r_next (r_reg (r_op (t_l 1 4 rfl rfl rfl rfl (.agg tyA35)) ⟨rfl, trivial⟩ ?_)))
      refine r_op (t_l 0 4 rfl rfl rfl rfl (.agg tyA35)) ⟨rfl, trivial⟩ ?_
      obtain ⟨v40, h41, hF⟩ := bnd hF
      refine r_op (t_call rfl (qc_gantryref05_Add h41) rfl) ⟨rfl, rfl, trivial⟩ ?_
      refine r_op0 (t_s 1 rfl rfl rfl tyA35.s) ⟨rfl, rfl, trivial⟩ ?_
      refine r_nil (r_blkN (r_next (r_reg (r_mv ?_))))
      obtain ⟨v42, h43, hF⟩ := bnd hF
      refine r_op (t_add rfl h43) ⟨rfl, k_I _ _, trivial⟩ ?_
      refine r_as ?_
      refine r_nil ?_
      exact r_round (fun a w hh => ⟨v40, v42, hF, hs_back [1, 2] rfl (by decide) (by exact ⟨rfl, rfl, rfl, rfl, trivial⟩) hh⟩)
    have hF := cnd_f h37 hF
    refine r_skip (r_next (r_reg (r_op (t_l 1 4 rfl rfl rfl rfl (.agg tyA35)) ⟨rfl, trivial⟩ ?_)))
    refine r_op (t_l 0 4 rfl rfl rfl rfl (.agg tyA35)) ⟨rfl, trivial⟩ ?_
    obtain ⟨v44, h45, hF⟩ := bnd hF
    refine r_op (t_call rfl (qc_gantryref05_Add h45) rfl) ⟨rfl, rfl, trivial⟩ ?_
    refine r_op0 (t_s 1 rfl rfl rfl tyA35.s) ⟨rfl, rfl, trivial⟩ ?_
    refine r_nil (r_blkN (r_next (r_reg (r_mv ?_))))
    obtain ⟨v46, h47, hF⟩ := bnd hF
    refine r_op (t_add rfl h47) ⟨rfl, k_I _ _, trivial⟩ ?_
    refine r_as ?_
    refine r_nil ?_
    exact r_round (fun a w hh => ⟨v44, v46, hF, hs_back [1, 2] rfl (by decide) (by exact ⟨rfl, rfl, rfl, rfl, trivial⟩) hh⟩)
  have hF := cnd_f h13 hF
  refine r_brk ?_
  obtain rfl := sm1 hF
  exact r_backJ Jj12 ⟨x8, hRl11, rfl, rfl⟩ [0, 1] rfl ⟨rfl, rfl, trivial⟩
def F_gantryref09_Det_r (K : Nat) : Nat → (List (List Rat)) → Option Rat
  | 0, _ => none
  | k + 1, a0 => F_gantryref09_Det_b K (F_gantryref09_Det_r K k) a0
theorem ct_gantryref09_Det_r {K : Nat} : ∀ (k : Nat) {a0 : List (List Rat)} {r : Rat}, F_gantryref09_Det_r K k a0 = some r → Ct Tryz.prog 45 [.vc (pS (cSl cQ) a0)] (.va (eQ r))
  | 0, _, _, h => by cases h
  | k + 1, _, _, h => ct_gantryref09_Det_b (fun h => ct_gantryref09_Det_r k h) h
def F_gantryref09_Det (K : Nat) (a0 : List (List Rat)) : Option Rat := F_gantryref09_Det_r K K a0
theorem ct_gantryref09_Det {K : Nat} {a0 : List (List Rat)} {r : Rat} (hF : F_gantryref09_Det K a0 = some r) : Ct Tryz.prog 45 [.vc (pS (cSl cQ) a0)] (.va (eQ r)) := ct_gantryref09_Det_r K hF
def F_gantryref09_Turn_j24 (K : Nat) (x17 : List (List Rat)) : Option (List (List Rat)) :=
  some x17
def F_gantryref09_Turn_j51 (K : Nat) (x10 : List (List Rat)) (x16 : Int) (recl23 : (List (List Rat)) → Int → Option (List (List Rat))) (x44 : List Rat) : Option (List (List Rat)) :=
  (apL x10 [x44]).bind fun x52 => (chk (x16 + 1)).bind fun v59 => recl23 x52 v59
def F_gantryref09_Turn_l50 (K : Nat) (a0 : List (List Rat)) (x16 : Int) : Nat → (List Rat) → Int → Option (List Rat)
  | 0, _, _ => none
  | k + 1, x37, x43 => bif (decide (x43 < (a0.length : Int))) then ((rdL a0 x43).bind fun v62 => (rdL v62 x16).bind fun v64 => (apL x37 [v64]).bind fun x66 => (chk (x43 + 1)).bind fun v73 => F_gantryref09_Turn_l50 K a0 x16 k x66 v73) else (some x37)
def F_gantryref09_Turn_l23 (K : Nat) (a0 : List (List Rat)) : Nat → (List (List Rat)) → Int → Option (List (List Rat))
  | 0, _, _ => none
  | k + 1, x10, x16 => (F_gantryref09_Cols a0).bind fun v25 => bif (decide (x16 < v25)) then ((F_gantryref09_Turn_l50 K a0 x16 K ([] : List Rat) 0).bind fun x44 => F_gantryref09_Turn_j51 K x10 x16 (F_gantryref09_Turn_l23 K a0 k) x44) else (some x10)
def F_gantryref09_Turn (K : Nat) (a0 : List (List Rat)) : Option (List (List Rat)) :=
  (F_gantryref09_Turn_l23 K a0 K ([] : List (List Rat)) 0).bind fun x17 => F_gantryref09_Turn_j24 K x17
theorem ct_gantryref09_Turn {K : Nat} {a0 : List (List Rat)} {r : List (List Rat)} (hF : F_gantryref09_Turn K a0 = some r) : Ct Tryz.prog 62 [.vc (pS (cSl cQ) a0)] (.vc (pS (cSl cQ) r)) := by
  unfold F_gantryref09_Turn at hF
  refine ctO_intro Tryz.func62 rfl (by kernel_rfl) Tryz.ntmps62 rfl (fun w0 M0 => ?_)
  refine r_seq (r_reg (r_op (t_mv (.inr rfl)) ⟨k_nil (cSl cQ), trivial⟩ ?_))
  refine r_nil (r_next (r_seq (r_reg (r_nilO (cSl cQ) 24 rfl ?_))))
  refine r_nil (r_next (r_seq (r_seq (r_reg (r_op (t_mv (.inr rfl)) ⟨k_I _ _, trivial⟩ ?_)))))
  refine r_nil (r_next (r_blk (r_cutN (fun H E => ∃ (x17 : List (List Rat)), ∃ (b18 : Option Nat), ∃ (c19 : Nat), ∃ (n20 : Nat), F_gantryref09_Turn_j24 K x17 = some r ∧ x17.length = n20 ∧ H = [hO (cSl cQ) b18 c19 24 n20 x17] ∧ E = [(3, .vc (pO b18 n20 c19))]) ?_ (fun Jj24 => ?_))))
  · rintro _ _ ⟨x17, b18, c19, n20, hF, q21, rfl, rfl⟩
    unfold F_gantryref09_Turn_j24 at hF
    refine r_next (r_seq (r_reg (r_mv ?_)))
    refine r_as ?_
    refine r_nil (r_next (r_ret (r_toR (r_fzX 0 [2, 3, 33] rfl q21 ⟨rfl, rfl, rfl, trivial⟩ rfl ?_))))
    obtain rfl := sm1 hF
    exact r_done1 (.inl rfl) Tryz.results62 (.tmp rfl .nil) rfl rfl
  obtain ⟨x17', hL, hRl23⟩ := bnd hF
  refine r_lp (fun k a w => ∃ (x10 : List (List Rat)), ∃ (x16 : Int), ∃ (b11 : Option Nat), ∃ (c12 : Nat), ∃ (n13 : Nat), F_gantryref09_Turn_l23 K a0 k x10 x16 = some x17' ∧ x10.length = n13 ∧ hs _ [hO (cSl cQ) b11 c12 24 n13 x10] [(0, .vc (pS (cSl cQ) a0)), (3, .vc (pO b11 n13 c12)), (4, .vc (pI .i64 x16))] a w) K (fun a w ⟨_, _, _, _, _, hF, _, _⟩ => by cases hF) (fun k a w ⟨x10, x16, b11, c12, n13, hF, q14, hh⟩ => r_at ?_ hh) (fun a w hh => ⟨([] : List (List Rat)), 0, none, 0, 0, hL, rfl, hs_back [0] rfl (by decide) (by exact ⟨rfl, rfl, rfl, trivial⟩) hh⟩)
  rw [F_gantryref09_Turn_l23.eq_2] at hF
  refine r_seq (r_seq (r_reg (r_mv ?_)))
  refine r_mv ?_
  obtain ⟨v25, h26, hF⟩ := bnd hF
  refine r_op (t_call rfl (ct_gantryref09_Cols h26) rfl) ⟨rfl, trivial⟩ ?_
  refine r_op (t_lt rfl) ⟨rfl, rfl, trivial⟩ ?_
  refine r_nil (r_next (r_if rfl (fun h27 => ?_) (fun h27 => ?_)))
  · have hF := cnd_t h27 hF
    refine r_skip (r_next (r_seq (r_blk (r_seq (r_reg (r_nilO cQ 35 rfl ?_))))))
    refine r_nil (r_next (r_seq (r_seq (r_reg (r_op (t_mv (.inr rfl)) ⟨k_I _ _, trivial⟩ ?_)))))
    refine r_nil (r_next (r_blk (r_cutN (fun H E => ∃ (x44 : List Rat), ∃ (b45 : Option Nat), ∃ (c46 : Nat), ∃ (n47 : Nat), F_gantryref09_Turn_j51 K x10 x16 (F_gantryref09_Turn_l23 K a0 k) x44 = some x17' ∧ x44.length = n47 ∧ H = [hO cQ b45 c46 35 n47 x44, hO (cSl cQ) b11 c12 24 n13 x10] ∧ E = [(0, .vc (pS (cSl cQ) a0)), (3, .vc (pO b11 n13 c12)), (4, .vc (pI .i64 x16)), (5, .vc (pO b45 n47 c46))]) ?_ (fun Jj51 => ?_))))
    · rintro _ _ ⟨x44, b45, c46, n47, hF, q48, rfl, rfl⟩
      unfold F_gantryref09_Turn_j51 at hF
      refine r_next (r_reg (r_mv ?_))
      refine r_mv ?_
      refine r_fzL 0 [5, 30] rfl q48 ⟨rfl, rfl, trivial⟩ rfl ?_
      refine r_op (t_bs (C := (cSl cQ)) (xs := [.tmp 30]) (ps := [.vc (pS cQ x44)]) (zs := [x44]) rfl tyS47 rfl ⟨⟨trivial, rfl⟩, trivial⟩ rfl) ⟨rfl, trivial⟩ ?_
      obtain ⟨x52, h53, hF⟩ := bnd hF
      refine r_app 0 rfl tyS47 rfl rfl q14 rfl rfl h53 (fun b54 c55 H56 e57 => ?_)
      cases e57
      refine r_as ?_
      refine r_nil (r_blkN (r_next (r_reg (r_mv ?_))))
      obtain ⟨v59, h60, hF⟩ := bnd hF
      refine r_op (t_add rfl h60) ⟨rfl, k_I _ _, trivial⟩ ?_
      refine r_as ?_
      refine r_nil ?_
      exact r_round (fun a w hh => ⟨x52, v59, b54, c55, (n13 + [x44].length), hF, (apL_len h53 q14), hs_back [0] rfl (by decide) (by exact ⟨rfl, rfl, rfl, trivial⟩) hh⟩)
    obtain ⟨x44', hL, hRl50⟩ := bnd hF
    refine r_lp (fun k a w => ∃ (x37 : List Rat), ∃ (x43 : Int), ∃ (b38 : Option Nat), ∃ (c39 : Nat), ∃ (n40 : Nat), F_gantryref09_Turn_l50 K a0 x16 k x37 x43 = some x44' ∧ x37.length = n40 ∧ hs _ [hO cQ b38 c39 35 n40 x37, hO (cSl cQ) b11 c12 24 n13 x10] [(0, .vc (pS (cSl cQ) a0)), (3, .vc (pO b11 n13 c12)), (4, .vc (pI .i64 x16)), (5, .vc (pO b38 n40 c39)), (6, .vc (pI .i64 x43))] a w) K (fun a w ⟨_, _, _, _, _, hF, _, _⟩ => by cases hF) (fun k a w ⟨x37, x43, b38, c39, n40, hF, q41, hh⟩ => r_at ?_ hh) (fun a w hh => ⟨([] : List Rat), 0, none, 0, 0, hL, rfl, hs_back [0, 1] rfl (by decide) (by exact ⟨rfl, rfl, rfl, rfl, rfl, trivial⟩) hh⟩)
    rw [F_gantryref09_Turn_l50.eq_2] at hF
    refine r_seq (r_seq (r_reg (r_mv ?_)))
    refine r_mv ?_
    refine r_op (t_ln rfl tyS47) ⟨rfl, trivial⟩ ?_
    refine r_op (t_lt rfl) ⟨rfl, rfl, trivial⟩ ?_
    refine r_nil (r_next (r_if rfl (fun h61 => ?_) (fun h61 => ?_)))
    · have hF := cnd_t h61 hF
      refine r_skip (r_next (r_seq (r_blk (r_reg (r_mv ?_)))))
      refine r_mv ?_
      refine r_mv ?_
      obtain ⟨v62, h63, hF⟩ := bnd hF
      refine r_op (t_ix rfl tyS47 h63) ⟨rfl, rfl, trivial⟩ ?_
      refine r_op (t_lM 1 rfl rfl (.one tyO24)) ⟨rfl, trivial⟩ ?_
      refine r_mv ?_
      obtain ⟨v64, h65, hF⟩ := bnd hF
      refine r_op (t_ix rfl tyS24 h65) ⟨rfl, rfl, trivial⟩ ?_
      refine r_op (t_lM 4 rfl rfl (.agg tyA35)) ⟨rfl, trivial⟩ ?_
      refine r_op (t_bs (C := cQ) (xs := [.tmp 26]) (ps := [.va (eQ v64)]) (zs := [v64]) rfl tyS24 rfl ⟨⟨trivial, rfl⟩, trivial⟩ rfl) ⟨rfl, trivial⟩ ?_
      obtain ⟨x66, h67, hF⟩ := bnd hF
      refine r_app 0 rfl tyS24 rfl rfl q41 rfl rfl h67 (fun b68 c69 H70 e71 => ?_)
      cases e71
      refine r_as ?_
      refine r_nil (r_blkN (r_next (r_reg (r_mv ?_))))
      obtain ⟨v73, h74, hF⟩ := bnd hF
      refine r_op (t_add rfl h74) ⟨rfl, k_I _ _, trivial⟩ ?_
      refine r_as ?_
      refine r_nil ?_
      exact r_round (fun a w hh => ⟨x66, v73, b68, c69, (n40 + [v64].length), hF, (apL_len h67 q41), hs_back [0, 1] rfl (by decide) (by exact ⟨rfl, rfl, rfl, rfl, rfl, trivial⟩) hh⟩)
    have hF := cnd_f h61 hF
    refine r_brk ?_
    obtain rfl := sm1 hF
    exact r_backJ Jj51 ⟨x37, b38, c39, n40, hRl50, q41, rfl, rfl⟩ [0, 1] rfl ⟨rfl, rfl, rfl, rfl, trivial⟩
  have hF := cnd_f h27 hF
  refine r_brk ?_
  obtain rfl := sm1 hF
  exact r_backJ Jj24 ⟨x10, b11, c12, n13, hRl23, q14, rfl, rfl⟩ [0] rfl ⟨rfl, trivial⟩
end Go.Proofs.YtkjnngaceacmdaaGreat
