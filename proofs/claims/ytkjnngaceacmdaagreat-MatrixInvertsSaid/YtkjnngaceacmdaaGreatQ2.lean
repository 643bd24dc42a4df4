import Derived.Test.YtkjnngaceacmdaaGreatQ1
set_option linter.unusedVariables false
set_option maxRecDepth 100000
namespace Go.Proofs.YtkjnngaceacmdaaGreat
def F_gantryref09_Valid_j5 (K : Nat) : Option Bool :=
  some true
def F_gantryref09_Valid_l4 (K : Nat) (a0 : List (List Rat)) : Nat → Int → Option (LR Bool Unit)
  | 0, _ => none
  | k + 1, x3 => bif (decide (x3 < (a0.length : Int))) then ((rdL a0 x3).bind fun v9 => (rdL a0 0).bind fun v11 => bif ((v9.length : Int) != (v11.length : Int)) then (some (.ret false)) else ((rdL a0 x3).bind fun v14 => bif (decide (64 < (v14.length : Int))) then (some (.ret false)) else ((chk (x3 + 1)).bind fun v17 => F_gantryref09_Valid_l4 K a0 k v17))) else (some (.go ()))
def F_gantryref09_Valid (K : Nat) (a0 : List (List Rat)) : Option Bool :=
  bif (decide (64 < (a0.length : Int))) then (some false) else ((F_gantryref09_Valid_l4 K a0 K 0).bind fun o => match o with | .ret r => some r | .go _ => F_gantryref09_Valid_j5 K )
theorem ct_gantryref09_Valid {K : Nat} {a0 : List (List Rat)} {r : Bool} (hF : F_gantryref09_Valid K a0 = some r) : Ct Tryz.prog 119 [.vc (pS (cSl cQ) a0)] (.vc (pB r)) := by
  unfold F_gantryref09_Valid at hF
  refine ctO_intro Tryz.func119 rfl (by kernel_rfl) Tryz.ntmps119 rfl (fun w0 M0 => ?_)
  refine r_seq (r_reg (r_op (t_mv (.inr rfl)) ⟨k_B _, trivial⟩ ?_))
  refine r_nil (r_next (r_seq (r_seq (r_reg (r_mv ?_)))))
  refine r_op (t_ln rfl tyS47) ⟨rfl, trivial⟩ ?_
  refine r_op (t_gt rfl) ⟨rfl, k_I _ _, trivial⟩ ?_
  refine r_nil (r_next (r_if rfl (fun h1 => ?_) (fun h1 => ?_)))
  · have hF := cnd_t h1 hF
    refine r_seq (r_reg (r_op (t_mv (.inr rfl)) ⟨k_B _, trivial⟩ ?_))
    refine r_nil (r_next (r_ret (r_toR ?_)))
    obtain rfl := sm1 hF
    exact r_done1 (.inl rfl) Tryz.results119 (.tmp rfl .nil) rfl rfl
  have hF := cnd_f h1 hF
  refine r_skip (r_next (r_seq (r_seq (r_reg (r_op (t_mv (.inr rfl)) ⟨k_I _ _, trivial⟩ ?_)))))
  refine r_nil (r_next (r_blk (r_cutN (fun H E => F_gantryref09_Valid_j5 K = some r ∧ H = [] ∧ E = []) ?_ (fun Jj5 => ?_))))
  · rintro _ _ ⟨hF, rfl, rfl⟩
    unfold F_gantryref09_Valid_j5 at hF
    refine r_next (r_seq (r_reg (r_op (t_mv (.inr rfl)) ⟨k_B _, trivial⟩ ?_)))
    refine r_nil (r_next (r_ret (r_toR ?_)))
    obtain rfl := sm1 hF
    exact r_done1 (.inl rfl) Tryz.results119 (.tmp rfl .nil) rfl rfl
  obtain ⟨ol4, hL, hRl4⟩ := bnd hF
  refine r_lp (fun k a w => ∃ (x3 : Int), F_gantryref09_Valid_l4 K a0 k x3 = some ol4 ∧ hs _ [] [(0, .vc (pS (cSl cQ) a0)), (3, .vc (pI .i64 x3))] a w) K (fun a w ⟨_, hF, _⟩ => by cases hF) (fun k a w ⟨x3, hF, hh⟩ => r_at ?_ hh) (fun a w hh => ⟨0, hL, hs_back [] rfl (by decide) (by exact ⟨rfl, rfl, trivial⟩) hh⟩)
  rw [F_gantryref09_Valid_l4.eq_2] at hF
  refine r_seq (r_seq (r_reg (r_mv ?_)))
  refine r_mv ?_
  refine r_op (t_ln rfl tyS47) ⟨rfl, trivial⟩ ?_
  refine r_op (t_lt rfl) ⟨rfl, rfl, trivial⟩ ?_
  refine r_nil (r_next (r_if rfl (fun h6 => ?_) (fun h6 => ?_)))
  · have hF := cnd_t h6 hF
    refine r_skip (r_next (r_seq (r_blk (r_seq ?_))))
    obtain ⟨v9, h10, hF⟩ := bnd hF
    obtain ⟨v11, h12, hF⟩ := bnd hF
    rcases Bool.eq_false_or_eq_true ((v9.length : Int) != (v11.length : Int)) with h13 | h13
    · have hF := cnd_t h13 hF
      refine r_draw [0, 0, 3, 7, 15, 0, 32, 96, 224, 511, 1023, 2047, 2047, 8191, 16383, 32767, 65535, 131071] 18 0 [.v (.vc (pS (cSl cQ) a0)), .v (.vc (pI .i64 x3)), .v (.vc (pM ((cSl cQ).e v9))), .v (.vc (pS cQ v9)), .v (.vc (pI .i64 (v9.length : Int))), .v (.vc (pS (cSl cQ) a0)), .v (.vc (pM ((cSl cQ).e v11))), .v (.vc (pS cQ v11)), .v (.vc (pI .i64 (v11.length : Int))), .v (.vc (pB ((v9.length : Int) != (v11.length : Int)))), .v (.vc (pB true)), .v .un, .v .un, .v .un, .v .un, .v .un, .v .un, .v (.vc (pB true))] Tryz_mixed ⟨d0 (t_mv (.inl rfl)) ⟨rfl, trivial⟩, d0 (t_mv (.inl rfl)) ⟨rfl, trivial⟩, d0 (t_ix rfl tyS47 h10) ⟨rfl, rfl, trivial⟩, d0 (t_lM 1 rfl rfl (.one tyO24)) ⟨rfl, trivial⟩, d0 (t_ln rfl tyS24) ⟨rfl, trivial⟩, d0 (t_mv (.inl rfl)) ⟨rfl, trivial⟩, d0 (t_ix rfl tyS47 h12) ⟨rfl, k_I _ _, trivial⟩, d0 (t_lM 1 rfl rfl (.one tyO24)) ⟨rfl, trivial⟩, d0 (t_ln rfl tyS24) ⟨rfl, trivial⟩, d0 (t_ne rfl) ⟨rfl, rfl, trivial⟩, d0 (tr_bool (t_mv (.inl rfl)) h13) ⟨rfl, trivial⟩, ⟨rfl, .skipN⟩, ⟨rfl, .skipN⟩, ⟨rfl, .skipN⟩, ⟨rfl, .skipN⟩, ⟨rfl, .skipN⟩, ⟨rfl, .skipN⟩, d0 (t_pickT rfl) ⟨rfl, k_B _, trivial⟩, trivial⟩ (fun bs8 G7 => ?_)
      refine r_nil (r_next (r_ifT rfl ?_))
      refine r_seq (r_reg (r_op (t_mv (.inr rfl)) ⟨k_B _, trivial⟩ ?_))
      refine r_nil (r_next (r_ret (r_toR ?_)))
      obtain rfl := sm1 hF
      obtain rfl := sm1 hRl4
      exact r_done1 (.inl rfl) Tryz.results119 (.tmp rfl .nil) rfl rfl
    have hF := cnd_f h13 hF
    obtain ⟨v14, h15, hF⟩ := bnd hF
    refine r_draw [0, 0, 3, 7, 15, 0, 32, 96, 224, 511, 1023, 2047, 2047, 8191, 16383, 32767, 65535, 131071] 18 0 [.v (.vc (pS (cSl cQ) a0)), .v (.vc (pI .i64 x3)), .v (.vc (pM ((cSl cQ).e v9))), .v (.vc (pS cQ v9)), .v (.vc (pI .i64 (v9.length : Int))), .v (.vc (pS (cSl cQ) a0)), .v (.vc (pM ((cSl cQ).e v11))), .v (.vc (pS cQ v11)), .v (.vc (pI .i64 (v11.length : Int))), .v (.vc (pB ((v9.length : Int) != (v11.length : Int)))), .v (.vc (pB false)), .v (.vc (pS (cSl cQ) a0)), .v (.vc (pI .i64 x3)), .v (.vc (pM ((cSl cQ).e v14))), .v (.vc (pS cQ v14)), .v (.vc (pI .i64 (v14.length : Int))), .v (.vc (pB (decide (64 < (v14.length : Int))))), .v (.vc (pB (decide (64 < (v14.length : Int)))))] Tryz_mixed ⟨d0 (t_mv (.inl rfl)) ⟨rfl, trivial⟩, d0 (t_mv (.inl rfl)) ⟨rfl, trivial⟩, d0 (t_ix rfl tyS47 h10) ⟨rfl, rfl, trivial⟩, d0 (t_lM 1 rfl rfl (.one tyO24)) ⟨rfl, trivial⟩, d0 (t_ln rfl tyS24) ⟨rfl, trivial⟩, d0 (t_mv (.inl rfl)) ⟨rfl, trivial⟩, d0 (t_ix rfl tyS47 h12) ⟨rfl, k_I _ _, trivial⟩, d0 (t_lM 1 rfl rfl (.one tyO24)) ⟨rfl, trivial⟩, d0 (t_ln rfl tyS24) ⟨rfl, trivial⟩, d0 (t_ne rfl) ⟨rfl, rfl, trivial⟩, d0 (tr_bool (t_mv (.inl rfl)) h13) ⟨rfl, trivial⟩, g0 (t_mv (.inl rfl)) ⟨rfl, trivial⟩, g0 (t_mv (.inl rfl)) ⟨rfl, trivial⟩, g0 (t_ix rfl tyS47 h15) ⟨rfl, rfl, trivial⟩, g0 (t_lM 1 rfl rfl (.one tyO24)) ⟨rfl, trivial⟩, g0 (t_ln rfl tyS24) ⟨rfl, trivial⟩, g0 (t_gt rfl) ⟨rfl, k_I _ _, trivial⟩, d0 (t_pickF rfl) ⟨rfl, rfl, trivial⟩, trivial⟩ (fun bs8 G7 => ?_)
    refine r_nil (r_next (r_if rfl (fun h16 => ?_) (fun h16 => ?_)))
    · have hF := cnd_t h16 hF
      refine r_seq (r_reg (r_op (t_mv (.inr rfl)) ⟨k_B _, trivial⟩ ?_))
      refine r_nil (r_next (r_ret (r_toR ?_)))
      obtain rfl := sm1 hF
      obtain rfl := sm1 hRl4
      exact r_done1 (.inl rfl) Tryz.results119 (.tmp rfl .nil) rfl rfl
    have hF := cnd_f h16 hF
    refine r_skip (r_blkN (r_next (r_reg (r_mv ?_))))
    obtain ⟨v17, h18, hF⟩ := bnd hF
    refine r_op (t_add rfl h18) ⟨rfl, k_I _ _, trivial⟩ ?_
    refine r_as ?_
    refine r_nil ?_
    exact r_round (fun a w hh => ⟨v17, hF, hs_back [] rfl (by decide) (by exact ⟨rfl, rfl, trivial⟩) hh⟩)
  have hF := cnd_f h6 hF
  refine r_brk ?_
  obtain rfl := sm1 hF
  exact r_backJ Jj5 ⟨hRl4, rfl, rfl⟩ [] rfl trivial
def F_gantryref09_Positive_j15 (K : Nat) : Option Bool :=
  some true
def F_gantryref09_Positive_j40 (K : Nat) (x13 : Int) (recl14 : Int → Option (LR Bool Unit)) (x33 : List (List Rat)) : Option (LR Bool Unit) :=
  (F_gantryref09_Det K x33).bind fun v41 => (qsgn v41).bind fun v43 => bif (decide (v43 ≤ 0)) then (some (.ret false)) else ((chk (x13 + 1)).bind fun v46 => recl14 v46)
def F_gantryref09_Positive_l39 (K : Nat) (a0 : List (List Rat)) (x13 : Int) : Nat → (List (List Rat)) → Int → Option (List (List Rat))
  | 0, _, _ => none
  | k + 1, x26, x32 => bif (decide (x32 < x13)) then ((rdL a0 x32).bind fun v49 => (slL v49 0 x13).bind fun x51 => (apL x26 [x51]).bind fun x53 => (chk (x32 + 1)).bind fun v60 => F_gantryref09_Positive_l39 K a0 x13 k x53 v60) else (some x26)
def F_gantryref09_Positive_l14 (K : Nat) (a0 : List (List Rat)) : Nat → Int → Option (LR Bool Unit)
  | 0, _ => none
  | k + 1, x13 => bif (decide (x13 ≤ (a0.length : Int))) then ((F_gantryref09_Positive_l39 K a0 x13 K ([] : List (List Rat)) 0).bind fun x33 => F_gantryref09_Positive_j40 K x13 (F_gantryref09_Positive_l14 K a0 k) x33) else (some (.go ()))
def F_gantryref09_Positive (K : Nat) (a0 : List (List Rat)) : Option Bool :=
  (F_gantryref09_Valid K a0).bind fun v1 => bif (!v1) then (some false) else ((F_gantryref09_Cols a0).bind fun v4 => bif ((a0.length : Int) != v4) then (some false) else ((F_gantryref09_Turn K a0).bind fun v7 => (F_gantryref09_Same K a0 v7).bind fun v9 => bif (!v9) then (some false) else ((F_gantryref09_Positive_l14 K a0 K 1).bind fun o => match o with | .ret r => some r | .go _ => F_gantryref09_Positive_j15 K )))
theorem ct_gantryref09_Positive {K : Nat} {a0 : List (List Rat)} {r : Bool} (hF : F_gantryref09_Positive K a0 = some r) : Ct Tryz.prog 56 [.vc (pS (cSl cQ) a0)] (.vc (pB r)) := by
  unfold F_gantryref09_Positive at hF
  refine ctO_intro Tryz.func56 rfl (by kernel_rfl) Tryz.ntmps56 rfl (fun w0 M0 => ?_)
  refine r_seq (r_reg (r_op (t_mv (.inr rfl)) ⟨k_B _, trivial⟩ ?_))
  refine r_nil (r_next (r_seq (r_seq (r_reg (r_mv ?_)))))
  obtain ⟨v1, h2, hF⟩ := bnd hF
  refine r_op (t_call rfl (ct_gantryref09_Valid h2) rfl) ⟨rfl, trivial⟩ ?_
  refine r_op (t_not rfl) ⟨rfl, trivial⟩ ?_
  refine r_mv ?_
  refine r_bool (fun h3 => ?_) (fun h3 => ?_)
  · have hF := cnd_t h3 hF
    refine r_opn ?_
    refine r_opn ?_
    refine r_opn ?_
    refine r_opn ?_
    refine r_opn ?_
    refine r_op (t_pickT rfl) ⟨rfl, k_B _, trivial⟩ ?_
    refine r_mv ?_
    refine r_opn ?_
    refine r_opn ?_
    refine r_opn ?_
    refine r_opn ?_
    refine r_opn ?_
    refine r_op (t_pickT rfl) ⟨rfl, k_B _, trivial⟩ ?_
    refine r_nil (r_next (r_ifT rfl ?_))
    refine r_seq (r_reg (r_op (t_mv (.inr rfl)) ⟨k_B _, trivial⟩ ?_))
    refine r_nil (r_next (r_ret (r_toR ?_)))
    obtain rfl := sm1 hF
    exact r_done1 (.inl rfl) Tryz.results56 (.tmp rfl .nil) rfl rfl
  have hF := cnd_f h3 hF
  refine r_opg (t_mv (.inl rfl)) ⟨rfl, trivial⟩ ?_
  refine r_opg (t_ln rfl tyS47) ⟨rfl, trivial⟩ ?_
  refine r_opg (t_mv (.inl rfl)) ⟨rfl, trivial⟩ ?_
  obtain ⟨v4, h5, hF⟩ := bnd hF
  refine r_opg (t_call rfl (ct_gantryref09_Cols h5) rfl) ⟨rfl, trivial⟩ ?_
  refine r_opg (t_ne rfl) ⟨rfl, rfl, trivial⟩ ?_
  refine r_op (t_pickF rfl) ⟨rfl, rfl, trivial⟩ ?_
  refine r_mv ?_
  refine r_bool (fun h6 => ?_) (fun h6 => ?_)
  · have hF := cnd_t h6 hF
    refine r_opn ?_
    refine r_opn ?_
    refine r_opn ?_
    refine r_opn ?_
    refine r_opn ?_
    refine r_op (t_pickT rfl) ⟨rfl, k_B _, trivial⟩ ?_
    refine r_nil (r_next (r_ifT rfl ?_))
    refine r_seq (r_reg (r_op (t_mv (.inr rfl)) ⟨k_B _, trivial⟩ ?_))
    refine r_nil (r_next (r_ret (r_toR ?_)))
    obtain rfl := sm1 hF
    exact r_done1 (.inl rfl) Tryz.results56 (.tmp rfl .nil) rfl rfl
  have hF := cnd_f h6 hF
  refine r_opg (t_mv (.inl rfl)) ⟨rfl, trivial⟩ ?_
  refine r_opg (t_mv (.inl rfl)) ⟨rfl, trivial⟩ ?_
  obtain ⟨v7, h8, hF⟩ := bnd hF
  refine r_opg (t_call rfl (ct_gantryref09_Turn h8) rfl) ⟨rfl, trivial⟩ ?_
  obtain ⟨v9, h10, hF⟩ := bnd hF
  refine r_opg (t_call rfl (ct_gantryref09_Same h10) rfl) ⟨rfl, rfl, trivial⟩ ?_
  refine r_opg (t_not rfl) ⟨rfl, trivial⟩ ?_
  refine r_op (t_pickF rfl) ⟨rfl, rfl, trivial⟩ ?_
  refine r_nil (r_next (r_if rfl (fun h11 => ?_) (fun h11 => ?_)))
  · have hF := cnd_t h11 hF
    refine r_seq (r_reg (r_op (t_mv (.inr rfl)) ⟨k_B _, trivial⟩ ?_))
    refine r_nil (r_next (r_ret (r_toR ?_)))
    obtain rfl := sm1 hF
    exact r_done1 (.inl rfl) Tryz.results56 (.tmp rfl .nil) rfl rfl
  have hF := cnd_f h11 hF
  refine r_skip (r_next (r_seq (r_seq (r_reg (r_op (t_mv (.inr rfl)) ⟨k_I _ _, trivial⟩ ?_)))))
  refine r_nil (r_next (r_blk (r_cutN (fun H E => F_gantryref09_Positive_j15 K = some r ∧ H = [] ∧ E = []) ?_ (fun Jj15 => ?_))))
  · rintro _ _ ⟨hF, rfl, rfl⟩
    unfold F_gantryref09_Positive_j15 at hF
    refine r_next (r_seq (r_reg (r_op (t_mv (.inr rfl)) ⟨k_B _, trivial⟩ ?_)))
    refine r_nil (r_next (r_ret (r_toR ?_)))
    obtain rfl := sm1 hF
    exact r_done1 (.inl rfl) Tryz.results56 (.tmp rfl .nil) rfl rfl
  obtain ⟨ol14, hL, hRl14⟩ := bnd hF
  refine r_lp (fun k a w => ∃ (x13 : Int), F_gantryref09_Positive_l14 K a0 k x13 = some ol14 ∧ hs _ [] [(0, .vc (pS (cSl cQ) a0)), (3, .vc (pI .i64 x13))] a w) K (fun a w ⟨_, hF, _⟩ => by cases hF) (fun k a w ⟨x13, hF, hh⟩ => r_at ?_ hh) (fun a w hh => ⟨1, hL, hs_back [] rfl (by decide) (by exact ⟨rfl, rfl, trivial⟩) hh⟩)
  rw [F_gantryref09_Positive_l14.eq_2] at hF
  refine r_seq (r_seq (r_reg (r_mv ?_)))
  refine r_mv ?_
  refine r_op (t_ln rfl tyS47) ⟨rfl, trivial⟩ ?_
  refine r_op (t_le rfl) ⟨rfl, rfl, trivial⟩ ?_
  refine r_nil (r_next (r_if rfl (fun h16 => ?_) (fun h16 => ?_)))
  · have hF := cnd_t h16 hF
    refine r_skip (r_next (r_seq (r_blk (r_seq (r_reg (r_nilO (cSl cQ) 24 rfl ?_))))))
    refine r_nil (r_next (r_seq (r_seq (r_reg (r_op (t_mv (.inr rfl)) ⟨k_I _ _, trivial⟩ ?_)))))
    refine r_nil (r_next (r_blk (r_cutN (fun H E => ∃ (x33 : List (List Rat)), ∃ (b34 : Option Nat), ∃ (c35 : Nat), ∃ (n36 : Nat), F_gantryref09_Positive_j40 K x13 (F_gantryref09_Positive_l14 K a0 k) x33 = some ol14 ∧ x33.length = n36 ∧ H = [hO (cSl cQ) b34 c35 24 n36 x33] ∧ E = [(0, .vc (pS (cSl cQ) a0)), (3, .vc (pI .i64 x13)), (4, .vc (pO b34 n36 c35))]) ?_ (fun Jj40 => ?_))))
    · rintro _ _ ⟨x33, b34, c35, n36, hF, q37, rfl, rfl⟩
      unfold F_gantryref09_Positive_j40 at hF
      refine r_next (r_seq (r_reg (r_mv ?_)))
      refine r_fzL 0 [4, 43] rfl q37 ⟨rfl, rfl, trivial⟩ rfl ?_
      obtain ⟨v41, h42, hF⟩ := bnd hF
      refine r_op (t_call rfl (ct_gantryref09_Det h42) rfl) ⟨rfl, trivial⟩ ?_
      obtain ⟨v43, h44, hF⟩ := bnd hF
      refine r_op (t_call rfl (qc_gantryref05_Sign h44) rfl) ⟨rfl, trivial⟩ ?_
      refine r_op (t_le rfl) ⟨rfl, k_I _ _, trivial⟩ ?_
      refine r_nil (r_next (r_if rfl (fun h45 => ?_) (fun h45 => ?_)))
      · have hF := cnd_t h45 hF
        refine r_seq (r_reg (r_op (t_mv (.inr rfl)) ⟨k_B _, trivial⟩ ?_))
        refine r_nil (r_next (r_ret (r_toR ?_)))
        obtain rfl := sm1 hF
        obtain rfl := sm1 hRl14
        exact r_done1 (.inl rfl) Tryz.results56 (.tmp rfl .nil) rfl rfl
      have hF := cnd_f h45 hF
      refine r_skip (r_blkN (r_next (r_reg (r_mv ?_))))
      obtain ⟨v46, h47, hF⟩ := bnd hF
      refine r_op (t_add rfl h47) ⟨rfl, k_I _ _, trivial⟩ ?_
      refine r_as ?_
      refine r_nil ?_
      exact r_round (fun a w hh => ⟨v46, hF, hs_back [] rfl (by decide) (by exact ⟨rfl, rfl, trivial⟩) hh⟩)
    obtain ⟨x33', hL, hRl39⟩ := bnd hF
    refine r_lp (fun k a w => ∃ (x26 : List (List Rat)), ∃ (x32 : Int), ∃ (b27 : Option Nat), ∃ (c28 : Nat), ∃ (n29 : Nat), F_gantryref09_Positive_l39 K a0 x13 k x26 x32 = some x33' ∧ x26.length = n29 ∧ hs _ [hO (cSl cQ) b27 c28 24 n29 x26] [(0, .vc (pS (cSl cQ) a0)), (3, .vc (pI .i64 x13)), (4, .vc (pO b27 n29 c28)), (5, .vc (pI .i64 x32))] a w) K (fun a w ⟨_, _, _, _, _, hF, _, _⟩ => by cases hF) (fun k a w ⟨x26, x32, b27, c28, n29, hF, q30, hh⟩ => r_at ?_ hh) (fun a w hh => ⟨([] : List (List Rat)), 0, none, 0, 0, hL, rfl, hs_back [0] rfl (by decide) (by exact ⟨rfl, rfl, rfl, rfl, trivial⟩) hh⟩)
    rw [F_gantryref09_Positive_l39.eq_2] at hF
    refine r_seq (r_seq (r_reg (r_mv ?_)))
    refine r_mv ?_
    refine r_op (t_lt rfl) ⟨rfl, rfl, trivial⟩ ?_
    refine r_nil (r_next (r_if rfl (fun h48 => ?_) (fun h48 => ?_)))
    · have hF := cnd_t h48 hF
      refine r_skip (r_next (r_seq (r_blk (r_reg (r_mv ?_)))))
      refine r_mv ?_
      refine r_mv ?_
      obtain ⟨v49, h50, hF⟩ := bnd hF
      refine r_op (t_ix rfl tyS47 h50) ⟨rfl, rfl, trivial⟩ ?_
      refine r_op (t_lM 1 rfl rfl (.one tyO24)) ⟨rfl, trivial⟩ ?_
      refine r_mv ?_
      obtain ⟨x51, h52, hF⟩ := bnd hF
      refine r_op (t_cutH rfl tyS24 h52) ⟨rfl, rfl, trivial⟩ ?_
      refine r_op (t_bs (C := (cSl cQ)) (xs := [.tmp 40]) (ps := [.vc (pS cQ x51)]) (zs := [x51]) rfl tyS47 rfl ⟨⟨trivial, rfl⟩, trivial⟩ rfl) ⟨rfl, trivial⟩ ?_
      obtain ⟨x53, h54, hF⟩ := bnd hF
      refine r_app 0 rfl tyS47 rfl rfl q30 rfl rfl h54 (fun b55 c56 H57 e58 => ?_)
      cases e58
      refine r_as ?_
      refine r_nil (r_blkN (r_next (r_reg (r_mv ?_))))
      obtain ⟨v60, h61, hF⟩ := bnd hF
      refine r_op (t_add rfl h61) ⟨rfl, k_I _ _, trivial⟩ ?_
      refine r_as ?_
      refine r_nil ?_
      exact r_round (fun a w hh => ⟨x53, v60, b55, c56, (n29 + [x51].length), hF, (apL_len h54 q30), hs_back [0] rfl (by decide) (by exact ⟨rfl, rfl, rfl, rfl, trivial⟩) hh⟩)
    have hF := cnd_f h48 hF
    refine r_brk ?_
    obtain rfl := sm1 hF
    exact r_backJ Jj40 ⟨x26, b27, c28, n29, hRl39, q30, rfl, rfl⟩ [0] rfl ⟨rfl, rfl, rfl, trivial⟩
  have hF := cnd_f h16 hF
  refine r_brk ?_
  obtain rfl := sm1 hF
  exact r_backJ Jj15 ⟨hRl14, rfl, rfl⟩ [] rfl trivial
def F_gantryref09_over_j25 (K : Nat) (x18 : List Rat) : Option (List Rat) :=
  some x18
def F_gantryref09_over_l24 (K : Nat) (a0 : List Rat) (a1 : Rat) : Nat → (List Rat) → Int → Option (List Rat)
  | 0, _, _ => none
  | k + 1, x11, x17 => bif (decide (x17 < (a0.length : Int))) then ((rdL a0 x17).bind fun v29 => (qdiv v29 a1).bind fun v31 => (apL x11 [v31]).bind fun x33 => (chk (x17 + 1)).bind fun v40 => F_gantryref09_over_l24 K a0 a1 k x33 v40) else (some x11)
def F_gantryref09_over (K : Nat) (a0 : List Rat) (a1 : Rat) : Option (List Rat) :=
  (F_gantryref09_over_l24 K a0 a1 K ([] : List Rat) 0).bind fun x18 => F_gantryref09_over_j25 K x18
theorem ct_gantryref09_over {K : Nat} {a0 : List Rat} {a1 : Rat} {r : List Rat} (hF : F_gantryref09_over K a0 a1 = some r) : Ct Tryz.prog 149 [.vc (pS cQ a0), .va (eQ a1)] (.vc (pS cQ r)) := by
  unfold F_gantryref09_over at hF
  refine ctO_intro Tryz.func149 rfl (by kernel_rfl) Tryz.ntmps149 rfl (fun w0 M0 => ?_)
  refine r_seq (r_reg (r_box rfl rfl trivial (fun b1 => ?_)))
  refine r_op (t_mv (.inr rfl)) ⟨k_nil cQ, trivial⟩ ?_
  refine r_nil (r_next (r_seq (r_reg (r_nilO cQ 35 rfl ?_))))
  refine r_nil (r_next (r_seq (r_seq (r_reg (r_op (t_mv (.inr rfl)) ⟨k_I _ _, trivial⟩ ?_)))))
  refine r_nil (r_next (r_blk (r_cutN (fun H E => ∃ (x18 : List Rat), ∃ (b19 : Option Nat), ∃ (c20 : Nat), ∃ (n21 : Nat), F_gantryref09_over_j25 K x18 = some r ∧ x18.length = n21 ∧ H = [hO cQ b19 c20 35 n21 x18] ∧ E = [(5, .vc (pO b19 n21 c20))]) ?_ (fun Jj25 => ?_))))
  · rintro _ _ ⟨x18, b19, c20, n21, hF, q22, rfl, rfl⟩
    unfold F_gantryref09_over_j25 at hF
    refine r_next (r_seq (r_reg (r_mv ?_)))
    refine r_as ?_
    refine r_nil (r_next (r_ret (r_toR (r_fzX 0 [4, 5, 22] rfl q22 ⟨rfl, rfl, rfl, trivial⟩ rfl ?_))))
    obtain rfl := sm1 hF
    exact r_done1 (.inl rfl) Tryz.results149 (.tmp rfl .nil) rfl rfl
  obtain ⟨x18', hL, hRl24⟩ := bnd hF
  refine r_lp (fun k a w => ∃ (x11 : List Rat), ∃ (x17 : Int), ∃ (b12 : Option Nat), ∃ (c13 : Nat), ∃ (n14 : Nat), F_gantryref09_over_l24 K a0 a1 k x11 x17 = some x18' ∧ x11.length = n14 ∧ hs _ [hO cQ b12 c13 35 n14 x11, ⟨some b1, 1, 35, 4, 1, (eQ a1)⟩] [(0, .vc (pS cQ a0)), (3, .vc (pP (some b1) 0)), (5, .vc (pO b12 n14 c13)), (6, .vc (pI .i64 x17))] a w) K (fun a w ⟨_, _, _, _, _, hF, _, _⟩ => by cases hF) (fun k a w ⟨x11, x17, b12, c13, n14, hF, q15, hh⟩ => r_at ?_ hh) (fun a w hh => ⟨([] : List Rat), 0, none, 0, 0, hL, rfl, hs_back [0, 1] rfl (by decide) (by exact ⟨rfl, rfl, rfl, rfl, trivial⟩) hh⟩)
  rw [F_gantryref09_over_l24.eq_2] at hF
  refine r_seq (r_seq (r_reg (r_mv ?_)))
  refine r_mv ?_
  refine r_op (t_ln rfl tyS24) ⟨rfl, trivial⟩ ?_
  refine r_op (t_lt rfl) ⟨rfl, rfl, trivial⟩ ?_
  refine r_nil (r_next (r_if rfl (fun h26 => ?_) (fun h26 => ?_)))
  · have hF := cnd_t h26 hF
    refine r_skip (r_next (r_seq (r_blk ?_)))
    obtain ⟨v29, h30, hF⟩ := bnd hF
    obtain ⟨v31, h32, hF⟩ := bnd hF
    refine r_draw [0, 0, 0, 6, 14, 0, 62, 126, 255, 511] 8 2 [.v (.vc (pO b12 n14 c13)), .v (.vc (pS cQ a0)), .v (.vc (pI .i64 x17)), .v (.vc (pM (cQ.e v29))), .v (.va (eQ v29)), .v (.va (eQ a1)), .v (.va (eQ v31)), .v (.vc (pS cQ [v31]))] Tryz_mixed ⟨d0 (t_mv (.inl rfl)) ⟨rfl, trivial⟩, d0 (t_mv (.inl rfl)) ⟨rfl, trivial⟩, d0 (t_mv (.inl rfl)) ⟨rfl, trivial⟩, d0 (t_ix rfl tyS24 h30) ⟨rfl, rfl, trivial⟩, d0 (t_lM 4 rfl rfl (.agg tyA35)) ⟨rfl, trivial⟩, d0 (t_l 1 4 rfl rfl rfl rfl (.agg tyA35)) ⟨rfl, trivial⟩, d0 (t_call rfl (qc_gantryref05_Div h32) rfl) ⟨rfl, rfl, trivial⟩, d0 (t_bs (C := cQ) (xs := [.tmp 19]) (ps := [.va (eQ v31)]) (zs := [v31]) rfl tyS24 rfl ⟨⟨trivial, rfl⟩, trivial⟩ rfl) ⟨rfl, trivial⟩, trivial⟩ (fun bs28 G27 => ?_)
    obtain ⟨x33, h34, hF⟩ := bnd hF
    refine r_app 0 rfl tyS24 rfl rfl q15 rfl rfl h34 (fun b35 c36 H37 e38 => ?_)
    cases e38
    refine r_as ?_
    refine r_nil (r_blkN (r_next (r_reg (r_mv ?_))))
    obtain ⟨v40, h41, hF⟩ := bnd hF
    refine r_op (t_add rfl h41) ⟨rfl, k_I _ _, trivial⟩ ?_
    refine r_as ?_
    refine r_nil ?_
    exact r_round (fun a w hh => ⟨x33, v40, b35, c36, (n14 + [v31].length), hF, (apL_len h34 q15), hs_back [0, 1] rfl (by decide) (by exact ⟨rfl, rfl, rfl, rfl, trivial⟩) hh⟩)
  have hF := cnd_f h26 hF
  refine r_brk ?_
  obtain rfl := sm1 hF
  exact r_backJ Jj25 ⟨x11, b12, c13, n14, hRl24, q15, rfl, rfl⟩ [0] rfl ⟨rfl, trivial⟩
def F_gantryref09_Reduced_j51 (K : Nat) (x38 : List Int) (x44 : List (List Rat)) : Option ((List (List Rat)) × (List Int)) :=
  some (x44, x38)
def F_gantryref09_Reduced_j99 (K : Nat) (x25 : List Int) (x37 : Int) (v69 : List Rat) (recl50 : (List Int) → (List (List Rat)) → Int → Option ((List Int) × (List (List Rat)))) (x92 : List (List Rat)) : Option ((List Int) × (List (List Rat))) :=
  (rdL x92 (x25.length : Int)).bind fun v100 => (stL x92 (x25.length : Int) v69).bind fun x102 => (apL x25 [x37]).bind fun x105 => (chk (x37 + 1)).bind fun v112 => recl50 x105 x102 v112
def F_gantryref09_Reduced_l98 (K : Nat) (x37 : Int) (v69 : List Rat) : Nat → (List (List Rat)) → Int → Option (List (List Rat))
  | 0, _, _ => none
  | k + 1, x85, x91 => bif (decide (x91 < (x85.length : Int))) then ((rdL x85 x91).bind fun v117 => (rdL x85 x91).bind fun v119 => (rdL v119 x37).bind fun v121 => (F_gantryref09_less K v117 v69 v121).bind fun v123 => (rdL x85 x91).bind fun v125 => (stL x85 x91 v123).bind fun x127 => (chk (x91 + 1)).bind fun v130 => F_gantryref09_Reduced_l98 K x37 v69 k x127 v130) else (some x85)
def F_gantryref09_Reduced_j57 (K : Nat) (x25 : List Int) (x31 : List (List Rat)) (x37 : Int) (recl50 : (List Int) → (List (List Rat)) → Int → Option ((List Int) × (List (List Rat)))) (x55 : Int) : Option ((List Int) × (List (List Rat))) :=
  bif (x55 == (x31.length : Int)) then ((chk (x37 + 1)).bind fun v59 => recl50 x25 x31 v59) else ((rdL x31 x55).bind fun v63 => (rdL x31 x55).bind fun v65 => (rdL v65 x37).bind fun v67 => (F_gantryref09_over K v63 v67).bind fun v69 => (rdL x31 (x25.length : Int)).bind fun v71 => (rdL x31 x55).bind fun v73 => (stL x31 x55 v71).bind fun x75 => (F_gantryref09_Reduced_l98 K x37 v69 K x75 0).bind fun x92 => F_gantryref09_Reduced_j99 K x25 x37 v69 recl50 x92)
def F_gantryref09_Reduced_l56 (K : Nat) (x31 : List (List Rat)) (x37 : Int) : Nat → Int → Option Int
  | 0, _ => none
  | k + 1, x54 => bif (decide (x54 < (x31.length : Int))) then ((chk ((x31.length : Int) - 1)).bind fun v133 => (rdL x31 (min x54 v133)).bind fun v135 => (rdL v135 x37).bind fun v137 => (qsgn v137).bind fun v139 => bif (v139 == 0) then ((chk (x54 + 1)).bind fun v142 => F_gantryref09_Reduced_l56 K x31 x37 k v142) else (some x54)) else (some x54)
def F_gantryref09_Reduced_l50 (K : Nat) (a1 : Int) : Nat → (List Int) → (List (List Rat)) → Int → Option ((List Int) × (List (List Rat)))
  | 0, _, _, _ => none
  | k + 1, x25, x31, x37 => bif (decide (x37 < a1)) then ((F_gantryref09_Reduced_l56 K x31 x37 K (x25.length : Int)).bind fun x55 => F_gantryref09_Reduced_j57 K x25 x31 x37 (F_gantryref09_Reduced_l50 K a1 k) x55) else (some (x25, x31))
def F_gantryref09_Reduced (K : Nat) (a0 : List (List Rat)) (a1 : Int) : Option ((List (List Rat)) × (List Int)) :=
  (apL ([] : List (List Rat)) a0).bind fun x3 => (F_gantryref09_Reduced_l50 K a1 K ([] : List Int) x3 0).bind fun (x38, x44) => F_gantryref09_Reduced_j51 K x38 x44
theorem ct_gantryref09_Reduced {K : Nat} {a0 : List (List Rat)} {a1 : Int} {r : (List (List Rat)) × (List Int)} (hF : F_gantryref09_Reduced K a0 a1 = some r) : Ct Tryz.prog 103 [.vc (pS (cSl cQ) a0), .vc (pI .i64 a1)] (.t2 (.vc (pS (cSl cQ) r.1)) (.vc (pS cI r.2))) := by
  unfold F_gantryref09_Reduced at hF
  refine ctO_intro Tryz.func103 rfl (by kernel_rfl) Tryz.ntmps103 rfl (fun w0 M0 => ?_)
  refine r_seq (r_reg (r_op (t_mv (.inr rfl)) ⟨k_nil (cSl cQ), trivial⟩ ?_))
  refine r_op (t_mv (.inr rfl)) ⟨k_nil cI, trivial⟩ ?_
  refine r_nil (r_next (r_seq (r_reg (r_nilO (cSl cQ) 24 rfl ?_))))
  refine r_nil (r_next (r_seq (r_reg (r_mv ?_))))
  refine r_mv ?_
  obtain ⟨x3, h4, hF⟩ := bnd hF
  refine r_app 0 rfl tyS47 rfl rfl rfl rfl rfl h4 (fun b5 c6 H7 e8 => ?_)
  cases e8
  refine r_as ?_
  refine r_nil (r_next (r_seq (r_reg (r_nilO cI 3 rfl ?_))))
  refine r_nil (r_next (r_seq (r_seq (r_reg (r_op (t_mv (.inr rfl)) ⟨k_I _ _, trivial⟩ ?_)))))
  refine r_nil (r_next (r_blk (r_cutN (fun H E => ∃ (x38 : List Int), ∃ (x44 : List (List Rat)), ∃ (b39 : Option Nat), ∃ (c40 : Nat), ∃ (n41 : Nat), F_gantryref09_Reduced_j51 K x38 x44 = some r ∧ x38.length = n41 ∧ x44.length = (0 + a0.length) ∧ H = [hO cI b39 c40 3 n41 x38, hO (cSl cQ) b5 c6 24 (0 + a0.length) x44] ∧ E = [(6, .vc (pO b5 (0 + a0.length) c6)), (7, .vc (pO b39 n41 c40))]) ?_ (fun Jj51 => ?_))))
  · rintro _ _ ⟨x38, x44, b39, c40, n41, hF, q42, q48, rfl, rfl⟩
    unfold F_gantryref09_Reduced_j51 at hF
    refine r_next (r_seq (r_reg (r_mv ?_)))
    refine r_mv ?_
    refine r_as ?_
    refine r_as ?_
    refine r_nil (r_next (r_ret (r_toR (r_fzX 1 [4, 6, 98] rfl q48 ⟨rfl, rfl, rfl, trivial⟩ rfl ?_))))
    refine r_fzX 0 [5, 7, 99] rfl q42 ⟨rfl, rfl, rfl, trivial⟩ rfl ?_
    obtain rfl := sm1 hF
    exact r_done1 (.inl rfl) Tryz.results103 (.tmp rfl (.tmp rfl .nil)) rfl rfl
  obtain ⟨⟨x38', x44'⟩, hL, hRl50⟩ := bnd hF
  refine r_lp (fun k a w => ∃ (x25 : List Int), ∃ (x31 : List (List Rat)), ∃ (x37 : Int), ∃ (b26 : Option Nat), ∃ (c27 : Nat), ∃ (n28 : Nat), F_gantryref09_Reduced_l50 K a1 k x25 x31 x37 = some (x38', x44') ∧ x25.length = n28 ∧ x31.length = (0 + a0.length) ∧ hs _ [hO cI b26 c27 3 n28 x25, hO (cSl cQ) b5 c6 24 (0 + a0.length) x31] [(1, .vc (pI .i64 a1)), (6, .vc (pO b5 (0 + a0.length) c6)), (7, .vc (pO b26 n28 c27)), (8, .vc (pI .i64 x37))] a w) K (fun a w ⟨_, _, _, _, _, _, hF, _, _, _⟩ => by cases hF) (fun k a w ⟨x25, x31, x37, b26, c27, n28, hF, q29, q35, hh⟩ => r_at ?_ hh) (fun a w hh => ⟨([] : List Int), x3, 0, none, 0, 0, hL, rfl, (apL_len h4 rfl), hs_back [0, 1] rfl (by decide) (by exact ⟨rfl, rfl, rfl, rfl, trivial⟩) hh⟩)
  rw [F_gantryref09_Reduced_l50.eq_2] at hF
  refine r_seq (r_seq (r_reg (r_mv ?_)))
  refine r_mv ?_
  refine r_op (t_lt rfl) ⟨rfl, rfl, trivial⟩ ?_
  refine r_nil (r_next (r_if rfl (fun h52 => ?_) (fun h52 => ?_)))
  · have hF := cnd_t h52 hF
    refine r_skip (r_next (r_seq (r_blk (r_seq (r_reg (r_mv ?_))))))
    refine r_op (t_lnE (C := cI) (xs := x25) (T := 3) rfl tyS22 q29) ⟨rfl, trivial⟩ ?_
    refine r_as ?_
    refine r_nil (r_next (r_seq (r_reg (r_mv ?_))))
    refine r_as ?_
    refine r_nil (r_next (r_seq (r_blk (r_cutN (fun H E => ∃ (x55 : Int), F_gantryref09_Reduced_j57 K x25 x31 x37 (F_gantryref09_Reduced_l50 K a1 k) x55 = some (x38', x44') ∧ H = [hO cI b26 c27 3 n28 x25, hO (cSl cQ) b5 c6 24 (0 + a0.length) x31] ∧ E = [(1, .vc (pI .i64 a1)), (6, .vc (pO b5 (0 + a0.length) c6)), (7, .vc (pO b26 n28 c27)), (8, .vc (pI .i64 x37)), (9, .vc (pI .i64 (x25.length : Int))), (10, .vc (pI .i64 x55))]) ?_ (fun Jj57 => ?_)))))
    · rintro _ _ ⟨x55, hF, rfl, rfl⟩
      unfold F_gantryref09_Reduced_j57 at hF
      refine r_next (r_seq (r_seq (r_reg (r_mv ?_))))
      refine r_mv ?_
      refine r_op (t_lnE (C := (cSl cQ)) (xs := x31) (T := 24) rfl tyS47 q35) ⟨rfl, trivial⟩ ?_
      refine r_op (t_eq rfl) ⟨rfl, rfl, trivial⟩ ?_
      refine r_nil (r_next (r_if rfl (fun h58 => ?_) (fun h58 => ?_)))
      · have hF := cnd_t h58 hF
        refine r_brk (r_next (r_reg (r_mv ?_)))
        obtain ⟨v59, h60, hF⟩ := bnd hF
        refine r_op (t_add rfl h60) ⟨rfl, k_I _ _, trivial⟩ ?_
        refine r_as ?_
        refine r_nil ?_
        exact r_round (fun a w hh => ⟨x25, x31, v59, b26, c27, n28, hF, q29, q35, hs_back [0, 1] rfl (by decide) (by exact ⟨rfl, rfl, rfl, rfl, trivial⟩) hh⟩)
      have hF := cnd_f h58 hF
      refine r_skip (r_next (r_seq ?_))
      obtain ⟨v63, h64, hF⟩ := bnd hF
      obtain ⟨v65, h66, hF⟩ := bnd hF
      obtain ⟨v67, h68, hF⟩ := bnd hF
      obtain ⟨v69, h70, hF⟩ := bnd hF
      refine r_draw [0, 0, 3, 7, 0, 0, 48, 112, 0, 496, 1008, 2047, 4095] 13 0 [.v (.vc (pO b5 (0 + a0.length) c6)), .v (.vc (pI .i64 x55)), .v (.vc (pE b5 x55 (cSl cQ).n 0)), .v (.vc (pS cQ v63)), .v (.vc (pO b5 (0 + a0.length) c6)), .v (.vc (pI .i64 x55)), .v (.vc (pE b5 x55 (cSl cQ).n 0)), .v (.vc (pS cQ v65)), .v (.vc (pI .i64 x37)), .v (.vc (pM (cQ.e v67))), .v (.va (eQ v67)), .v (.vc (pS cQ v69)), .v (.vc (pS cQ v69))] Tryz_mixed ⟨d0 (t_mv (.inl rfl)) ⟨rfl, trivial⟩, d0 (t_mv (.inl rfl)) ⟨rfl, trivial⟩, d0 (t_ixE (C := (cSl cQ)) 1 rfl tyS47 rfl q35 (rdL_some h64).1 (rdL_some h64).2.1) ⟨rfl, rfl, trivial⟩, d0 (t_ldE (k := 1) 1 rfl rfl h64 rfl (.one tyO24) rfl) ⟨rfl, trivial⟩, d0 (t_mv (.inl rfl)) ⟨rfl, trivial⟩, d0 (t_mv (.inl rfl)) ⟨rfl, trivial⟩, d0 (t_ixE (C := (cSl cQ)) 1 rfl tyS47 rfl q35 (rdL_some h66).1 (rdL_some h66).2.1) ⟨rfl, rfl, trivial⟩, d0 (t_ldE (k := 1) 1 rfl rfl h66 rfl (.one tyO24) rfl) ⟨rfl, trivial⟩, d0 (t_mv (.inl rfl)) ⟨rfl, trivial⟩, d0 (t_ix rfl tyS24 h68) ⟨rfl, rfl, trivial⟩, d0 (t_lM 4 rfl rfl (.agg tyA35)) ⟨rfl, trivial⟩, d0 (t_call rfl (ct_gantryref09_over h70) rfl) ⟨rfl, rfl, trivial⟩, d0 (t_mv (.inr rfl)) ⟨rfl, trivial⟩, trivial⟩ (fun bs62 G61 => ?_)
      refine r_nil (r_next (r_seq (r_reg (r_mv ?_))))
      refine r_mv ?_
      refine r_mv ?_
      refine r_mv ?_
      obtain ⟨v71, h72, hF⟩ := bnd hF
      refine r_op (t_ixE (C := (cSl cQ)) 1 rfl tyS47 rfl q35 (rdL_some h72).1 (rdL_some h72).2.1) ⟨rfl, rfl, trivial⟩ ?_
      refine r_op (t_ldE (k := 1) 1 rfl rfl h72 rfl (.one tyO24) rfl) ⟨rfl, trivial⟩ ?_
      obtain ⟨v73, h74, hF⟩ := bnd hF
      refine r_op (t_ixE (C := (cSl cQ)) 1 rfl tyS47 rfl q35 (rdL_some h74).1 (rdL_some h74).2.1) ⟨rfl, rfl, trivial⟩ ?_
      obtain ⟨x75, h76, hF⟩ := bnd hF
      refine r_op0 (t_stE 1 rfl rfl h74 h76 tyO24.s) ⟨rfl, rfl, trivial⟩ ?_
      refine r_nil (r_next (r_seq (r_seq (r_reg (r_op (t_mv (.inr rfl)) ⟨k_I _ _, trivial⟩ ?_)))))
      refine r_nil (r_next (r_blk (r_cutN (fun H E => ∃ (x92 : List (List Rat)), F_gantryref09_Reduced_j99 K x25 x37 v69 (F_gantryref09_Reduced_l50 K a1 k) x92 = some (x38', x44') ∧ x92.length = (0 + a0.length) ∧ H = [hO cI b26 c27 3 n28 x25, hO (cSl cQ) b5 c6 24 (0 + a0.length) x92] ∧ E = [(1, .vc (pI .i64 a1)), (6, .vc (pO b5 (0 + a0.length) c6)), (7, .vc (pO b26 n28 c27)), (8, .vc (pI .i64 x37)), (9, .vc (pI .i64 (x25.length : Int))), (11, .vc (pS cQ v69))]) ?_ (fun Jj99 => ?_))))
      · rintro _ _ ⟨x92, hF, q96, rfl, rfl⟩
        unfold F_gantryref09_Reduced_j99 at hF
        refine r_next (r_seq (r_reg (r_mv ?_)))
        refine r_mv ?_
        refine r_mv ?_
        obtain ⟨v100, h101, hF⟩ := bnd hF
        refine r_op (t_ixE (C := (cSl cQ)) 1 rfl tyS47 rfl q96 (rdL_some h101).1 (rdL_some h101).2.1) ⟨rfl, rfl, trivial⟩ ?_
        obtain ⟨x102, h103, hF⟩ := bnd hF
        refine r_op0 (t_stE 1 rfl rfl h101 h103 tyO24.s) ⟨rfl, rfl, trivial⟩ ?_
        refine r_nil (r_next (r_reg (r_mv ?_)))
        refine r_mv ?_
        refine r_op (t_bs (C := cI) (xs := [.tmp 95]) (ps := [.vc (pI .i64 x37)]) (zs := [x37]) rfl tyS22 rfl ⟨⟨trivial, rfl⟩, trivial⟩ rfl) ⟨rfl, trivial⟩ ?_
        obtain ⟨x105, h106, hF⟩ := bnd hF
        refine r_app 0 rfl tyS22 rfl rfl q29 rfl rfl h106 (fun b107 c108 H109 e110 => ?_)
        cases e110
        refine r_as ?_
        refine r_nil (r_blkN (r_next (r_reg (r_mv ?_))))
        obtain ⟨v112, h113, hF⟩ := bnd hF
        refine r_op (t_add rfl h113) ⟨rfl, k_I _ _, trivial⟩ ?_
        refine r_as ?_
        refine r_nil ?_
        exact r_round (fun a w hh => ⟨x105, x102, v112, b107, c108, (n28 + [x37].length), hF, (apL_len h106 q29), (stL_len h103 q96), hs_back [0, 1] rfl (by decide) (by exact ⟨rfl, rfl, rfl, rfl, trivial⟩) hh⟩)
      obtain ⟨x92', hL, hRl98⟩ := bnd hF
      refine r_lp (fun k a w => ∃ (x85 : List (List Rat)), ∃ (x91 : Int), F_gantryref09_Reduced_l98 K x37 v69 k x85 x91 = some x92' ∧ x85.length = (0 + a0.length) ∧ hs _ [hO cI b26 c27 3 n28 x25, hO (cSl cQ) b5 c6 24 (0 + a0.length) x85] [(1, .vc (pI .i64 a1)), (6, .vc (pO b5 (0 + a0.length) c6)), (7, .vc (pO b26 n28 c27)), (8, .vc (pI .i64 x37)), (9, .vc (pI .i64 (x25.length : Int))), (11, .vc (pS cQ v69)), (12, .vc (pI .i64 x91))] a w) K (fun a w ⟨_, _, hF, _, _⟩ => by cases hF) (fun k a w ⟨x85, x91, hF, q89, hh⟩ => r_at ?_ hh) (fun a w hh => ⟨x75, 0, hL, (stL_len h76 q35), hs_back [0, 1] rfl (by decide) (by exact ⟨rfl, rfl, rfl, rfl, rfl, rfl, rfl, trivial⟩) hh⟩)
      rw [F_gantryref09_Reduced_l98.eq_2] at hF
      refine r_seq (r_seq (r_reg (r_mv ?_)))
      refine r_mv ?_
      refine r_op (t_lnE (C := (cSl cQ)) (xs := x85) (T := 24) rfl tyS47 q89) ⟨rfl, trivial⟩ ?_
      refine r_op (t_lt rfl) ⟨rfl, rfl, trivial⟩ ?_
      refine r_nil (r_next (r_if rfl (fun h114 => ?_) (fun h114 => ?_)))
      · have hF := cnd_t h114 hF
        refine r_skip (r_next (r_seq (r_blk ?_)))
        obtain ⟨v117, h118, hF⟩ := bnd hF
        obtain ⟨v119, h120, hF⟩ := bnd hF
        obtain ⟨v121, h122, hF⟩ := bnd hF
        obtain ⟨v123, h124, hF⟩ := bnd hF
        obtain ⟨v125, h126, hF⟩ := bnd hF
        refine r_draw [0, 0, 0, 0, 12, 28, 0, 0, 0, 384, 896, 0, 3968, 8064, 16380, 32767, 65535] 16 1 [.v (.vc (pO b5 (0 + a0.length) c6)), .v (.vc (pI .i64 x91)), .v (.vc (pO b5 (0 + a0.length) c6)), .v (.vc (pI .i64 x91)), .v (.vc (pE b5 x91 (cSl cQ).n 0)), .v (.vc (pS cQ v117)), .v (.vc (pS cQ v69)), .v (.vc (pO b5 (0 + a0.length) c6)), .v (.vc (pI .i64 x91)), .v (.vc (pE b5 x91 (cSl cQ).n 0)), .v (.vc (pS cQ v119)), .v (.vc (pI .i64 x37)), .v (.vc (pM (cQ.e v121))), .v (.va (eQ v121)), .v (.vc (pS cQ v123)), .v (.vc (pE b5 x91 (cSl cQ).n 0))] Tryz_mixed ⟨d0 (t_mv (.inl rfl)) ⟨rfl, trivial⟩, d0 (t_mv (.inl rfl)) ⟨rfl, trivial⟩, d0 (t_mv (.inl rfl)) ⟨rfl, trivial⟩, d0 (t_mv (.inl rfl)) ⟨rfl, trivial⟩, d0 (t_ixE (C := (cSl cQ)) 1 rfl tyS47 rfl q89 (rdL_some h118).1 (rdL_some h118).2.1) ⟨rfl, rfl, trivial⟩, d0 (t_ldE (k := 1) 1 rfl rfl h118 rfl (.one tyO24) rfl) ⟨rfl, trivial⟩, d0 (t_mv (.inl rfl)) ⟨rfl, trivial⟩, d0 (t_mv (.inl rfl)) ⟨rfl, trivial⟩, d0 (t_mv (.inl rfl)) ⟨rfl, trivial⟩, d0 (t_ixE (C := (cSl cQ)) 1 rfl tyS47 rfl q89 (rdL_some h120).1 (rdL_some h120).2.1) ⟨rfl, rfl, trivial⟩, d0 (t_ldE (k := 1) 1 rfl rfl h120 rfl (.one tyO24) rfl) ⟨rfl, trivial⟩, d0 (t_mv (.inl rfl)) ⟨rfl, trivial⟩, d0 (t_ix rfl tyS24 h122) ⟨rfl, rfl, trivial⟩, d0 (t_lM 4 rfl rfl (.agg tyA35)) ⟨rfl, trivial⟩, d0 (t_call rfl (ct_gantryref09_less h124) rfl) ⟨rfl, rfl, rfl, trivial⟩, d0 (t_ixE (C := (cSl cQ)) 1 rfl tyS47 rfl q89 (rdL_some h126).1 (rdL_some h126).2.1) ⟨rfl, rfl, trivial⟩, trivial⟩ (fun bs116 G115 => ?_)
        obtain ⟨x127, h128, hF⟩ := bnd hF
        refine r_op0 (t_stE 1 rfl rfl h126 h128 tyO24.s) ⟨rfl, rfl, trivial⟩ ?_
        refine r_nil (r_blkN (r_next (r_reg (r_mv ?_))))
        obtain ⟨v130, h131, hF⟩ := bnd hF
        refine r_op (t_add rfl h131) ⟨rfl, k_I _ _, trivial⟩ ?_
        refine r_as ?_
        refine r_nil ?_
        exact r_round (fun a w hh => ⟨x127, v130, hF, (stL_len h128 q89), hs_back [0, 1] rfl (by decide) (by exact ⟨rfl, rfl, rfl, rfl, rfl, rfl, rfl, trivial⟩) hh⟩)
      have hF := cnd_f h114 hF
      refine r_brk ?_
      obtain rfl := sm1 hF
      exact r_backJ Jj99 ⟨x85, hRl98, q89, rfl, rfl⟩ [0, 1] rfl ⟨rfl, rfl, rfl, rfl, rfl, rfl, trivial⟩
    obtain ⟨x55', hL, hRl56⟩ := bnd hF
    refine r_lp (fun k a w => ∃ (x54 : Int), F_gantryref09_Reduced_l56 K x31 x37 k x54 = some x55' ∧ hs _ [hO cI b26 c27 3 n28 x25, hO (cSl cQ) b5 c6 24 (0 + a0.length) x31] [(1, .vc (pI .i64 a1)), (6, .vc (pO b5 (0 + a0.length) c6)), (7, .vc (pO b26 n28 c27)), (8, .vc (pI .i64 x37)), (9, .vc (pI .i64 (x25.length : Int))), (10, .vc (pI .i64 x54))] a w) K (fun a w ⟨_, hF, _⟩ => by cases hF) (fun k a w ⟨x54, hF, hh⟩ => r_at ?_ hh) (fun a w hh => ⟨(x25.length : Int), hL, hs_back [0, 1] rfl (by decide) (by exact ⟨rfl, rfl, rfl, rfl, rfl, rfl, trivial⟩) hh⟩)
    rw [F_gantryref09_Reduced_l56.eq_2] at hF
    refine r_seq (r_seq (r_reg (r_mv ?_)))
    refine r_mv ?_
    refine r_op (t_lnE (C := (cSl cQ)) (xs := x31) (T := 24) rfl tyS47 q35) ⟨rfl, trivial⟩ ?_
    refine r_op (t_lt rfl) ⟨rfl, rfl, trivial⟩ ?_
    refine r_mv ?_
    refine r_bool (fun h132 => ?_) (fun h132 => ?_)
    · have hF := cnd_t h132 hF
      refine r_opg (t_mv (.inl rfl)) ⟨rfl, trivial⟩ ?_
      refine r_opg (t_mv (.inl rfl)) ⟨rfl, trivial⟩ ?_
      refine r_opg (t_mv (.inl rfl)) ⟨rfl, trivial⟩ ?_
      refine r_opg (t_lnE (C := (cSl cQ)) (xs := x31) (T := 24) rfl tyS47 q35) ⟨rfl, trivial⟩ ?_
      obtain ⟨v133, h134, hF⟩ := bnd hF
      refine r_opg (t_sub rfl h134) ⟨rfl, k_I _ _, trivial⟩ ?_
      refine r_opg (t_min rfl) ⟨rfl, rfl, trivial⟩ ?_
      obtain ⟨v135, h136, hF⟩ := bnd hF
      refine r_opg (t_ixE (C := (cSl cQ)) 1 rfl tyS47 rfl q35 (rdL_some h136).1 (rdL_some h136).2.1) ⟨rfl, rfl, trivial⟩ ?_
      refine r_opg (t_ldE (k := 1) 1 rfl rfl h136 rfl (.one tyO24) rfl) ⟨rfl, trivial⟩ ?_
      refine r_opg (t_mv (.inl rfl)) ⟨rfl, trivial⟩ ?_
      obtain ⟨v137, h138, hF⟩ := bnd hF
      refine r_opg (t_ix rfl tyS24 h138) ⟨rfl, rfl, trivial⟩ ?_
      refine r_opg (t_lM 4 rfl rfl (.agg tyA35)) ⟨rfl, trivial⟩ ?_
      obtain ⟨v139, h140, hF⟩ := bnd hF
      refine r_opg (t_call rfl (qc_gantryref05_Sign h140) rfl) ⟨rfl, trivial⟩ ?_
      refine r_opg (t_eq rfl) ⟨rfl, k_I _ _, trivial⟩ ?_
      refine r_op (t_pickT rfl) ⟨rfl, rfl, trivial⟩ ?_
      refine r_nil (r_next (r_if rfl (fun h141 => ?_) (fun h141 => ?_)))
      · have hF := cnd_t h141 hF
        refine r_skip (r_next (r_blk (r_reg (r_mv ?_))))
        obtain ⟨v142, h143, hF⟩ := bnd hF
        refine r_op (t_add rfl h143) ⟨rfl, k_I _ _, trivial⟩ ?_
        refine r_as ?_
        refine r_nil (r_blkN ?_)
        exact r_round (fun a w hh => ⟨v142, hF, hs_back [0, 1] rfl (by decide) (by exact ⟨rfl, rfl, rfl, rfl, rfl, rfl, trivial⟩) hh⟩)
      have hF := cnd_f h141 hF
      refine r_brk ?_
      obtain rfl := sm1 hF
      exact r_backJ Jj57 ⟨x54, hRl56, rfl, rfl⟩ [0, 1] rfl ⟨rfl, rfl, rfl, rfl, rfl, rfl, trivial⟩
    have hF := cnd_f h132 hF
    refine r_opn ?_
    refine r_opn ?_
    refine r_opn ?_
    refine r_opn ?_
    refine r_opn ?_
    refine r_opn ?_
    refine r_opn ?_
    refine r_opn ?_
    refine r_opn ?_
    refine r_opn ?_
    refine r_opn ?_
    refine r_opn ?_
    refine r_opn ?_
    refine r_op (t_pickF rfl) ⟨rfl, k_B _, trivial⟩ ?_
    refine r_nil (r_next (r_ifF rfl ?_))
    refine r_brk ?_
    obtain rfl := sm1 hF
    exact r_backJ Jj57 ⟨x54, hRl56, rfl, rfl⟩ [0, 1] rfl ⟨rfl, rfl, rfl, rfl, rfl, rfl, trivial⟩
  have hF := cnd_f h52 hF
  refine r_brk ?_
  obtain ⟨rfl, rfl⟩ := sm2 hF
  exact r_backJ Jj51 ⟨x25, x31, b26, c27, n28, hRl50, q29, q35, rfl, rfl⟩ [0, 1] rfl ⟨rfl, rfl, trivial⟩
def F_gantryref09_joined_j24 (K : Nat) (x17 : List (List Rat)) : Option (List (List Rat)) :=
  some x17
def F_gantryref09_joined_l23 (K : Nat) (a0 : List (List Rat)) (a1 : List (List Rat)) : Nat → (List (List Rat)) → Int → Option (List (List Rat))
  | 0, _, _ => none
  | k + 1, x10, x16 => bif (decide (x16 < (a0.length : Int))) then ((rdL a0 x16).bind fun v30 => (apL ([] : List Rat) v30).bind fun x32 => (rdL a1 x16).bind fun v35 => (apL x32 v35).bind fun x37 => (apL x10 [x37]).bind fun x39 => (chk (x16 + 1)).bind fun v46 => F_gantryref09_joined_l23 K a0 a1 k x39 v46) else (some x10)
def F_gantryref09_joined (K : Nat) (a0 : List (List Rat)) (a1 : List (List Rat)) : Option (List (List Rat)) :=
  (F_gantryref09_joined_l23 K a0 a1 K ([] : List (List Rat)) 0).bind fun x17 => F_gantryref09_joined_j24 K x17
theorem ct_gantryref09_joined {K : Nat} {a0 : List (List Rat)} {a1 : List (List Rat)} {r : List (List Rat)} (hF : F_gantryref09_joined K a0 a1 = some r) : Ct Tryz.prog 109 [.vc (pS (cSl cQ) a0), .vc (pS (cSl cQ) a1)] (.vc (pS (cSl cQ) r)) := by
  unfold F_gantryref09_joined at hF
  refine ctO_intro Tryz.func109 rfl (by kernel_rfl) Tryz.ntmps109 rfl (fun w0 M0 => ?_)
  refine r_seq (r_reg (r_op (t_mv (.inr rfl)) ⟨k_nil (cSl cQ), trivial⟩ ?_))
  refine r_nil (r_next (r_seq (r_reg (r_nilO (cSl cQ) 24 rfl ?_))))
  refine r_nil (r_next (r_seq (r_seq (r_reg (r_op (t_mv (.inr rfl)) ⟨k_I _ _, trivial⟩ ?_)))))
  refine r_nil (r_next (r_blk (r_cutN (fun H E => ∃ (x17 : List (List Rat)), ∃ (b18 : Option Nat), ∃ (c19 : Nat), ∃ (n20 : Nat), F_gantryref09_joined_j24 K x17 = some r ∧ x17.length = n20 ∧ H = [hO (cSl cQ) b18 c19 24 n20 x17] ∧ E = [(5, .vc (pO b18 n20 c19))]) ?_ (fun Jj24 => ?_))))
  · rintro _ _ ⟨x17, b18, c19, n20, hF, q21, rfl, rfl⟩
    unfold F_gantryref09_joined_j24 at hF
    refine r_next (r_seq (r_reg (r_mv ?_)))
    refine r_as ?_
    refine r_nil (r_next (r_ret (r_toR (r_fzX 0 [4, 5, 28] rfl q21 ⟨rfl, rfl, rfl, trivial⟩ rfl ?_))))
    obtain rfl := sm1 hF
    exact r_done1 (.inl rfl) Tryz.results109 (.tmp rfl .nil) rfl rfl
  obtain ⟨x17', hL, hRl23⟩ := bnd hF
  refine r_lp (fun k a w => ∃ (x10 : List (List Rat)), ∃ (x16 : Int), ∃ (b11 : Option Nat), ∃ (c12 : Nat), ∃ (n13 : Nat), F_gantryref09_joined_l23 K a0 a1 k x10 x16 = some x17' ∧ x10.length = n13 ∧ hs _ [hO (cSl cQ) b11 c12 24 n13 x10] [(0, .vc (pS (cSl cQ) a0)), (1, .vc (pS (cSl cQ) a1)), (5, .vc (pO b11 n13 c12)), (6, .vc (pI .i64 x16))] a w) K (fun a w ⟨_, _, _, _, _, hF, _, _⟩ => by cases hF) (fun k a w ⟨x10, x16, b11, c12, n13, hF, q14, hh⟩ => r_at ?_ hh) (fun a w hh => ⟨([] : List (List Rat)), 0, none, 0, 0, hL, rfl, hs_back [0] rfl (by decide) (by exact ⟨rfl, rfl, rfl, rfl, trivial⟩) hh⟩)
  rw [F_gantryref09_joined_l23.eq_2] at hF
  refine r_seq (r_seq (r_reg (r_mv ?_)))
  refine r_mv ?_
  refine r_op (t_ln rfl tyS47) ⟨rfl, trivial⟩ ?_
  refine r_op (t_lt rfl) ⟨rfl, rfl, trivial⟩ ?_
  refine r_nil (r_next (r_if rfl (fun h25 => ?_) (fun h25 => ?_)))
  · have hF := cnd_t h25 hF
    refine r_skip (r_next (r_seq (r_blk (r_seq (r_reg (r_nilO cQ 35 rfl ?_))))))
    refine r_nil (r_next ?_)
    obtain ⟨v30, h31, hF⟩ := bnd hF
    obtain ⟨x32, h33, hF⟩ := bnd hF
    obtain ⟨v35, h36, hF⟩ := bnd hF
    obtain ⟨x37, h38, hF⟩ := bnd hF
    refine r_drawH (HsL [fun G28 => [hO cQ none 0 35 0 ([] : List Rat), hO (cSl cQ) b11 c12 24 n13 x10], fun G28 => [hO cQ ((G28 6).1) ((G28 6).2) 35 (0 + v30.length) x32, hO (cSl cQ) b11 c12 24 n13 x10], fun G28 => [hO (cSl cQ) b11 c12 24 n13 x10]]) [6, 11] [0, 0, 0, 0, 12, 28, 62, 0, 0, 384, 896, 2046, 4094, 8191, 16383] 13 2 [.v (.vc (pO b11 n13 c12)), .v (.vc (pO none 0 0)), .v (.vc (pS (cSl cQ) a0)), .v (.vc (pI .i64 x16)), .v (.vc (pM ((cSl cQ).e v30))), .v (.vc (pS cQ v30)), .g (fun b c => .vc (pO b (0 + v30.length) c)), .v (.vc (pS (cSl cQ) a1)), .v (.vc (pI .i64 x16)), .v (.vc (pM ((cSl cQ).e v35))), .v (.vc (pS cQ v35)), .g (fun _ _ => .vc (pS cQ x37)), .v (.vc (pS (cSl cQ) [x37]))] Tryz_mixed ⟨⟨rfl, .run (lo := 0) (n := 3) ⟨fun G28 A => t_mv (.inl rfl), fun G28 A => t_mv (.inl rfl), fun G28 A => t_mv (.inl rfl), trivial⟩ (fun G28 => ⟨rfl, trivial⟩)⟩, d1 0 (t_mv (.inl rfl)) ⟨rfl, trivial⟩, d1 0 (t_mv (.inl rfl)) ⟨rfl, trivial⟩, d1 0 (t_mv (.inl rfl)) ⟨rfl, trivial⟩, d1 0 (t_ix rfl tyS47 h31) ⟨rfl, rfl, trivial⟩, d1 0 (t_lM 1 rfl rfl (.one tyO24)) ⟨rfl, trivial⟩, ⟨rfl, .hvy 0 (fun G28 A => hv_app 0 rfl tyS24 rfl rfl rfl h33) (fun G28 => ⟨rfl, rfl, trivial⟩)⟩, ⟨rfl, .run (lo := 0) (n := 2) ⟨fun G28 A => t_mv (.inl rfl), fun G28 A => t_mv (.inl rfl), trivial⟩ (fun G28 => ⟨rfl, trivial⟩)⟩, ⟨rfl, .run (lo := 0) (n := 2) ⟨fun G28 A => t_mv (.inl rfl), fun G28 A => t_mv (.inl rfl), trivial⟩ (fun G28 => ⟨rfl, trivial⟩)⟩, ⟨rfl, .run (lo := 0) (n := 2) ⟨fun G28 A => t_ix rfl tyS47 h36, fun G28 A => t_ix rfl tyS47 h36, trivial⟩ (fun G28 => ⟨rfl, rfl, trivial⟩)⟩, ⟨rfl, .run (lo := 0) (n := 2) ⟨fun G28 A => t_lM 1 rfl rfl (.one tyO24), fun G28 A => t_lM 1 rfl rfl (.one tyO24), trivial⟩ (fun G28 => ⟨rfl, trivial⟩)⟩, ⟨rfl, .hvy 1 (fun G28 A => hv_tr (tr_frz 0 (hv_app 0 rfl tyS24 rfl rfl (apL_len h33 rfl) h38) (fun _ _ => rfl) (apL_len h38 (apL_len h33 rfl)) (fun _ _ => rfl))) (fun G28 => ⟨rfl, rfl, trivial⟩)⟩, d1 2 (t_bs (C := (cSl cQ)) (xs := [.tmp 25]) (ps := [.vc (pS cQ x37)]) (zs := [x37]) rfl tyS47 rfl ⟨⟨trivial, rfl⟩, trivial⟩ rfl) ⟨rfl, trivial⟩, trivial⟩ (fun bs29 G28 => ?_)
    obtain ⟨x39, h40, hF⟩ := bnd hF
    refine r_app 0 rfl tyS47 rfl rfl q14 rfl rfl h40 (fun b41 c42 H43 e44 => ?_)
    cases e44
    refine r_as ?_
    refine r_nil (r_blkN (r_next (r_reg (r_mv ?_))))
    obtain ⟨v46, h47, hF⟩ := bnd hF
    refine r_op (t_add rfl h47) ⟨rfl, k_I _ _, trivial⟩ ?_
    refine r_as ?_
    refine r_nil ?_
    exact r_round (fun a w hh => ⟨x39, v46, b41, c42, (n13 + [x37].length), hF, (apL_len h40 q14), hs_back [0] rfl (by decide) (by exact ⟨rfl, rfl, rfl, rfl, trivial⟩) hh⟩)
  have hF := cnd_f h25 hF
  refine r_brk ?_
  obtain rfl := sm1 hF
  exact r_backJ Jj24 ⟨x10, b11, c12, n13, hRl23, q14, rfl, rfl⟩ [0] rfl ⟨rfl, trivial⟩
def F_gantryref09_Unit_j24 (K : Nat) (x17 : List (List Rat)) : Option (List (List Rat)) :=
  some x17
def F_gantryref09_Unit_l23 (K : Nat) (a0 : Int) : Nat → (List (List Rat)) → Int → Option (List (List Rat))
  | 0, _, _ => none
  | k + 1, x10, x16 => bif (decide (x16 < a0)) then ((mkL a0 0).bind fun x26 => (qof 1 1).bind fun v31 => (rdL x26 x16).bind fun v33 => (stL x26 x16 v31).bind fun x35 => (apL x10 [x35]).bind fun x38 => (chk (x16 + 1)).bind fun v45 => F_gantryref09_Unit_l23 K a0 k x38 v45) else (some x10)
def F_gantryref09_Unit (K : Nat) (a0 : Int) : Option (List (List Rat)) :=
  (F_gantryref09_Unit_l23 K a0 K ([] : List (List Rat)) 0).bind fun x17 => F_gantryref09_Unit_j24 K x17
theorem ct_gantryref09_Unit {K : Nat} {a0 : Int} {r : List (List Rat)} (hF : F_gantryref09_Unit K a0 = some r) : Ct Tryz.prog 120 [.vc (pI .i64 a0)] (.vc (pS (cSl cQ) r)) := by
  unfold F_gantryref09_Unit at hF
  refine ctO_intro Tryz.func120 rfl (by kernel_rfl) Tryz.ntmps120 rfl (fun w0 M0 => ?_)
  refine r_seq (r_reg (r_op (t_mv (.inr rfl)) ⟨k_nil (cSl cQ), trivial⟩ ?_))
  refine r_nil (r_next (r_seq (r_reg (r_nilO (cSl cQ) 24 rfl ?_))))
  refine r_nil (r_next (r_seq (r_seq (r_reg (r_op (t_mv (.inr rfl)) ⟨k_I _ _, trivial⟩ ?_)))))
  refine r_nil (r_next (r_blk (r_cutN (fun H E => ∃ (x17 : List (List Rat)), ∃ (b18 : Option Nat), ∃ (c19 : Nat), ∃ (n20 : Nat), F_gantryref09_Unit_j24 K x17 = some r ∧ x17.length = n20 ∧ H = [hO (cSl cQ) b18 c19 24 n20 x17] ∧ E = [(3, .vc (pO b18 n20 c19))]) ?_ (fun Jj24 => ?_))))
  · rintro _ _ ⟨x17, b18, c19, n20, hF, q21, rfl, rfl⟩
    unfold F_gantryref09_Unit_j24 at hF
    refine r_next (r_seq (r_reg (r_mv ?_)))
    refine r_as ?_
    refine r_nil (r_next (r_ret (r_toR (r_fzX 0 [2, 3, 21] rfl q21 ⟨rfl, rfl, rfl, trivial⟩ rfl ?_))))
    obtain rfl := sm1 hF
    exact r_done1 (.inl rfl) Tryz.results120 (.tmp rfl .nil) rfl rfl
  obtain ⟨x17', hL, hRl23⟩ := bnd hF
  refine r_lp (fun k a w => ∃ (x10 : List (List Rat)), ∃ (x16 : Int), ∃ (b11 : Option Nat), ∃ (c12 : Nat), ∃ (n13 : Nat), F_gantryref09_Unit_l23 K a0 k x10 x16 = some x17' ∧ x10.length = n13 ∧ hs _ [hO (cSl cQ) b11 c12 24 n13 x10] [(0, .vc (pI .i64 a0)), (3, .vc (pO b11 n13 c12)), (4, .vc (pI .i64 x16))] a w) K (fun a w ⟨_, _, _, _, _, hF, _, _⟩ => by cases hF) (fun k a w ⟨x10, x16, b11, c12, n13, hF, q14, hh⟩ => r_at ?_ hh) (fun a w hh => ⟨([] : List (List Rat)), 0, none, 0, 0, hL, rfl, hs_back [0] rfl (by decide) (by exact ⟨rfl, rfl, rfl, trivial⟩) hh⟩)
  rw [F_gantryref09_Unit_l23.eq_2] at hF
  refine r_seq (r_seq (r_reg (r_mv ?_)))
  refine r_mv ?_
  refine r_op (t_lt rfl) ⟨rfl, rfl, trivial⟩ ?_
  refine r_nil (r_next (r_if rfl (fun h25 => ?_) (fun h25 => ?_)))
  · have hF := cnd_t h25 hF
    refine r_skip (r_next (r_seq (r_blk (r_seq (r_reg (r_mv ?_))))))
    obtain ⟨x26, h27, hF⟩ := bnd hF
    refine r_make (C := cQ) rfl tyS24 rfl tyZ35q rfl h27 (fun b28 => ?_)
    refine r_as ?_
    refine r_nil (r_next (r_seq (r_reg (r_mv ?_))))
    refine r_mv ?_
    obtain ⟨v31, h32, hF⟩ := bnd hF
    refine r_op (t_call rfl (qc_gantryref05_Of h32) rfl) ⟨k_I _ _, k_I _ _, trivial⟩ ?_
    obtain ⟨v33, h34, hF⟩ := bnd hF
    refine r_op (t_ixE (C := cQ) 0 rfl tyS24 rfl rfl (rdL_some h34).1 (rdL_some h34).2.1) ⟨rfl, rfl, trivial⟩ ?_
    obtain ⟨x35, h36, hF⟩ := bnd hF
    refine r_op0 (t_stE 0 rfl rfl h34 h36 tyA35.s) ⟨rfl, rfl, trivial⟩ ?_
    refine r_nil (r_next (r_reg (r_mv ?_)))
    refine r_mv ?_
    refine r_fzL 0 [5, 12, 13, 18] rfl (stL_len h36 rfl) ⟨rfl, rfl, rfl, rfl, trivial⟩ rfl ?_
    refine r_op (t_bs (C := (cSl cQ)) (xs := [.tmp 18]) (ps := [.vc (pS cQ x35)]) (zs := [x35]) rfl tyS47 rfl ⟨⟨trivial, rfl⟩, trivial⟩ rfl) ⟨rfl, trivial⟩ ?_
    obtain ⟨x38, h39, hF⟩ := bnd hF
    refine r_app 0 rfl tyS47 rfl rfl q14 rfl rfl h39 (fun b40 c41 H42 e43 => ?_)
    cases e43
    refine r_as ?_
    refine r_nil (r_blkN (r_next (r_reg (r_mv ?_))))
    obtain ⟨v45, h46, hF⟩ := bnd hF
    refine r_op (t_add rfl h46) ⟨rfl, k_I _ _, trivial⟩ ?_
    refine r_as ?_
    refine r_nil ?_
    exact r_round (fun a w hh => ⟨x38, v45, b40, c41, (n13 + [x35].length), hF, (apL_len h39 q14), hs_back [0] rfl (by decide) (by exact ⟨rfl, rfl, rfl, trivial⟩) hh⟩)
  have hF := cnd_f h25 hF
  refine r_brk ?_
  obtain rfl := sm1 hF
  exact r_backJ Jj24 ⟨x10, b11, c12, n13, hRl23, q14, rfl, rfl⟩ [0] rfl ⟨rfl, trivial⟩
def F_gantryref09_Inverse_j31 (K : Nat) (x24 : List (List Rat)) : Option ((List (List Rat)) × Bool) :=
  some (x24, true)
def F_gantryref09_Inverse_l30 (K : Nat) (a0 : List (List Rat)) (v5 : (List (List Rat)) × (List Int)) : Nat → (List (List Rat)) → Int → Option (List (List Rat))
  | 0, _, _ => none
  | k + 1, x17, x23 => bif (decide (x23 < (a0.length : Int))) then ((rdL v5.1 x23).bind fun v33 => (slL v33 (a0.length : Int) (v33.length : Int)).bind fun x35 => (apL x17 [x35]).bind fun x37 => (chk (x23 + 1)).bind fun v44 => F_gantryref09_Inverse_l30 K a0 v5 k x37 v44) else (some x17)
def F_gantryref09_Inverse (K : Nat) (a0 : List (List Rat)) : Option ((List (List Rat)) × Bool) :=
  (F_gantryref09_Unit K (a0.length : Int)).bind fun v1 => (F_gantryref09_joined K a0 v1).bind fun v3 => (F_gantryref09_Reduced K v3 (a0.length : Int)).bind fun v5 => bif (decide ((v5.2.length : Int) < (a0.length : Int))) then (some ([], false)) else ((F_gantryref09_Inverse_l30 K a0 v5 K ([] : List (List Rat)) 0).bind fun x24 => F_gantryref09_Inverse_j31 K x24)
theorem ct_gantryref09_Inverse {K : Nat} {a0 : List (List Rat)} {r : (List (List Rat)) × Bool} (hF : F_gantryref09_Inverse K a0 = some r) : Ct Tryz.prog 57 [.vc (pS (cSl cQ) a0)] (.t2 (.vc (pS (cSl cQ) r.1)) (.vc (pB r.2))) := by
  unfold F_gantryref09_Inverse at hF
  refine ctO_intro Tryz.func57 rfl (by kernel_rfl) Tryz.ntmps57 rfl (fun w0 M0 => ?_)
  refine r_seq (r_reg (r_op (t_mv (.inr rfl)) ⟨k_nil (cSl cQ), trivial⟩ ?_))
  refine r_op (t_mv (.inr rfl)) ⟨k_B _, trivial⟩ ?_
  refine r_nil (r_next (r_seq (r_reg (r_mv ?_))))
  refine r_op (t_ln rfl tyS47) ⟨rfl, trivial⟩ ?_
  refine r_as ?_
  refine r_nil (r_next (r_seq (r_reg (r_mv ?_))))
  refine r_mv ?_
  obtain ⟨v1, h2, hF⟩ := bnd hF
  refine r_op (t_call rfl (ct_gantryref09_Unit h2) rfl) ⟨rfl, trivial⟩ ?_
  obtain ⟨v3, h4, hF⟩ := bnd hF
  refine r_op (t_call rfl (ct_gantryref09_joined h4) rfl) ⟨rfl, rfl, trivial⟩ ?_
  refine r_mv ?_
  obtain ⟨v5, h6, hF⟩ := bnd hF
  refine r_op (t_call rfl (ct_gantryref09_Reduced h6) rfl) ⟨rfl, rfl, trivial⟩ ?_
  refine r_mv ?_
  refine r_op (t_ext2a rfl) ⟨rfl, trivial⟩ ?_
  refine r_op (t_ext2b rfl) ⟨rfl, trivial⟩ ?_
  refine r_as ?_
  refine r_as ?_
  refine r_nil (r_next (r_seq (r_seq (r_reg (r_mv ?_)))))
  refine r_op (t_ln rfl tyS22) ⟨rfl, trivial⟩ ?_
  refine r_mv ?_
  refine r_op (t_lt rfl) ⟨rfl, rfl, trivial⟩ ?_
  refine r_nil (r_next (r_if rfl (fun h7 => ?_) (fun h7 => ?_)))
  · have hF := cnd_t h7 hF
    refine r_seq (r_reg (r_op (t_mv (.inr rfl)) ⟨k_nil (cSl cQ), trivial⟩ ?_))
    refine r_op (t_mv (.inr rfl)) ⟨k_B _, trivial⟩ ?_
    refine r_nil (r_next (r_ret (r_toR ?_)))
    obtain rfl := sm1 hF
    exact r_done1 (.inl rfl) Tryz.results57 (.tmp rfl (.tmp rfl .nil)) rfl rfl
  have hF := cnd_f h7 hF
  refine r_skip (r_next (r_seq (r_reg (r_nilO (cSl cQ) 24 rfl ?_))))
  refine r_nil (r_next (r_seq (r_seq (r_reg (r_op (t_mv (.inr rfl)) ⟨k_I _ _, trivial⟩ ?_)))))
  refine r_nil (r_next (r_blk (r_cutN (fun H E => ∃ (x24 : List (List Rat)), ∃ (b25 : Option Nat), ∃ (c26 : Nat), ∃ (n27 : Nat), F_gantryref09_Inverse_j31 K x24 = some r ∧ x24.length = n27 ∧ H = [hO (cSl cQ) b25 c26 24 n27 x24] ∧ E = [(7, .vc (pO b25 n27 c26))]) ?_ (fun Jj31 => ?_))))
  · rintro _ _ ⟨x24, b25, c26, n27, hF, q28, rfl, rfl⟩
    unfold F_gantryref09_Inverse_j31 at hF
    refine r_next (r_seq (r_reg (r_mv ?_)))
    refine r_as ?_
    refine r_op (t_mv (.inr rfl)) ⟨k_B _, trivial⟩ ?_
    refine r_nil (r_next (r_ret (r_toR (r_fzX 0 [2, 7, 38] rfl q28 ⟨rfl, rfl, rfl, trivial⟩ rfl ?_))))
    obtain rfl := sm1 hF
    exact r_done1 (.inl rfl) Tryz.results57 (.tmp rfl (.tmp rfl .nil)) rfl rfl
  obtain ⟨x24', hL, hRl30⟩ := bnd hF
  refine r_lp (fun k a w => ∃ (x17 : List (List Rat)), ∃ (x23 : Int), ∃ (b18 : Option Nat), ∃ (c19 : Nat), ∃ (n20 : Nat), F_gantryref09_Inverse_l30 K a0 v5 k x17 x23 = some x24' ∧ x17.length = n20 ∧ hs _ [hO (cSl cQ) b18 c19 24 n20 x17] [(4, .vc (pI .i64 (a0.length : Int))), (5, .vc (pS (cSl cQ) v5.1)), (7, .vc (pO b18 n20 c19)), (8, .vc (pI .i64 x23))] a w) K (fun a w ⟨_, _, _, _, _, hF, _, _⟩ => by cases hF) (fun k a w ⟨x17, x23, b18, c19, n20, hF, q21, hh⟩ => r_at ?_ hh) (fun a w hh => ⟨([] : List (List Rat)), 0, none, 0, 0, hL, rfl, hs_back [0] rfl (by decide) (by exact ⟨rfl, rfl, rfl, rfl, trivial⟩) hh⟩)
  rw [F_gantryref09_Inverse_l30.eq_2] at hF
  refine r_seq (r_seq (r_reg (r_mv ?_)))
  refine r_mv ?_
  refine r_op (t_lt rfl) ⟨rfl, rfl, trivial⟩ ?_
  refine r_nil (r_next (r_if rfl (fun h32 => ?_) (fun h32 => ?_)))
  · have hF := cnd_t h32 hF
    refine r_skip (r_next (r_seq (r_blk (r_reg (r_mv ?_)))))
    refine r_mv ?_
    refine r_mv ?_
    obtain ⟨v33, h34, hF⟩ := bnd hF
    refine r_op (t_ix rfl tyS47 h34) ⟨rfl, rfl, trivial⟩ ?_
    refine r_op (t_lM 1 rfl rfl (.one tyO24)) ⟨rfl, trivial⟩ ?_
    refine r_mv ?_
    obtain ⟨x35, h36, hF⟩ := bnd hF
    refine r_op (t_cutL rfl tyS24 h36) ⟨rfl, rfl, trivial⟩ ?_
    refine r_op (t_bs (C := (cSl cQ)) (xs := [.tmp 35]) (ps := [.vc (pS cQ x35)]) (zs := [x35]) rfl tyS47 rfl ⟨⟨trivial, rfl⟩, trivial⟩ rfl) ⟨rfl, trivial⟩ ?_
    obtain ⟨x37, h38, hF⟩ := bnd hF
    refine r_app 0 rfl tyS47 rfl rfl q21 rfl rfl h38 (fun b39 c40 H41 e42 => ?_)
    cases e42
    refine r_as ?_
    refine r_nil (r_blkN (r_next (r_reg (r_mv ?_))))
    obtain ⟨v44, h45, hF⟩ := bnd hF
    refine r_op (t_add rfl h45) ⟨rfl, k_I _ _, trivial⟩ ?_
    refine r_as ?_
    refine r_nil ?_
    exact r_round (fun a w hh => ⟨x37, v44, b39, c40, (n20 + [x35].length), hF, (apL_len h38 q21), hs_back [0] rfl (by decide) (by exact ⟨rfl, rfl, rfl, rfl, trivial⟩) hh⟩)
  have hF := cnd_f h32 hF
  refine r_brk ?_
  obtain rfl := sm1 hF
  exact r_backJ Jj31 ⟨x17, b18, c19, n20, hRl30, q21, rfl, rfl⟩ [0] rfl ⟨rfl, trivial⟩
def F_gantryref09_less_s1_j35 (K : Nat) (x28 : List Rat) : Option (List Rat) :=
  some x28
def F_gantryref09_less_s1_l34 (K : Nat) (a0 : Nat) (a1 : Nat) (a2 : Rat) (a3 : List (List Rat)) : Nat → (List Rat) → Int → Option (List Rat)
  | 0, _, _ => none
  | k + 1, x21, x27 => bif (decide (x27 < ((a3.getD a0 []).length : Int))) then ((rdL (a3.getD a0 []) x27).bind fun v39 => (rdL (a3.getD a1 []) x27).bind fun v41 => (qmul a2 v41).bind fun v43 => (qsub v39 v43).bind fun v45 => (apL x21 [v45]).bind fun x47 => (chk (x27 + 1)).bind fun v54 => F_gantryref09_less_s1_l34 K a0 a1 a2 a3 k x47 v54) else (some x21)
def F_gantryref09_less_s1 (K : Nat) (a0 : Nat) (a1 : Nat) (a2 : Rat) (a3 : List (List Rat)) : Option (List Rat) :=
  (F_gantryref09_less_s1_l34 K a0 a1 a2 a3 K ([] : List Rat) 0).bind fun x28 => F_gantryref09_less_s1_j35 K x28
theorem ctO_gantryref09_less_s1 {K : Nat} {a0 : Nat} {a1 : Nat} {a2 : Rat} {a3 : List (List Rat)} {r : List Rat} (hF : F_gantryref09_less_s1 K a0 a1 a2 a3 = some r) {g4 : List Hdr} {N5 : Nat} (q6 : a3.length = N5) (q7 : LenOk g4 a3) (q2 : a0 < N5) (q3 : a1 < N5) : CtO Tryz.prog 97 ([] ++ inn cQ 35 g4 a3) [.vc (pO (hdr g4 a0).1 (hdr g4 a0).2.1 (hdr g4 a0).2.2), .vc (pO (hdr g4 a1).1 (hdr g4 a1).2.1 (hdr g4 a1).2.2), .va (eQ a2)] (fun Ho q => ∃ b1057 c1058 n1059, r.length = n1059 ∧ Ho = ([hO cQ b1057 c1058 35 n1059 r] ++ inn cQ 35 g4 a3) ∧ q = .vc (pO b1057 n1059 c1058)) := by
  unfold F_gantryref09_less_s1 at hF
  refine ctO_intro Tryz.func97 rfl (by kernel_rfl) Tryz.ntmps97 rfl (fun w0 M0 => ?_)
  refine r_seq (r_reg (r_box rfl rfl trivial (fun b9 => ?_)))
  refine r_nilO cQ 35 rfl ?_
  refine r_nil (r_next (r_seq (r_reg (r_nilO cQ 35 rfl ?_))))
  refine r_nil (r_next (r_seq (r_seq (r_reg (r_op (t_mv (.inr rfl)) ⟨k_I _ _, trivial⟩ ?_)))))
  refine r_nil (r_next (r_blk (r_cutN (fun H E => ∃ (x28 : List Rat), ∃ (b29 : Option Nat), ∃ (c30 : Nat), ∃ (n31 : Nat), F_gantryref09_less_s1_j35 K x28 = some r ∧ x28.length = n31 ∧ H = ([hO cQ b29 c30 35 n31 x28] ++ inn cQ 35 g4 a3) ∧ E = [(7, .vc (pO b29 n31 c30))]) ?_ (fun Jj35 => ?_))))
  · rintro _ _ ⟨x28, b29, c30, n31, hF, q32, rfl, rfl⟩
    unfold F_gantryref09_less_s1_j35 at hF
    refine r_next (r_seq (r_reg (r_mv ?_)))
    refine r_as ?_
    refine r_nil (r_next (r_ret (r_toR ?_)))
    obtain rfl := sm1 hF
    exact r_doneA (.inl rfl) Tryz.results97 (.tmp rfl .nil) rfl 1 [0] rfl rfl (by decide) ⟨b29, c30, n31, q32, rfl, rfl⟩
  obtain ⟨x28', hL, hRl34⟩ := bnd hF
  refine r_lp (fun k a w => ∃ (x21 : List Rat), ∃ (x27 : Int), ∃ (b22 : Option Nat), ∃ (c23 : Nat), ∃ (n24 : Nat), F_gantryref09_less_s1_l34 K a0 a1 a2 a3 k x21 x27 = some x28' ∧ x21.length = n24 ∧ hs _ ([hO cQ b22 c23 35 n24 x21, ⟨some b9, 1, 35, 4, 1, (eQ a2)⟩] ++ inn cQ 35 g4 a3) [(0, .vc (pO (hdr g4 a0).1 (hdr g4 a0).2.1 (hdr g4 a0).2.2)), (1, .vc (pO (hdr g4 a1).1 (hdr g4 a1).2.1 (hdr g4 a1).2.2)), (5, .vc (pP (some b9) 0)), (7, .vc (pO b22 n24 c23)), (8, .vc (pI .i64 x27))] a w) K (fun a w ⟨_, _, _, _, _, hF, _, _⟩ => by cases hF) (fun k a w ⟨x21, x27, b22, c23, n24, hF, q25, hh⟩ => r_at ?_ hh) (fun a w hh => ⟨([] : List Rat), 0, none, 0, 0, hL, rfl, hs_backA 3 [0, 2] rfl rfl (by decide) (by exact ⟨rfl, rfl, rfl, rfl, rfl, trivial⟩) hh⟩)
  rw [F_gantryref09_less_s1_l34.eq_2] at hF
  refine r_seq (r_seq (r_reg (r_mv ?_)))
  refine r_mv ?_
  refine r_op (t_lnE (C := cQ) (xs := (a3.getD a0 [])) (T := 35) rfl tyS24 (row_len q7 q6 q2)) ⟨rfl, trivial⟩ ?_
  refine r_op (t_lt rfl) ⟨rfl, rfl, trivial⟩ ?_
  refine r_nil (r_next (r_if rfl (fun h36 => ?_) (fun h36 => ?_)))
  · have hF := cnd_t h36 hF
    refine r_skip (r_next (r_seq (r_blk ?_)))
    obtain ⟨v39, h40, hF⟩ := bnd hF
    obtain ⟨v41, h42, hF⟩ := bnd hF
    obtain ⟨v43, h44, hF⟩ := bnd hF
    obtain ⟨v45, h46, hF⟩ := bnd hF
    refine r_draw [0, 0, 0, 6, 14, 0, 0, 0, 192, 448, 992, 2046, 4094, 8191, 16383] 13 2 [.v (.vc (pO b22 n24 c23)), .v (.vc (pO (hdr g4 a0).1 (hdr g4 a0).2.1 (hdr g4 a0).2.2)), .v (.vc (pI .i64 x27)), .v (.vc (pE (hdr g4 a0).1 x27 cQ.n 0)), .v (.va (eQ v39)), .v (.va (eQ a2)), .v (.vc (pO (hdr g4 a1).1 (hdr g4 a1).2.1 (hdr g4 a1).2.2)), .v (.vc (pI .i64 x27)), .v (.vc (pE (hdr g4 a1).1 x27 cQ.n 0)), .v (.va (eQ v41)), .v (.va (eQ v43)), .v (.va (eQ v45)), .v (.vc (pS cQ [v45]))] Tryz_mixed ⟨d0 (t_mv (.inl rfl)) ⟨rfl, trivial⟩, d0 (t_mv (.inl rfl)) ⟨rfl, trivial⟩, d0 (t_mv (.inl rfl)) ⟨rfl, trivial⟩, d0 (t_ixE (2 + a0) rfl tyS24 (inn_pA 2 rfl q7 q6 q2) (row_len q7 q6 q2) (rdL_some h40).1 (rdL_some h40).2.1) ⟨rfl, rfl, trivial⟩, d0 (t_ldE (k := 4) (2 + a0) rfl (inn_pA 2 rfl q7 q6 q2) h40 rfl (.agg tyA35) rfl) ⟨rfl, trivial⟩, d0 (t_l 1 4 rfl rfl rfl rfl (.agg tyA35)) ⟨rfl, trivial⟩, d0 (t_mv (.inl rfl)) ⟨rfl, trivial⟩, d0 (t_mv (.inl rfl)) ⟨rfl, trivial⟩, d0 (t_ixE (2 + a1) rfl tyS24 (inn_pA 2 rfl q7 q6 q3) (row_len q7 q6 q3) (rdL_some h42).1 (rdL_some h42).2.1) ⟨rfl, rfl, trivial⟩, d0 (t_ldE (k := 4) (2 + a1) rfl (inn_pA 2 rfl q7 q6 q3) h42 rfl (.agg tyA35) rfl) ⟨rfl, trivial⟩, d0 (t_call rfl (qc_gantryref05_Mul h44) rfl) ⟨rfl, rfl, trivial⟩, d0 (t_call rfl (qc_gantryref05_Sub h46) rfl) ⟨rfl, rfl, trivial⟩, d0 (t_bs (C := cQ) (xs := [.tmp 26]) (ps := [.va (eQ v45)]) (zs := [v45]) rfl tyS24 rfl ⟨⟨trivial, rfl⟩, trivial⟩ rfl) ⟨rfl, trivial⟩, trivial⟩ (fun bs38 G37 => ?_)
    obtain ⟨x47, h48, hF⟩ := bnd hF
    refine r_app 0 rfl tyS24 rfl rfl q25 rfl rfl h48 (fun b49 c50 H51 e52 => ?_)
    cases e52
    refine r_as ?_
    refine r_nil (r_blkN (r_next (r_reg (r_mv ?_))))
    obtain ⟨v54, h55, hF⟩ := bnd hF
    refine r_op (t_add rfl h55) ⟨rfl, k_I _ _, trivial⟩ ?_
    refine r_as ?_
    refine r_nil ?_
    exact r_round (fun a w hh => ⟨x47, v54, b49, c50, (n24 + [v45].length), hF, (apL_len h48 q25), hs_backA 2 [0, 1] rfl rfl (by decide) (by exact ⟨rfl, rfl, rfl, rfl, rfl, trivial⟩) hh⟩)
  have hF := cnd_f h36 hF
  refine r_brk ?_
  obtain rfl := sm1 hF
  exact r_backA Jj35 ⟨x21, b22, c23, n24, hRl34, q25, rfl, rfl⟩ 2 [0] rfl rfl ⟨rfl, trivial⟩
def F_gantryref09_Matrix_s1_j46 (K : Nat) (x33 : List Nat) (x39 : List (List Rat)) : Option ((List Nat) × (List (List Rat))) :=
  some (x33, x39)
def F_gantryref09_Matrix_s1_j83 (K : Nat) (x32 : Int) (v66 : Int) (recl45 : (List Nat) → (List (List Rat)) → Int → Option ((List Nat) × (List (List Rat)))) (x69 : List Nat) (x75 : List (List Rat)) (x81 : Nat) : Option ((List Nat) × (List (List Rat))) :=
  bif (decide (0 < x32)) then (bif (v66 == 1) then ((chk (x32 - 1)).bind fun v86 => (rdL x69 v86).bind fun v88 => (apL x69 [v88]).bind fun x90 => (chk (x32 + 1)).bind fun v97 => recl45 x90 x75 v97) else ((apL x69 [x81]).bind fun x99 => (chk (x32 + 1)).bind fun v106 => recl45 x99 x75 v106)) else ((apL x69 [x81]).bind fun x108 => (chk (x32 + 1)).bind fun v115 => recl45 x108 x75 v115)
def F_gantryref09_Matrix_s1_l45 (K : Nat) (a0 : List Int) (a1 : Int) (a2 : Int) (a3 : Int) : Nat → (List Nat) → (List (List Rat)) → Int → Option ((List Nat) × (List (List Rat)))
  | 0, _, _, _ => none
  | k + 1, x20, x26, x32 => bif (decide (x32 < a2)) then ((chk (x32 * a3)).bind fun v48 => (chk (a1 + v48)).bind fun v50 => (F_gantryref09_Row K a0 v50 a3).bind fun v52 => (chk (a2 * a3)).bind fun v60 => (chk (a1 + v60)).bind fun v62 => (chk (v62 + x32)).bind fun v64 => (F_gantryref01_At a0 v64 6).bind fun v66 => bif (decide (0 < x32)) then (bif (v66 == 0) then ((rdL x20 0).bind fun v121 => (chk (x32 - 1)).bind fun v123 => (rdL x20 v123).bind fun v125 => (chk (a1 + x32)).bind fun v127 => (F_gantryref01_At a0 v127 1099511627776).bind fun v129 => (F_gantryref09_value v129).bind fun v131 => (F_gantryref09_less_s1 K v121 v125 v131 x26).bind fun v133 => F_gantryref09_Matrix_s1_j83 K x32 v66 (F_gantryref09_Matrix_s1_l45 K a0 a1 a2 a3 k) x20 (x26 ++ [v133]) x26.length) else (F_gantryref09_Matrix_s1_j83 K x32 v66 (F_gantryref09_Matrix_s1_l45 K a0 a1 a2 a3 k) x20 (x26 ++ [v52]) x26.length)) else (F_gantryref09_Matrix_s1_j83 K x32 v66 (F_gantryref09_Matrix_s1_l45 K a0 a1 a2 a3 k) x20 (x26 ++ [v52]) x26.length)) else (some (x20, x26))
def F_gantryref09_Matrix_s1 (K : Nat) (a0 : List Int) (a1 : Int) (a2 : Int) (a3 : Int) : Option ((List Nat) × (List (List Rat))) :=
  (F_gantryref09_Matrix_s1_l45 K a0 a1 a2 a3 K ([] : List Nat) ([] : List (List Rat)) 0).bind fun (x33, x39) => F_gantryref09_Matrix_s1_j46 K x33 x39
theorem ctO_gantryref09_Matrix_s1 {K : Nat} {a0 : List Int} {a1 : Int} {a2 : Int} {a3 : Int} {r : (List Nat) × (List (List Rat))} (hF : F_gantryref09_Matrix_s1 K a0 a1 a2 a3 = some r) : CtO Tryz.prog 39 [] [.vc (pS cI a0), .vc (pI .i64 a1), .vc (pI .i64 a2), .vc (pI .i64 a3)] (fun Ho q => ∃ b1146 c1147 n1148 g1151 N1152, r.1.length = n1148 ∧ r.2.length = N1152 ∧ LenOk g1151 r.2 ∧ (∀ k ∈ r.1, k < N1152) ∧ Ho = ([hO (cH g1151) b1146 c1147 24 n1148 r.1] ++ inn cQ 35 g1151 r.2) ∧ q = .vc (pO b1146 n1148 c1147)) := by
  unfold F_gantryref09_Matrix_s1 at hF
  refine ctO_intro Tryz.func39 rfl (by kernel_rfl) Tryz.ntmps39 rfl (fun w0 M0 => ?_)
  refine r_seq (r_reg (r_nilO (cSl cQ) 24 rfl ?_))
  refine r_nil (r_next (r_seq (r_reg (r_nestL cQ 35 ?_))))
  refine r_nilO (cH ([] : List Hdr)) 24 rfl ?_
  refine r_nil (r_next (r_seq (r_seq (r_reg (r_op (t_mv (.inr rfl)) ⟨k_I _ _, trivial⟩ ?_)))))
  refine r_nil (r_next (r_blk (r_cutN (fun H E => ∃ (x33 : List Nat), ∃ (x39 : List (List Rat)), ∃ (b34 : Option Nat), ∃ (c35 : Nat), ∃ (n36 : Nat), ∃ (g40 : List Hdr), ∃ (N41 : Nat), F_gantryref09_Matrix_s1_j46 K x33 x39 = some r ∧ x33.length = n36 ∧ x39.length = N41 ∧ LenOk g40 x39 ∧ (∀ k ∈ x33, k < N41) ∧ H = ([hO (cH g40) b34 c35 24 n36 x33] ++ inn cQ 35 g40 x39) ∧ E = [(9, .vc (pO b34 n36 c35))]) ?_ (fun Jj46 => ?_))))
  · rintro _ _ ⟨x33, x39, b34, c35, n36, g40, N41, hF, q37, q42, q43, q44, rfl, rfl⟩
    unfold F_gantryref09_Matrix_s1_j46 at hF
    refine r_next (r_seq (r_reg (r_mv ?_)))
    refine r_as ?_
    refine r_nil (r_next (r_ret (r_toR ?_)))
    obtain rfl := sm1 hF
    exact r_doneA (.inl rfl) Tryz.results39 (.tmp rfl .nil) rfl 1 [0] rfl rfl (by decide) ⟨b34, c35, n36, g40, N41, q37, q42, q43, q44, rfl, rfl⟩
  obtain ⟨⟨x33', x39'⟩, hL, hRl45⟩ := bnd hF
  refine r_lp (fun k a w => ∃ (x20 : List Nat), ∃ (x26 : List (List Rat)), ∃ (x32 : Int), ∃ (b21 : Option Nat), ∃ (c22 : Nat), ∃ (n23 : Nat), ∃ (g27 : List Hdr), ∃ (N28 : Nat), F_gantryref09_Matrix_s1_l45 K a0 a1 a2 a3 k x20 x26 x32 = some (x33', x39') ∧ x20.length = n23 ∧ x26.length = N28 ∧ LenOk g27 x26 ∧ (∀ k ∈ x20, k < N28) ∧ hs _ ([hO (cH g27) b21 c22 24 n23 x20] ++ inn cQ 35 g27 x26) [(0, .vc (pS cI a0)), (1, .vc (pI .i64 a1)), (2, .vc (pI .i64 a2)), (3, .vc (pI .i64 a3)), (9, .vc (pO b21 n23 c22)), (10, .vc (pI .i64 x32))] a w) K (fun a w ⟨_, _, _, _, _, _, _, _, hF, _, _, _, _, _⟩ => by cases hF) (fun k a w ⟨x20, x26, x32, b21, c22, n23, g27, N28, hF, q24, q29, q30, q31, hh⟩ => r_at ?_ hh) (fun a w hh => ⟨([] : List Nat), ([] : List (List Rat)), 0, none, 0, 0, ([] : List Hdr), 0, hL, rfl, (rfl), lenOk_nil, (by simp), hs_backA 2 [0] rfl rfl (by decide) (by exact ⟨rfl, rfl, rfl, rfl, rfl, rfl, trivial⟩) hh⟩)
  rw [F_gantryref09_Matrix_s1_l45.eq_2] at hF
  refine r_seq (r_seq (r_reg (r_mv ?_)))
  refine r_mv ?_
  refine r_op (t_lt rfl) ⟨rfl, rfl, trivial⟩ ?_
  refine r_nil (r_next (r_if rfl (fun h47 => ?_) (fun h47 => ?_)))
  · have hF := cnd_t h47 hF
    refine r_skip (r_next (r_seq (r_blk (r_seq (r_reg (r_mv ?_))))))
    refine r_mv ?_
    refine r_mv ?_
    refine r_mv ?_
    obtain ⟨v48, h49, hF⟩ := bnd hF
    refine r_op (t_mul rfl h49) ⟨rfl, rfl, trivial⟩ ?_
    obtain ⟨v50, h51, hF⟩ := bnd hF
    refine r_op (t_add rfl h51) ⟨rfl, rfl, trivial⟩ ?_
    refine r_mv ?_
    obtain ⟨v52, h53, hF⟩ := bnd hF
    refine r_callN rfl (ctO_gantryref09_Row h53) ⟨rfl, rfl, rfl, trivial⟩ ?_
    rintro _ _ ⟨b55, c56, n57, q58, rfl, rfl⟩
    refine r_as ?_
    refine r_nil (r_next (r_seq (r_reg (r_mv ?_))))
    refine r_mv ?_
    refine r_mv ?_
    refine r_mv ?_
    obtain ⟨v60, h61, hF⟩ := bnd hF
    refine r_op (t_mul rfl h61) ⟨rfl, rfl, trivial⟩ ?_
    obtain ⟨v62, h63, hF⟩ := bnd hF
    refine r_op (t_add rfl h63) ⟨rfl, rfl, trivial⟩ ?_
    refine r_mv ?_
    obtain ⟨v64, h65, hF⟩ := bnd hF
    refine r_op (t_add rfl h65) ⟨rfl, rfl, trivial⟩ ?_
    obtain ⟨v66, h67, hF⟩ := bnd hF
    refine r_op (t_call rfl (ct_gantryref01_At h67) rfl) ⟨rfl, rfl, k_I _ _, trivial⟩ ?_
    refine r_as ?_
    refine r_nil (r_next (r_seq (r_cutS (fun H E => ∃ (x69 : List Nat), ∃ (x75 : List (List Rat)), ∃ (x81 : Nat), ∃ (b70 : Option Nat), ∃ (c71 : Nat), ∃ (n72 : Nat), ∃ (g76 : List Hdr), ∃ (N77 : Nat), F_gantryref09_Matrix_s1_j83 K x32 v66 (F_gantryref09_Matrix_s1_l45 K a0 a1 a2 a3 k) x69 x75 x81 = some (x33', x39') ∧ x69.length = n72 ∧ x75.length = N77 ∧ LenOk g76 x75 ∧ (∀ k ∈ x69, k < N77) ∧ x81 < N77 ∧ H = ([hO (cH g76) b70 c71 24 n72 x69] ++ inn cQ 35 g76 x75) ∧ E = [(0, .vc (pS cI a0)), (1, .vc (pI .i64 a1)), (2, .vc (pI .i64 a2)), (3, .vc (pI .i64 a3)), (9, .vc (pO b70 n72 c71)), (10, .vc (pI .i64 x32)), (11, .vc (pO (hdr g76 x81).1 (hdr g76 x81).2.1 (hdr g76 x81).2.2)), (12, .vc (pI .i64 v66))]) ?_ (fun Jj83 => ?_))))
    · rintro _ _ ⟨x69, x75, x81, b70, c71, n72, g76, N77, hF, q73, q78, q79, q80, q82, rfl, rfl⟩
      unfold F_gantryref09_Matrix_s1_j83 at hF
      refine r_seq (r_seq (r_reg (r_mv ?_)))
      refine r_op (t_gt rfl) ⟨rfl, k_I _ _, trivial⟩ ?_
      refine r_mv ?_
      refine r_bool (fun h84 => ?_) (fun h84 => ?_)
      · have hF := cnd_t h84 hF
        refine r_opg (t_mv (.inl rfl)) ⟨rfl, trivial⟩ ?_
        refine r_opg (t_eq rfl) ⟨rfl, k_I _ _, trivial⟩ ?_
        refine r_op (t_pickT rfl) ⟨rfl, rfl, trivial⟩ ?_
        refine r_nil (r_next (r_if rfl (fun h85 => ?_) (fun h85 => ?_)))
        · have hF := cnd_t h85 hF
          refine r_reg (r_mv ?_)
          refine r_mv ?_
          obtain ⟨v86, h87, hF⟩ := bnd hF
          refine r_op (t_sub rfl h87) ⟨rfl, k_I _ _, trivial⟩ ?_
          obtain ⟨v88, h89, hF⟩ := bnd hF
          refine r_op (t_ixE (C := (cH g76)) 0 rfl tyS47 rfl q73 (rdL_some h89).1 (rdL_some h89).2.1) ⟨rfl, rfl, trivial⟩ ?_
          refine r_op (t_ldE (C := (cH g76)) (k := 1) 0 rfl rfl h89 rfl (.one tyO24) rfl) ⟨rfl, trivial⟩ ?_
          refine r_as ?_
          refine r_nil (r_next (r_reg (r_mv ?_)))
          refine r_mv ?_
          refine r_op (t_bs (C := cH g76) (xs := [.tmp 68]) (ps := [.vc (pO (hdr g76 v88).1 (hdr g76 v88).2.1 (hdr g76 v88).2.2)]) (zs := [v88]) rfl tyS47 rfl ⟨⟨trivial, rfl⟩, trivial⟩ rfl) ⟨rfl, trivial⟩ ?_
          obtain ⟨x90, h91, hF⟩ := bnd hF
          refine r_app 0 rfl tyS47 rfl rfl q73 rfl rfl h91 (fun b92 c93 H94 e95 => ?_)
          cases e95
          refine r_as ?_
          refine r_nil (r_blkN (r_next (r_reg (r_mv ?_))))
          obtain ⟨v97, h98, hF⟩ := bnd hF
          refine r_op (t_add rfl h98) ⟨rfl, k_I _ _, trivial⟩ ?_
          refine r_as ?_
          refine r_nil ?_
          exact r_round (fun a w hh => ⟨x90, x75, v97, b92, c93, (n72 + [v88].length), g76, N77, hF, (apL_len h91 q73), q78, q79, (apL_hx2 q80 (q80 _ (rdL_mem h89)) h91), hs_backA 1 [0] rfl rfl (by decide) (by exact ⟨rfl, rfl, rfl, rfl, rfl, rfl, trivial⟩) hh⟩)
        have hF := cnd_f h85 hF
        refine r_skip (r_next (r_reg (r_mv ?_)))
        refine r_mv ?_
        refine r_op (t_bs (C := cH g76) (xs := [.tmp 68]) (ps := [.vc (pO (hdr g76 x81).1 (hdr g76 x81).2.1 (hdr g76 x81).2.2)]) (zs := [x81]) rfl tyS47 rfl ⟨⟨trivial, rfl⟩, trivial⟩ rfl) ⟨rfl, trivial⟩ ?_
        obtain ⟨x99, h100, hF⟩ := bnd hF
        refine r_app 0 rfl tyS47 rfl rfl q73 rfl rfl h100 (fun b101 c102 H103 e104 => ?_)
        cases e104
        refine r_as ?_
        refine r_nil (r_blkN (r_next (r_reg (r_mv ?_))))
        obtain ⟨v106, h107, hF⟩ := bnd hF
        refine r_op (t_add rfl h107) ⟨rfl, k_I _ _, trivial⟩ ?_
        refine r_as ?_
        refine r_nil ?_
        exact r_round (fun a w hh => ⟨x99, x75, v106, b101, c102, (n72 + [x81].length), g76, N77, hF, (apL_len h100 q73), q78, q79, (apL_hx2 q80 q82 h100), hs_backA 1 [0] rfl rfl (by decide) (by exact ⟨rfl, rfl, rfl, rfl, rfl, rfl, trivial⟩) hh⟩)
      have hF := cnd_f h84 hF
      refine r_opn ?_
      refine r_opn ?_
      refine r_op (t_pickF rfl) ⟨rfl, k_B _, trivial⟩ ?_
      refine r_nil (r_next (r_ifF rfl ?_))
      refine r_skip (r_next (r_reg (r_mv ?_)))
      refine r_mv ?_
      refine r_op (t_bs (C := cH g76) (xs := [.tmp 68]) (ps := [.vc (pO (hdr g76 x81).1 (hdr g76 x81).2.1 (hdr g76 x81).2.2)]) (zs := [x81]) rfl tyS47 rfl ⟨⟨trivial, rfl⟩, trivial⟩ rfl) ⟨rfl, trivial⟩ ?_
      obtain ⟨x108, h109, hF⟩ := bnd hF
      refine r_app 0 rfl tyS47 rfl rfl q73 rfl rfl h109 (fun b110 c111 H112 e113 => ?_)
      cases e113
      refine r_as ?_
      refine r_nil (r_blkN (r_next (r_reg (r_mv ?_))))
      obtain ⟨v115, h116, hF⟩ := bnd hF
      refine r_op (t_add rfl h116) ⟨rfl, k_I _ _, trivial⟩ ?_
      refine r_as ?_
      refine r_nil ?_
      exact r_round (fun a w hh => ⟨x108, x75, v115, b110, c111, (n72 + [x81].length), g76, N77, hF, (apL_len h109 q73), q78, q79, (apL_hx2 q80 q82 h109), hs_backA 1 [0] rfl rfl (by decide) (by exact ⟨rfl, rfl, rfl, rfl, rfl, rfl, trivial⟩) hh⟩)
    refine r_seq (r_reg (r_mv ?_))
    refine r_op (t_gt rfl) ⟨rfl, k_I _ _, trivial⟩ ?_
    refine r_mv ?_
    refine r_bool (fun h117 => ?_) (fun h117 => ?_)
    · have hF := cnd_t h117 hF
      refine r_opg (t_mv (.inl rfl)) ⟨rfl, trivial⟩ ?_
      refine r_opg (t_eq rfl) ⟨rfl, k_I _ _, trivial⟩ ?_
      refine r_op (t_pickT rfl) ⟨rfl, rfl, trivial⟩ ?_
      refine r_nil (r_next (r_if rfl (fun h118 => ?_) (fun h118 => ?_)))
      · have hF := cnd_t h118 hF
        obtain ⟨v121, h122, hF⟩ := bnd hF
        obtain ⟨v123, h124, hF⟩ := bnd hF
        obtain ⟨v125, h126, hF⟩ := bnd hF
        obtain ⟨v127, h128, hF⟩ := bnd hF
        obtain ⟨v129, h130, hF⟩ := bnd hF
        obtain ⟨v131, h132, hF⟩ := bnd hF
        refine r_draw [0, 1, 3, 0, 0, 16, 56, 120, 0, 0, 0, 1536, 3840, 7936, 16383, 32767] 14 2 [.v (.vc (pO b21 n23 c22)), .v (.vc (pE b21 0 (cH g27).n 0)), .v (.vc (pO (hdr g27 v121).1 (hdr g27 v121).2.1 (hdr g27 v121).2.2)), .v (.vc (pO b21 n23 c22)), .v (.vc (pI .i64 x32)), .v (.vc (pI .i64 v123)), .v (.vc (pE b21 v123 (cH g27).n 0)), .v (.vc (pO (hdr g27 v125).1 (hdr g27 v125).2.1 (hdr g27 v125).2.2)), .v (.vc (pS cI a0)), .v (.vc (pI .i64 a1)), .v (.vc (pI .i64 x32)), .v (.vc (pI .i64 v127)), .v (.vc (pI .i64 v129)), .v (.va (eQ v131))] Tryz_mixed ⟨d0 (t_mv (.inl rfl)) ⟨rfl, trivial⟩, d0 (t_ixE (C := (cH g27)) 1 rfl tyS47 rfl q24 (rdL_some h122).1 (rdL_some h122).2.1) ⟨rfl, k_I _ _, trivial⟩, d0 (t_ldE (C := (cH g27)) (k := 1) 1 rfl rfl h122 rfl (.one tyO24) rfl) ⟨rfl, trivial⟩, d0 (t_mv (.inl rfl)) ⟨rfl, trivial⟩, d0 (t_mv (.inl rfl)) ⟨rfl, trivial⟩, d0 (t_sub rfl h124) ⟨rfl, k_I _ _, trivial⟩, d0 (t_ixE (C := (cH g27)) 1 rfl tyS47 rfl q24 (rdL_some h126).1 (rdL_some h126).2.1) ⟨rfl, rfl, trivial⟩, d0 (t_ldE (C := (cH g27)) (k := 1) 1 rfl rfl h126 rfl (.one tyO24) rfl) ⟨rfl, trivial⟩, d0 (t_mv (.inl rfl)) ⟨rfl, trivial⟩, d0 (t_mv (.inl rfl)) ⟨rfl, trivial⟩, d0 (t_mv (.inl rfl)) ⟨rfl, trivial⟩, d0 (t_add rfl h128) ⟨rfl, rfl, trivial⟩, d0 (t_call rfl (ct_gantryref01_At h130) rfl) ⟨rfl, rfl, k_I _ _, trivial⟩, d0 (t_call rfl (ct_gantryref09_value h132) rfl) ⟨rfl, trivial⟩, trivial⟩ (fun bs120 G119 => ?_)
        obtain ⟨v133, h134, hF⟩ := bnd hF
        refine r_callA 2 [] [0, 1] rfl (ctO_gantryref09_less_s1 h134 q29 q30 (q31 _ (rdL_mem h122)) (q31 _ (rdL_mem h126))) ⟨rfl, rfl, rfl, trivial⟩ rfl rfl rfl (by decide) ?_
        rintro _ _ ⟨b136, c137, n138, q139, rfl, rfl⟩
        refine r_permL (mid_perm [hO cQ b136 c137 35 n138 v133] (inn cQ 35 g27 x26) [hO cQ b55 c56 35 n57 v52, hO (cH g27) b21 c22 24 n23 x20]) ?_
        refine r_as ?_
        refine r_nil (r_eqX (show ([hO cQ b136 c137 35 n138 v133, hO cQ b55 c56 35 n57 v52, hO (cH (g27 ++ [(b136, n138, c137)])) b21 c22 24 n23 x20] ++ inn cQ 35 g27 x26) = ([hO cQ b136 c137 35 n138 v133, hO cQ b55 c56 35 n57 v52, hO (cH g27) b21 c22 24 n23 x20] ++ inn cQ 35 g27 x26) from by rw [recode (N := x26.length) (b136, n138, c137) q30.1 (lt_len q29 q31)]) ?_)
        refine r_mergeX (g := (b136, n138, c137)) 0 3 rfl rfl rfl q30 ?_
        refine r_reX 11 rfl (hdr_at (N := x26.length) (b136, n138, c137) q30.1) ?_
        exact r_backA Jj83 ⟨x20, (x26 ++ [v133]), x26.length, b21, c22, n23, (g27 ++ [(b136, n138, c137)]), (N28 + 1), hF, q24, (snoc_len q29), (lenOk_snoc q30 q139), (fun k hk => lt_succ' (q31 k hk)), (lt_snoc q29), rfl, rfl⟩ 2 [1] rfl rfl ⟨rfl, rfl, rfl, rfl, rfl, rfl, rfl, rfl, trivial⟩
      have hF := cnd_f h118 hF
      refine r_skip (r_eqX (show ([hO cQ b55 c56 35 n57 v52, hO (cH (g27 ++ [(b55, n57, c56)])) b21 c22 24 n23 x20] ++ inn cQ 35 g27 x26) = ([hO cQ b55 c56 35 n57 v52, hO (cH g27) b21 c22 24 n23 x20] ++ inn cQ 35 g27 x26) from by rw [recode (N := x26.length) (b55, n57, c56) q30.1 (lt_len q29 q31)]) ?_)
      refine r_mergeX (g := (b55, n57, c56)) 0 2 rfl rfl rfl q30 ?_
      refine r_reX 11 rfl (hdr_at (N := x26.length) (b55, n57, c56) q30.1) ?_
      exact r_backA Jj83 ⟨x20, (x26 ++ [v52]), x26.length, b21, c22, n23, (g27 ++ [(b55, n57, c56)]), (N28 + 1), hF, q24, (snoc_len q29), (lenOk_snoc q30 q58), (fun k hk => lt_succ' (q31 k hk)), (lt_snoc q29), rfl, rfl⟩ 1 [0] rfl rfl ⟨rfl, rfl, rfl, rfl, rfl, rfl, rfl, rfl, trivial⟩
    have hF := cnd_f h117 hF
    refine r_opn ?_
    refine r_opn ?_
    refine r_op (t_pickF rfl) ⟨rfl, k_B _, trivial⟩ ?_
    refine r_nil (r_next (r_ifF rfl ?_))
    refine r_skip (r_eqX (show ([hO cQ b55 c56 35 n57 v52, hO (cH (g27 ++ [(b55, n57, c56)])) b21 c22 24 n23 x20] ++ inn cQ 35 g27 x26) = ([hO cQ b55 c56 35 n57 v52, hO (cH g27) b21 c22 24 n23 x20] ++ inn cQ 35 g27 x26) from by rw [recode (N := x26.length) (b55, n57, c56) q30.1 (lt_len q29 q31)]) ?_)
    refine r_mergeX (g := (b55, n57, c56)) 0 2 rfl rfl rfl q30 ?_
    refine r_reX 11 rfl (hdr_at (N := x26.length) (b55, n57, c56) q30.1) ?_
    exact r_backA Jj83 ⟨x20, (x26 ++ [v52]), x26.length, b21, c22, n23, (g27 ++ [(b55, n57, c56)]), (N28 + 1), hF, q24, (snoc_len q29), (lenOk_snoc q30 q58), (fun k hk => lt_succ' (q31 k hk)), (lt_snoc q29), rfl, rfl⟩ 1 [0] rfl rfl ⟨rfl, rfl, rfl, rfl, rfl, rfl, rfl, rfl, trivial⟩
  have hF := cnd_f h47 hF
  refine r_brk ?_
  obtain ⟨rfl, rfl⟩ := sm2 hF
  exact r_backA Jj46 ⟨x20, x26, b21, c22, n23, g27, N28, hRl45, q24, q29, q30, q31, rfl, rfl⟩ 1 [0] rfl rfl ⟨rfl, trivial⟩
def F_gantrylaw09_MatrixInverts_j34 (K : Nat) (a2 : Int) (v1 : Int × Int) (x4 : Int) (x22 : List Nat) (x28 : List (List Rat)) : Option Bool :=
  (F_matrix_Inverse K (selL x28 x22)).bind fun v36 => (F_gantrylaw09_ragged (selL x28 x22) a2).bind fun v38 => (F_matrix_Inverse K v38).bind fun v40 => bif (v40.2 != 1) then (some false) else ((F_gantrylaw09_ragged (selL x28 x22) a2).bind fun v43 => (F_matrix_Positive K v43).bind fun v45 => bif v45 then (some false) else ((F_matrix_Positive K (selL x28 x22)).bind fun v48 => (F_gantryref09_Positive K (selL x28 x22)).bind fun v50 => bif (v48 != v50) then (some false) else (bif (v1.1 != x4) then (bif (v36.2 == 1) then (bif ((v36.1.length : Int) == 0) then ((F_gantrylaw09_lives K ).bind fun v56 => some v56) else (some false)) else (some false)) else ((F_gantryref09_Inverse K (selL x28 x22)).bind fun v58 => bif (!v58.2) then (bif (v36.2 == 6) then (bif ((v36.1.length : Int) == 0) then ((F_gantrylaw09_lives K ).bind fun v63 => some v63) else (some false)) else (some false)) else (bif (v36.2 == 0) then ((F_gantryref09_Same K v36.1 v58.1).bind fun v66 => bif v66 then ((F_gantrylaw09_lives K ).bind fun v69 => some v69) else (some false)) else (some false))))))
def F_gantrylaw09_MatrixInverts_j114 (K : Nat) (a2 : Int) (v1 : Int × Int) (x4 : Int) (x101 : List Nat) (x107 : List (List Rat)) : Option Bool :=
  F_gantrylaw09_MatrixInverts_j34 K a2 v1 x4 x101 x107
def F_gantrylaw09_MatrixInverts_j155 (K : Nat) (a2 : Int) (x100 : Int) (recl113 : (List Nat) → (List (List Rat)) → Int → Option ((List Nat) × (List (List Rat)))) (x142 : List Nat) (x148 : List (List Rat)) : Option ((List Nat) × (List (List Rat))) :=
  (chr a2 4).bind fun v156 => bif (v156 == 3) then ((rdL x142 x100).bind fun v161 => (rdL x142 x100).bind fun v163 => (rdL (x148.getD v163 []) x100).bind fun v165 => (qof 4 1).bind fun v167 => (qadd v165 v167).bind fun v169 => (rdL (x148.getD v161 []) x100).bind fun v171 => (stL (x148.getD v161 []) x100 v169).bind fun x173 => (chk (x100 + 1)).bind fun v176 => recl113 x142 (x148.set v161 x173) v176) else ((chk (x100 + 1)).bind fun v178 => recl113 x142 x148 v178)
def F_gantrylaw09_MatrixInverts_l154 (K : Nat) (x100 : Int) : Nat → (List Nat) → (List (List Rat)) → Int → Option ((List Nat) × (List (List Rat)))
  | 0, _, _, _ => none
  | k + 1, x129, x135, x141 => bif (decide (x141 < x100)) then ((rdL x129 x100).bind fun v183 => (rdL x129 x141).bind fun v185 => (rdL (x135.getD v185 []) x100).bind fun v187 => (rdL (x135.getD v183 []) x141).bind fun v189 => (stL (x135.getD v183 []) x141 v187).bind fun x191 => (chk (x141 + 1)).bind fun v194 => F_gantrylaw09_MatrixInverts_l154 K x100 k x129 (x135.set v183 x191) v194) else (some (x129, x135))
def F_gantrylaw09_MatrixInverts_l113 (K : Nat) (a2 : Int) (v1 : Int × Int) : Nat → (List Nat) → (List (List Rat)) → Int → Option ((List Nat) × (List (List Rat)))
  | 0, _, _, _ => none
  | k + 1, x88, x94, x100 => bif (decide (x100 < v1.1)) then ((F_gantrylaw09_MatrixInverts_l154 K x100 K x88 x94 0).bind fun (x142, x148) => F_gantrylaw09_MatrixInverts_j155 K a2 x100 (F_gantrylaw09_MatrixInverts_l113 K a2 v1 k) x142 x148) else (some (x88, x94))
def F_gantrylaw09_MatrixInverts_j5 (K : Nat) (a0 : List Int) (a2 : Int) (v1 : Int × Int) (x4 : Int) : Option Bool :=
  (F_gantryref09_Matrix_s1 K a0 0 v1.1 x4).bind fun v6 => (chr a2 4).bind fun v71 => bif (decide (1 < v71)) then (bif (decide (0 < v1.1)) then ((F_gantrylaw09_MatrixInverts_l113 K a2 v1 K v6.1 v6.2 0).bind fun (x101, x107) => F_gantrylaw09_MatrixInverts_j114 K a2 v1 x4 x101 x107) else (F_gantrylaw09_MatrixInverts_j34 K a2 v1 x4 v6.1 v6.2)) else (F_gantrylaw09_MatrixInverts_j34 K a2 v1 x4 v6.1 v6.2)
def F_gantrylaw09_MatrixInverts (K : Nat) (a0 : List Int) (a1 : Int) (a2 : Int) : Option Bool :=
  (F_gantrylaw09_sizes a1).bind fun v1 => (chr a2 4).bind fun v196 => bif (decide (0 < v196)) then (bif (decide (0 < v1.1)) then (F_gantrylaw09_MatrixInverts_j5 K a0 a2 v1 v1.1) else (F_gantrylaw09_MatrixInverts_j5 K a0 a2 v1 v1.2)) else (F_gantrylaw09_MatrixInverts_j5 K a0 a2 v1 v1.2)
theorem ct_gantrylaw09_MatrixInverts {K : Nat} {a0 : List Int} {a1 : Int} {a2 : Int} {r : Bool} (hF : F_gantrylaw09_MatrixInverts K a0 a1 a2 = some r) : Ct Tryz.prog 8 [.vc (pS cI a0), .vc (pI .i64 a1), .vc (pI .i64 a2)] (.vc (pB r)) := by
  unfold F_gantrylaw09_MatrixInverts at hF
  refine ctO_intro Tryz.func8 rfl (by kernel_rfl) Tryz.ntmps8 rfl (fun w0 M0 => ?_)
  refine r_seq (r_reg (r_op (t_mv (.inr rfl)) ⟨k_B _, trivial⟩ ?_))
  refine r_nil (r_next (r_seq (r_reg (r_mv ?_))))
  obtain ⟨v1, h2, hF⟩ := bnd hF
  refine r_op (t_call rfl (ct_gantrylaw09_sizes h2) rfl) ⟨rfl, trivial⟩ ?_
  refine r_mv ?_
  refine r_op (t_ext2a rfl) ⟨rfl, trivial⟩ ?_
  refine r_op (t_ext2b rfl) ⟨rfl, trivial⟩ ?_
  refine r_as ?_
  refine r_as ?_
  refine r_nil (r_next (r_seq (r_cutS (fun H E => ∃ (x4 : Int), F_gantrylaw09_MatrixInverts_j5 K a0 a2 v1 x4 = some r ∧ H = [] ∧ E = [(0, .vc (pS cI a0)), (2, .vc (pI .i64 a2)), (7, .vc (pI .i64 v1.1)), (8, .vc (pI .i64 x4))]) ?_ (fun Jj5 => ?_))))
  · rintro _ _ ⟨x4, hF, rfl, rfl⟩
    unfold F_gantrylaw09_MatrixInverts_j5 at hF
    refine r_seq (r_reg (r_mv ?_))
    refine r_mv ?_
    refine r_mv ?_
    obtain ⟨v6, h7, hF⟩ := bnd hF
    refine r_callO [] [] rfl (ctO_gantryref09_Matrix_s1 h7) ⟨rfl, k_I _ _, rfl, rfl, trivial⟩ rfl rfl (by decide) ?_
    rintro _ _ ⟨b10, c11, n12, g15, N16, q13, q17, q18, q19, rfl, rfl⟩
    refine r_permL (mid_perm [hO (cH g15) b10 c11 24 n12 v6.1] (inn cQ 35 g15 v6.2) []) ?_
    refine r_as ?_
    refine r_nil (r_next (r_seq (r_cutS (fun H E => ∃ (x22 : List Nat), ∃ (x28 : List (List Rat)), ∃ (b23 : Option Nat), ∃ (c24 : Nat), ∃ (n25 : Nat), ∃ (g29 : List Hdr), ∃ (N30 : Nat), F_gantrylaw09_MatrixInverts_j34 K a2 v1 x4 x22 x28 = some r ∧ x22.length = n25 ∧ x28.length = N30 ∧ LenOk g29 x28 ∧ (∀ k ∈ x22, k < N30) ∧ H = ([hO (cH g29) b23 c24 24 n25 x22] ++ inn cQ 35 g29 x28) ∧ E = [(2, .vc (pI .i64 a2)), (7, .vc (pI .i64 v1.1)), (8, .vc (pI .i64 x4)), (9, .vc (pO b23 n25 c24))]) ?_ (fun Jj34 => ?_))))
    · rintro _ _ ⟨x22, x28, b23, c24, n25, g29, N30, hF, q26, q31, q32, q33, rfl, rfl⟩
      unfold F_gantrylaw09_MatrixInverts_j34 at hF
      refine r_seq (r_reg (r_mv ?_))
      refine r_unL 0 1 rfl rfl q32 (lt_len q31 q33) ?_
      refine r_fzL 0 [9, 84] rfl ((selL_len _ _).trans q26) ⟨rfl, rfl, trivial⟩ rfl ?_
      obtain ⟨v36, h37, hF⟩ := bnd hF
      refine r_op (t_call rfl (ct_matrix_Inverse h37) rfl) ⟨rfl, trivial⟩ ?_
      refine r_mv ?_
      refine r_op (t_ext2a rfl) ⟨rfl, trivial⟩ ?_
      refine r_op (t_ext2b rfl) ⟨rfl, trivial⟩ ?_
      refine r_as ?_
      refine r_as ?_
      refine r_nil (r_next (r_seq (r_reg (r_mv ?_))))
      refine r_mv ?_
      obtain ⟨v38, h39, hF⟩ := bnd hF
      refine r_op (t_call rfl (ct_gantrylaw09_ragged h39) rfl) ⟨rfl, rfl, trivial⟩ ?_
      obtain ⟨v40, h41, hF⟩ := bnd hF
      refine r_op (t_call rfl (ct_matrix_Inverse h41) rfl) ⟨rfl, trivial⟩ ?_
      refine r_mv ?_
      refine r_op (t_ext2a rfl) ⟨rfl, trivial⟩ ?_
      refine r_op (t_ext2b rfl) ⟨rfl, trivial⟩ ?_
      refine r_as ?_
      refine r_as ?_
      refine r_nil (r_next (r_seq (r_seq (r_reg (r_mv ?_)))))
      refine r_op (t_ne rfl) ⟨rfl, k_I _ _, trivial⟩ ?_
      refine r_mv ?_
      refine r_bool (fun h42 => ?_) (fun h42 => ?_)
      · have hF := cnd_t h42 hF
        refine r_opn ?_
        refine r_opn ?_
        refine r_opn ?_
        refine r_opn ?_
        refine r_op (t_pickT rfl) ⟨rfl, k_B _, trivial⟩ ?_
        refine r_mv ?_
        refine r_opn ?_
        refine r_opn ?_
        refine r_opn ?_
        refine r_opn ?_
        refine r_opn ?_
        refine r_op (t_pickT rfl) ⟨rfl, k_B _, trivial⟩ ?_
        refine r_nil (r_next (r_ifT rfl ?_))
        refine r_seq (r_reg (r_op (t_mv (.inr rfl)) ⟨k_B _, trivial⟩ ?_))
        refine r_nil (r_next (r_ret (r_toR ?_)))
        obtain rfl := sm1 hF
        exact r_done1 (.inl rfl) Tryz.results8 (.tmp rfl .nil) rfl rfl
      have hF := cnd_f h42 hF
      refine r_opg (t_mv (.inl rfl)) ⟨rfl, trivial⟩ ?_
      refine r_opg (t_mv (.inl rfl)) ⟨rfl, trivial⟩ ?_
      obtain ⟨v43, h44, hF⟩ := bnd hF
      refine r_opg (t_call rfl (ct_gantrylaw09_ragged h44) rfl) ⟨rfl, rfl, trivial⟩ ?_
      obtain ⟨v45, h46, hF⟩ := bnd hF
      refine r_opg (t_call rfl (ct_matrix_Positive h46) rfl) ⟨rfl, trivial⟩ ?_
      refine r_op (t_pickF rfl) ⟨rfl, rfl, trivial⟩ ?_
      refine r_mv ?_
      refine r_bool (fun h47 => ?_) (fun h47 => ?_)
      · have hF := cnd_t h47 hF
        refine r_opn ?_
        refine r_opn ?_
        refine r_opn ?_
        refine r_opn ?_
        refine r_opn ?_
        refine r_op (t_pickT rfl) ⟨rfl, k_B _, trivial⟩ ?_
        refine r_nil (r_next (r_ifT rfl ?_))
        refine r_seq (r_reg (r_op (t_mv (.inr rfl)) ⟨k_B _, trivial⟩ ?_))
        refine r_nil (r_next (r_ret (r_toR ?_)))
        obtain rfl := sm1 hF
        exact r_done1 (.inl rfl) Tryz.results8 (.tmp rfl .nil) rfl rfl
      have hF := cnd_f h47 hF
      refine r_opg (t_mv (.inl rfl)) ⟨rfl, trivial⟩ ?_
      obtain ⟨v48, h49, hF⟩ := bnd hF
      refine r_opg (t_call rfl (ct_matrix_Positive h49) rfl) ⟨rfl, trivial⟩ ?_
      refine r_opg (t_mv (.inl rfl)) ⟨rfl, trivial⟩ ?_
      obtain ⟨v50, h51, hF⟩ := bnd hF
      refine r_opg (t_call rfl (ct_gantryref09_Positive h51) rfl) ⟨rfl, trivial⟩ ?_
      refine r_opg (t_neB rfl Tryz.underlying4) ⟨rfl, rfl, trivial⟩ ?_
      refine r_op (t_pickF rfl) ⟨rfl, rfl, trivial⟩ ?_
      refine r_nil (r_next (r_if rfl (fun h52 => ?_) (fun h52 => ?_)))
      · have hF := cnd_t h52 hF
        refine r_seq (r_reg (r_op (t_mv (.inr rfl)) ⟨k_B _, trivial⟩ ?_))
        refine r_nil (r_next (r_ret (r_toR ?_)))
        obtain rfl := sm1 hF
        exact r_done1 (.inl rfl) Tryz.results8 (.tmp rfl .nil) rfl rfl
      have hF := cnd_f h52 hF
      refine r_skip (r_next (r_seq (r_seq (r_reg (r_mv ?_)))))
      refine r_mv ?_
      refine r_op (t_ne rfl) ⟨rfl, rfl, trivial⟩ ?_
      refine r_nil (r_next (r_if rfl (fun h53 => ?_) (fun h53 => ?_)))
      · have hF := cnd_t h53 hF
        refine r_seq (r_reg (r_mv ?_))
        refine r_op (t_eq rfl) ⟨rfl, k_I _ _, trivial⟩ ?_
        refine r_mv ?_
        refine r_bool (fun h54 => ?_) (fun h54 => ?_)
        · have hF := cnd_t h54 hF
          refine r_opg (t_mv (.inl rfl)) ⟨rfl, trivial⟩ ?_
          refine r_opg (t_ln rfl tyS47) ⟨rfl, trivial⟩ ?_
          refine r_opg (t_eq rfl) ⟨rfl, k_I _ _, trivial⟩ ?_
          refine r_op (t_pickT rfl) ⟨rfl, rfl, trivial⟩ ?_
          refine r_mv ?_
          refine r_bool (fun h55 => ?_) (fun h55 => ?_)
          · have hF := cnd_t h55 hF
            obtain ⟨v56, h57, hF⟩ := bnd hF
            refine r_opg (t_call rfl (ct_gantrylaw09_lives h57) rfl) trivial ?_
            refine r_op (t_pickT rfl) ⟨rfl, rfl, trivial⟩ ?_
            refine r_as ?_
            refine r_nil (r_next (r_ret (r_toR ?_)))
            obtain rfl := sm1 hF
            exact r_done1 (.inl rfl) Tryz.results8 (.tmp rfl .nil) rfl rfl
          have hF := cnd_f h55 hF
          refine r_opn ?_
          refine r_op (t_pickF rfl) ⟨rfl, k_B _, trivial⟩ ?_
          refine r_as ?_
          refine r_nil (r_next (r_ret (r_toR ?_)))
          obtain rfl := sm1 hF
          exact r_done1 (.inl rfl) Tryz.results8 (.tmp rfl .nil) rfl rfl
        have hF := cnd_f h54 hF
        refine r_opn ?_
        refine r_opn ?_
        refine r_opn ?_
        refine r_op (t_pickF rfl) ⟨rfl, k_B _, trivial⟩ ?_
        refine r_mv ?_
        refine r_opn ?_
        refine r_op (t_pickF rfl) ⟨rfl, k_B _, trivial⟩ ?_
        refine r_as ?_
        refine r_nil (r_next (r_ret (r_toR ?_)))
        obtain rfl := sm1 hF
        exact r_done1 (.inl rfl) Tryz.results8 (.tmp rfl .nil) rfl rfl
      have hF := cnd_f h53 hF
      refine r_skip (r_next (r_seq (r_reg (r_mv ?_))))
      obtain ⟨v58, h59, hF⟩ := bnd hF
      refine r_op (t_call rfl (ct_gantryref09_Inverse h59) rfl) ⟨rfl, trivial⟩ ?_
      refine r_mv ?_
      refine r_op (t_ext2a rfl) ⟨rfl, trivial⟩ ?_
      refine r_op (t_ext2b rfl) ⟨rfl, trivial⟩ ?_
      refine r_as ?_
      refine r_as ?_
      refine r_nil (r_next (r_seq (r_seq (r_reg (r_mv ?_)))))
      refine r_op (t_not rfl) ⟨rfl, trivial⟩ ?_
      refine r_nil (r_next (r_if rfl (fun h60 => ?_) (fun h60 => ?_)))
      · have hF := cnd_t h60 hF
        refine r_seq (r_reg (r_mv ?_))
        refine r_op (t_eq rfl) ⟨rfl, k_I _ _, trivial⟩ ?_
        refine r_mv ?_
        refine r_bool (fun h61 => ?_) (fun h61 => ?_)
        · have hF := cnd_t h61 hF
          refine r_opg (t_mv (.inl rfl)) ⟨rfl, trivial⟩ ?_
          refine r_opg (t_ln rfl tyS47) ⟨rfl, trivial⟩ ?_
          refine r_opg (t_eq rfl) ⟨rfl, k_I _ _, trivial⟩ ?_
          refine r_op (t_pickT rfl) ⟨rfl, rfl, trivial⟩ ?_
          refine r_mv ?_
          refine r_bool (fun h62 => ?_) (fun h62 => ?_)
          · have hF := cnd_t h62 hF
            obtain ⟨v63, h64, hF⟩ := bnd hF
            refine r_opg (t_call rfl (ct_gantrylaw09_lives h64) rfl) trivial ?_
            refine r_op (t_pickT rfl) ⟨rfl, rfl, trivial⟩ ?_
            refine r_as ?_
            refine r_nil (r_next (r_ret (r_toR ?_)))
            obtain rfl := sm1 hF
            exact r_done1 (.inl rfl) Tryz.results8 (.tmp rfl .nil) rfl rfl
          have hF := cnd_f h62 hF
          refine r_opn ?_
          refine r_op (t_pickF rfl) ⟨rfl, k_B _, trivial⟩ ?_
          refine r_as ?_
          refine r_nil (r_next (r_ret (r_toR ?_)))
          obtain rfl := sm1 hF
          exact r_done1 (.inl rfl) Tryz.results8 (.tmp rfl .nil) rfl rfl
        have hF := cnd_f h61 hF
        refine r_opn ?_
        refine r_opn ?_
        refine r_opn ?_
        refine r_op (t_pickF rfl) ⟨rfl, k_B _, trivial⟩ ?_
        refine r_mv ?_
        refine r_opn ?_
        refine r_op (t_pickF rfl) ⟨rfl, k_B _, trivial⟩ ?_
        refine r_as ?_
        refine r_nil (r_next (r_ret (r_toR ?_)))
        obtain rfl := sm1 hF
        exact r_done1 (.inl rfl) Tryz.results8 (.tmp rfl .nil) rfl rfl
      have hF := cnd_f h60 hF
      refine r_skip (r_next (r_seq (r_reg (r_mv ?_))))
      refine r_op (t_eq rfl) ⟨rfl, k_I _ _, trivial⟩ ?_
      refine r_mv ?_
      refine r_bool (fun h65 => ?_) (fun h65 => ?_)
      · have hF := cnd_t h65 hF
        refine r_opg (t_mv (.inl rfl)) ⟨rfl, trivial⟩ ?_
        refine r_opg (t_mv (.inl rfl)) ⟨rfl, trivial⟩ ?_
        obtain ⟨v66, h67, hF⟩ := bnd hF
        refine r_opg (t_call rfl (ct_gantryref09_Same h67) rfl) ⟨rfl, rfl, trivial⟩ ?_
        refine r_op (t_pickT rfl) ⟨rfl, rfl, trivial⟩ ?_
        refine r_mv ?_
        refine r_bool (fun h68 => ?_) (fun h68 => ?_)
        · have hF := cnd_t h68 hF
          obtain ⟨v69, h70, hF⟩ := bnd hF
          refine r_opg (t_call rfl (ct_gantrylaw09_lives h70) rfl) trivial ?_
          refine r_op (t_pickT rfl) ⟨rfl, rfl, trivial⟩ ?_
          refine r_as ?_
          refine r_nil (r_next (r_ret (r_toR ?_)))
          obtain rfl := sm1 hF
          exact r_done1 (.inl rfl) Tryz.results8 (.tmp rfl .nil) rfl rfl
        have hF := cnd_f h68 hF
        refine r_opn ?_
        refine r_op (t_pickF rfl) ⟨rfl, k_B _, trivial⟩ ?_
        refine r_as ?_
        refine r_nil (r_next (r_ret (r_toR ?_)))
        obtain rfl := sm1 hF
        exact r_done1 (.inl rfl) Tryz.results8 (.tmp rfl .nil) rfl rfl
      have hF := cnd_f h65 hF
      refine r_opn ?_
      refine r_opn ?_
      refine r_opn ?_
      refine r_op (t_pickF rfl) ⟨rfl, k_B _, trivial⟩ ?_
      refine r_mv ?_
      refine r_opn ?_
      refine r_op (t_pickF rfl) ⟨rfl, k_B _, trivial⟩ ?_
      refine r_as ?_
      refine r_nil (r_next (r_ret (r_toR ?_)))
      obtain rfl := sm1 hF
      exact r_done1 (.inl rfl) Tryz.results8 (.tmp rfl .nil) rfl rfl
    refine r_seq (r_reg (r_mv ?_))
    obtain ⟨v71, h72, hF⟩ := bnd hF
    refine r_op (t_rem rfl h72) ⟨rfl, k_I _ _, trivial⟩ ?_
    refine r_op (t_gt rfl) ⟨rfl, k_I _ _, trivial⟩ ?_
    refine r_mv ?_
    refine r_bool (fun h73 => ?_) (fun h73 => ?_)
    · have hF := cnd_t h73 hF
      refine r_opg (t_mv (.inl rfl)) ⟨rfl, trivial⟩ ?_
      refine r_opg (t_gt rfl) ⟨rfl, k_I _ _, trivial⟩ ?_
      refine r_op (t_pickT rfl) ⟨rfl, rfl, trivial⟩ ?_
      refine r_nil (r_next (r_if rfl (fun h74 => ?_) (fun h74 => ?_)))
      · have hF := cnd_t h74 hF
        refine r_seq (r_reg (r_op (t_mv (.inr rfl)) ⟨k_I _ _, trivial⟩ ?_))
        refine r_nil (r_next (r_blk (r_cutN (fun H E => ∃ (x101 : List Nat), ∃ (x107 : List (List Rat)), ∃ (b102 : Option Nat), ∃ (c103 : Nat), ∃ (n104 : Nat), ∃ (g108 : List Hdr), ∃ (N109 : Nat), F_gantrylaw09_MatrixInverts_j114 K a2 v1 x4 x101 x107 = some r ∧ x101.length = n104 ∧ x107.length = N109 ∧ LenOk g108 x107 ∧ (∀ k ∈ x101, k < N109) ∧ H = ([hO (cH g108) b102 c103 24 n104 x101] ++ inn cQ 35 g108 x107) ∧ E = [(2, .vc (pI .i64 a2)), (7, .vc (pI .i64 v1.1)), (8, .vc (pI .i64 x4)), (9, .vc (pO b102 n104 c103))]) ?_ (fun Jj114 => ?_))))
        · rintro _ _ ⟨x101, x107, b102, c103, n104, g108, N109, hF, q105, q110, q111, q112, rfl, rfl⟩
          unfold F_gantrylaw09_MatrixInverts_j114 at hF
          exact r_backA Jj34 ⟨x101, x107, b102, c103, n104, g108, N109, hF, q105, q110, q111, q112, rfl, rfl⟩ 1 [0] rfl rfl ⟨rfl, rfl, rfl, rfl, trivial⟩
        obtain ⟨⟨x101', x107'⟩, hL, hRl113⟩ := bnd hF
        refine r_lp (fun k a w => ∃ (x88 : List Nat), ∃ (x94 : List (List Rat)), ∃ (x100 : Int), ∃ (b89 : Option Nat), ∃ (c90 : Nat), ∃ (n91 : Nat), ∃ (g95 : List Hdr), ∃ (N96 : Nat), F_gantrylaw09_MatrixInverts_l113 K a2 v1 k x88 x94 x100 = some (x101', x107') ∧ x88.length = n91 ∧ x94.length = N96 ∧ LenOk g95 x94 ∧ (∀ k ∈ x88, k < N96) ∧ hs _ ([hO (cH g95) b89 c90 24 n91 x88] ++ inn cQ 35 g95 x94) [(2, .vc (pI .i64 a2)), (7, .vc (pI .i64 v1.1)), (8, .vc (pI .i64 x4)), (9, .vc (pO b89 n91 c90)), (10, .vc (pI .i64 x100))] a w) K (fun a w ⟨_, _, _, _, _, _, _, _, hF, _, _, _, _, _⟩ => by cases hF) (fun k a w ⟨x88, x94, x100, b89, c90, n91, g95, N96, hF, q92, q97, q98, q99, hh⟩ => r_at ?_ hh) (fun a w hh => ⟨v6.1, v6.2, 0, b10, c11, n12, g15, N16, hL, q13, q17, q18, q19, hs_backA 1 [0] rfl rfl (by decide) (by exact ⟨rfl, rfl, rfl, rfl, rfl, trivial⟩) hh⟩)
        rw [F_gantrylaw09_MatrixInverts_l113.eq_2] at hF
        refine r_seq (r_seq (r_reg (r_mv ?_)))
        refine r_mv ?_
        refine r_op (t_lt rfl) ⟨rfl, rfl, trivial⟩ ?_
        refine r_nil (r_next (r_if rfl (fun h115 => ?_) (fun h115 => ?_)))
        · have hF := cnd_t h115 hF
          refine r_skip (r_next (r_seq (r_blk (r_seq (r_seq (r_reg (r_op (t_mv (.inr rfl)) ⟨k_I _ _, trivial⟩ ?_)))))))
          refine r_nil (r_next (r_blk (r_cutN (fun H E => ∃ (x142 : List Nat), ∃ (x148 : List (List Rat)), ∃ (b143 : Option Nat), ∃ (c144 : Nat), ∃ (n145 : Nat), ∃ (g149 : List Hdr), ∃ (N150 : Nat), F_gantrylaw09_MatrixInverts_j155 K a2 x100 (F_gantrylaw09_MatrixInverts_l113 K a2 v1 k) x142 x148 = some (x101', x107') ∧ x142.length = n145 ∧ x148.length = N150 ∧ LenOk g149 x148 ∧ (∀ k ∈ x142, k < N150) ∧ H = ([hO (cH g149) b143 c144 24 n145 x142] ++ inn cQ 35 g149 x148) ∧ E = [(2, .vc (pI .i64 a2)), (7, .vc (pI .i64 v1.1)), (8, .vc (pI .i64 x4)), (9, .vc (pO b143 n145 c144)), (10, .vc (pI .i64 x100))]) ?_ (fun Jj155 => ?_))))
          · rintro _ _ ⟨x142, x148, b143, c144, n145, g149, N150, hF, q146, q151, q152, q153, rfl, rfl⟩
            unfold F_gantrylaw09_MatrixInverts_j155 at hF
            refine r_next (r_seq (r_reg (r_mv ?_)))
            obtain ⟨v156, h157, hF⟩ := bnd hF
            refine r_op (t_rem rfl h157) ⟨rfl, k_I _ _, trivial⟩ ?_
            refine r_op (t_eq rfl) ⟨rfl, k_I _ _, trivial⟩ ?_
            refine r_nil (r_next (r_if rfl (fun h158 => ?_) (fun h158 => ?_)))
            · have hF := cnd_t h158 hF
              obtain ⟨v161, h162, hF⟩ := bnd hF
              obtain ⟨v163, h164, hF⟩ := bnd hF
              obtain ⟨v165, h166, hF⟩ := bnd hF
              obtain ⟨v167, h168, hF⟩ := bnd hF
              obtain ⟨v169, h170, hF⟩ := bnd hF
              obtain ⟨v171, h172, hF⟩ := bnd hF
              refine r_draw [0, 0, 3, 7, 0, 0, 0, 96, 224, 0, 992, 2016, 0, 8160, 16383, 32767] 15 1 [.v (.vc (pO b143 n145 c144)), .v (.vc (pI .i64 x100)), .v (.vc (pE b143 x100 (cH g149).n 0)), .v (.vc (pO (hdr g149 v161).1 (hdr g149 v161).2.1 (hdr g149 v161).2.2)), .v (.vc (pI .i64 x100)), .v (.vc (pO b143 n145 c144)), .v (.vc (pI .i64 x100)), .v (.vc (pE b143 x100 (cH g149).n 0)), .v (.vc (pO (hdr g149 v163).1 (hdr g149 v163).2.1 (hdr g149 v163).2.2)), .v (.vc (pI .i64 x100)), .v (.vc (pE (hdr g149 v163).1 x100 cQ.n 0)), .v (.va (eQ v165)), .v (.va (eQ v167)), .v (.va (eQ v169)), .v (.vc (pE (hdr g149 v161).1 x100 cQ.n 0))] Tryz_mixed ⟨d0 (t_mv (.inl rfl)) ⟨rfl, trivial⟩, d0 (t_mv (.inl rfl)) ⟨rfl, trivial⟩, d0 (t_ixE (C := (cH g149)) 0 rfl tyS47 rfl q146 (rdL_some h162).1 (rdL_some h162).2.1) ⟨rfl, rfl, trivial⟩, d0 (t_ldE (C := (cH g149)) (k := 1) 0 rfl rfl h162 rfl (.one tyO24) rfl) ⟨rfl, trivial⟩, d0 (t_mv (.inl rfl)) ⟨rfl, trivial⟩, d0 (t_mv (.inl rfl)) ⟨rfl, trivial⟩, d0 (t_mv (.inl rfl)) ⟨rfl, trivial⟩, d0 (t_ixE (C := (cH g149)) 0 rfl tyS47 rfl q146 (rdL_some h164).1 (rdL_some h164).2.1) ⟨rfl, rfl, trivial⟩, d0 (t_ldE (C := (cH g149)) (k := 1) 0 rfl rfl h164 rfl (.one tyO24) rfl) ⟨rfl, trivial⟩, d0 (t_mv (.inl rfl)) ⟨rfl, trivial⟩, d0 (t_ixE (1 + v163) rfl tyS24 (inn_pA 1 rfl q152 q151 (q153 _ (rdL_mem h164))) (row_len q152 q151 (q153 _ (rdL_mem h164))) (rdL_some h166).1 (rdL_some h166).2.1) ⟨rfl, rfl, trivial⟩, d0 (t_ldE (k := 4) (1 + v163) rfl (inn_pA 1 rfl q152 q151 (q153 _ (rdL_mem h164))) h166 rfl (.agg tyA35) rfl) ⟨rfl, trivial⟩, d0 (t_call rfl (qc_gantryref05_Of h168) rfl) ⟨k_I _ _, k_I _ _, trivial⟩, d0 (t_call rfl (qc_gantryref05_Add h170) rfl) ⟨rfl, rfl, trivial⟩, d0 (t_ixE (1 + v161) rfl tyS24 (inn_pA 1 rfl q152 q151 (q153 _ (rdL_mem h162))) (row_len q152 q151 (q153 _ (rdL_mem h162))) (rdL_some h172).1 (rdL_some h172).2.1) ⟨rfl, rfl, trivial⟩, trivial⟩ (fun bs160 G159 => ?_)
              obtain ⟨x173, h174, hF⟩ := bnd hF
              refine r_op0 (t_stE (H' := ([hO (cH g149) b143 c144 24 n145 x142] ++ inn cQ 35 g149 (x148.set v161 x173))) (1 + v161) rfl (inn_p 1 rfl q152 q151 (q153 _ (rdL_mem h162))) h172 h174 tyA35.s (hH := stN 1 rfl q152 q151 (q153 _ (rdL_mem h162)))) ⟨rfl, rfl, trivial⟩ ?_
              refine r_nil (r_blkN (r_next (r_reg (r_mv ?_))))
              obtain ⟨v176, h177, hF⟩ := bnd hF
              refine r_op (t_add rfl h177) ⟨rfl, k_I _ _, trivial⟩ ?_
              refine r_as ?_
              refine r_nil ?_
              exact r_round (fun a w hh => ⟨x142, (x148.set v161 x173), v176, b143, c144, n145, g149, N150, hF, q146, (set_len q151), (set_ok q152 q151 (q153 _ (rdL_mem h162)) (stL_len h174 rfl)), q153, hs_backA 1 [0] rfl rfl (by decide) (by exact ⟨rfl, rfl, rfl, rfl, rfl, trivial⟩) hh⟩)
            have hF := cnd_f h158 hF
            refine r_skip (r_blkN (r_next (r_reg (r_mv ?_))))
            obtain ⟨v178, h179, hF⟩ := bnd hF
            refine r_op (t_add rfl h179) ⟨rfl, k_I _ _, trivial⟩ ?_
            refine r_as ?_
            refine r_nil ?_
            exact r_round (fun a w hh => ⟨x142, x148, v178, b143, c144, n145, g149, N150, hF, q146, q151, q152, q153, hs_backA 1 [0] rfl rfl (by decide) (by exact ⟨rfl, rfl, rfl, rfl, rfl, trivial⟩) hh⟩)
          obtain ⟨⟨x142', x148'⟩, hL, hRl154⟩ := bnd hF
          refine r_lp (fun k a w => ∃ (x129 : List Nat), ∃ (x135 : List (List Rat)), ∃ (x141 : Int), ∃ (b130 : Option Nat), ∃ (c131 : Nat), ∃ (n132 : Nat), ∃ (g136 : List Hdr), ∃ (N137 : Nat), F_gantrylaw09_MatrixInverts_l154 K x100 k x129 x135 x141 = some (x142', x148') ∧ x129.length = n132 ∧ x135.length = N137 ∧ LenOk g136 x135 ∧ (∀ k ∈ x129, k < N137) ∧ hs _ ([hO (cH g136) b130 c131 24 n132 x129] ++ inn cQ 35 g136 x135) [(2, .vc (pI .i64 a2)), (7, .vc (pI .i64 v1.1)), (8, .vc (pI .i64 x4)), (9, .vc (pO b130 n132 c131)), (10, .vc (pI .i64 x100)), (11, .vc (pI .i64 x141))] a w) K (fun a w ⟨_, _, _, _, _, _, _, _, hF, _, _, _, _, _⟩ => by cases hF) (fun k a w ⟨x129, x135, x141, b130, c131, n132, g136, N137, hF, q133, q138, q139, q140, hh⟩ => r_at ?_ hh) (fun a w hh => ⟨x88, x94, 0, b89, c90, n91, g95, N96, hL, q92, q97, q98, q99, hs_backA 1 [0] rfl rfl (by decide) (by exact ⟨rfl, rfl, rfl, rfl, rfl, rfl, trivial⟩) hh⟩)
          rw [F_gantrylaw09_MatrixInverts_l154.eq_2] at hF
          refine r_seq (r_seq (r_reg (r_mv ?_)))
          refine r_mv ?_
          refine r_op (t_lt rfl) ⟨rfl, rfl, trivial⟩ ?_
          refine r_nil (r_next (r_if rfl (fun h180 => ?_) (fun h180 => ?_)))
          · have hF := cnd_t h180 hF
            refine r_skip (r_next (r_seq (r_blk ?_)))
            obtain ⟨v183, h184, hF⟩ := bnd hF
            obtain ⟨v185, h186, hF⟩ := bnd hF
            obtain ⟨v187, h188, hF⟩ := bnd hF
            obtain ⟨v189, h190, hF⟩ := bnd hF
            refine r_draw [0, 0, 3, 7, 0, 0, 0, 96, 224, 0, 992, 2016, 4095, 8191] 13 1 [.v (.vc (pO b130 n132 c131)), .v (.vc (pI .i64 x100)), .v (.vc (pE b130 x100 (cH g136).n 0)), .v (.vc (pO (hdr g136 v183).1 (hdr g136 v183).2.1 (hdr g136 v183).2.2)), .v (.vc (pI .i64 x141)), .v (.vc (pO b130 n132 c131)), .v (.vc (pI .i64 x141)), .v (.vc (pE b130 x141 (cH g136).n 0)), .v (.vc (pO (hdr g136 v185).1 (hdr g136 v185).2.1 (hdr g136 v185).2.2)), .v (.vc (pI .i64 x100)), .v (.vc (pE (hdr g136 v185).1 x100 cQ.n 0)), .v (.va (eQ v187)), .v (.vc (pE (hdr g136 v183).1 x141 cQ.n 0))] Tryz_mixed ⟨d0 (t_mv (.inl rfl)) ⟨rfl, trivial⟩, d0 (t_mv (.inl rfl)) ⟨rfl, trivial⟩, d0 (t_ixE (C := (cH g136)) 0 rfl tyS47 rfl q133 (rdL_some h184).1 (rdL_some h184).2.1) ⟨rfl, rfl, trivial⟩, d0 (t_ldE (C := (cH g136)) (k := 1) 0 rfl rfl h184 rfl (.one tyO24) rfl) ⟨rfl, trivial⟩, d0 (t_mv (.inl rfl)) ⟨rfl, trivial⟩, d0 (t_mv (.inl rfl)) ⟨rfl, trivial⟩, d0 (t_mv (.inl rfl)) ⟨rfl, trivial⟩, d0 (t_ixE (C := (cH g136)) 0 rfl tyS47 rfl q133 (rdL_some h186).1 (rdL_some h186).2.1) ⟨rfl, rfl, trivial⟩, d0 (t_ldE (C := (cH g136)) (k := 1) 0 rfl rfl h186 rfl (.one tyO24) rfl) ⟨rfl, trivial⟩, d0 (t_mv (.inl rfl)) ⟨rfl, trivial⟩, d0 (t_ixE (1 + v185) rfl tyS24 (inn_pA 1 rfl q139 q138 (q140 _ (rdL_mem h186))) (row_len q139 q138 (q140 _ (rdL_mem h186))) (rdL_some h188).1 (rdL_some h188).2.1) ⟨rfl, rfl, trivial⟩, d0 (t_ldE (k := 4) (1 + v185) rfl (inn_pA 1 rfl q139 q138 (q140 _ (rdL_mem h186))) h188 rfl (.agg tyA35) rfl) ⟨rfl, trivial⟩, d0 (t_ixE (1 + v183) rfl tyS24 (inn_pA 1 rfl q139 q138 (q140 _ (rdL_mem h184))) (row_len q139 q138 (q140 _ (rdL_mem h184))) (rdL_some h190).1 (rdL_some h190).2.1) ⟨rfl, rfl, trivial⟩, trivial⟩ (fun bs182 G181 => ?_)
            obtain ⟨x191, h192, hF⟩ := bnd hF
            refine r_op0 (t_stE (H' := ([hO (cH g136) b130 c131 24 n132 x129] ++ inn cQ 35 g136 (x135.set v183 x191))) (1 + v183) rfl (inn_p 1 rfl q139 q138 (q140 _ (rdL_mem h184))) h190 h192 tyA35.s (hH := stN 1 rfl q139 q138 (q140 _ (rdL_mem h184)))) ⟨rfl, rfl, trivial⟩ ?_
            refine r_nil (r_blkN (r_next (r_reg (r_mv ?_))))
            obtain ⟨v194, h195, hF⟩ := bnd hF
            refine r_op (t_add rfl h195) ⟨rfl, k_I _ _, trivial⟩ ?_
            refine r_as ?_
            refine r_nil ?_
            exact r_round (fun a w hh => ⟨x129, (x135.set v183 x191), v194, b130, c131, n132, g136, N137, hF, q133, (set_len q138), (set_ok q139 q138 (q140 _ (rdL_mem h184)) (stL_len h192 rfl)), q140, hs_backA 1 [0] rfl rfl (by decide) (by exact ⟨rfl, rfl, rfl, rfl, rfl, rfl, trivial⟩) hh⟩)
          have hF := cnd_f h180 hF
          refine r_brk ?_
          obtain ⟨rfl, rfl⟩ := sm2 hF
          exact r_backA Jj155 ⟨x129, x135, b130, c131, n132, g136, N137, hRl154, q133, q138, q139, q140, rfl, rfl⟩ 1 [0] rfl rfl ⟨rfl, rfl, rfl, rfl, rfl, trivial⟩
        have hF := cnd_f h115 hF
        refine r_brk ?_
        obtain ⟨rfl, rfl⟩ := sm2 hF
        exact r_backA Jj114 ⟨x88, x94, b89, c90, n91, g95, N96, hRl113, q92, q97, q98, q99, rfl, rfl⟩ 1 [0] rfl rfl ⟨rfl, rfl, rfl, rfl, trivial⟩
      have hF := cnd_f h74 hF
      refine r_skip ?_
      exact r_backA Jj34 ⟨v6.1, v6.2, b10, c11, n12, g15, N16, hF, q13, q17, q18, q19, rfl, rfl⟩ 1 [0] rfl rfl ⟨rfl, rfl, rfl, rfl, trivial⟩
    have hF := cnd_f h73 hF
    refine r_opn ?_
    refine r_opn ?_
    refine r_op (t_pickF rfl) ⟨rfl, k_B _, trivial⟩ ?_
    refine r_nil (r_next (r_ifF rfl ?_))
    refine r_skip ?_
    exact r_backA Jj34 ⟨v6.1, v6.2, b10, c11, n12, g15, N16, hF, q13, q17, q18, q19, rfl, rfl⟩ 1 [0] rfl rfl ⟨rfl, rfl, rfl, rfl, trivial⟩
  refine r_seq (r_reg (r_mv ?_))
  obtain ⟨v196, h197, hF⟩ := bnd hF
  refine r_op (t_rem rfl h197) ⟨rfl, k_I _ _, trivial⟩ ?_
  refine r_op (t_gt rfl) ⟨rfl, k_I _ _, trivial⟩ ?_
  refine r_mv ?_
  refine r_bool (fun h198 => ?_) (fun h198 => ?_)
  · have hF := cnd_t h198 hF
    refine r_opg (t_mv (.inl rfl)) ⟨rfl, trivial⟩ ?_
    refine r_opg (t_gt rfl) ⟨rfl, k_I _ _, trivial⟩ ?_
    refine r_op (t_pickT rfl) ⟨rfl, rfl, trivial⟩ ?_
    refine r_nil (r_next (r_if rfl (fun h199 => ?_) (fun h199 => ?_)))
    · have hF := cnd_t h199 hF
      refine r_reg (r_mv ?_)
      refine r_as ?_
      refine r_nil ?_
      exact r_backJ Jj5 ⟨v1.1, hF, rfl, rfl⟩ [] rfl ⟨rfl, rfl, rfl, rfl, trivial⟩
    have hF := cnd_f h199 hF
    refine r_skip ?_
    exact r_backJ Jj5 ⟨v1.2, hF, rfl, rfl⟩ [] rfl ⟨rfl, rfl, rfl, rfl, trivial⟩
  have hF := cnd_f h198 hF
  refine r_opn ?_
  refine r_opn ?_
  refine r_op (t_pickF rfl) ⟨rfl, k_B _, trivial⟩ ?_
  refine r_nil (r_next (r_ifF rfl ?_))
  refine r_skip ?_
  exact r_backJ Jj5 ⟨v1.2, hF, rfl, rfl⟩ [] rfl ⟨rfl, rfl, rfl, rfl, trivial⟩
end Go.Proofs.YtkjnngaceacmdaaGreat
