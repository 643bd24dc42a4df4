import Derived.Test.YtkjnngaceacmdaaGreatI1
set_option linter.unusedVariables false
set_option maxRecDepth 100000
namespace Go.Proofs.YtkjnngaceacmdaaGreat
def F_integer_Gcd_j16 (K : Nat) (x14 : GInt) : Option GInt :=
  some x14
def F_integer_Gcd_j30 (K : Nat) (x28 : Int) : Option (LR GInt GInt) :=
  (F_integer_unsigned false (IntKind.u64.wrap x28)).bind fun v31 => some (.ret v31)
def F_integer_Gcd_l29 (K : Nat) : Nat → Int → Int → Option Int
  | 0, _, _ => none
  | k + 1, x26, x27 => bif (decide (0 < x27)) then ((chr x26 x27).bind fun v36 => F_integer_Gcd_l29 K k x27 v36) else (some x26)
def F_integer_Gcd_l15 (K : Nat) : Nat → GInt → GInt → Option (LR GInt GInt)
  | 0, _, _ => none
  | k + 1, x12, x13 => bif (decide (0 < (x13.d.length : Int))) then ((F_integer_two x12.d).bind fun v18 => (F_integer_two x13.d).bind fun v20 => bif v18.2 then (bif v20.2 then ((F_integer_Gcd_l29 K K v18.1 v20.1).bind fun x28 => F_integer_Gcd_j30 K x28) else ((F_integer_divide K x12.d x13.d).bind fun v38 => F_integer_Gcd_l15 K k x13 v38.2)) else ((F_integer_divide K x12.d x13.d).bind fun v44 => F_integer_Gcd_l15 K k x13 v44.2)) else (some (.go x12))
def F_integer_Gcd (K : Nat) (a0 : GInt) (a1 : GInt) : Option GInt :=
  (F_integer_of K false a0.d).bind fun v6 => (F_integer_of K false a1.d).bind fun v8 => (F_integer_Gcd_l15 K K v6 v8).bind fun o => match o with | .ret r => some r | .go x14 => F_integer_Gcd_j16 K x14
theorem ct_integer_Gcd {K : Nat} {a0 : GInt} {a1 : GInt} {r : GInt} (hF : F_integer_Gcd K a0 a1 = some r) : Ct Tryz.prog 137 [.va (GInt.e a0), .va (GInt.e a1)] (.va (GInt.e r)) := by
  unfold F_integer_Gcd at hF
  refine ctO_intro Tryz.func137 rfl (by kernel_rfl) Tryz.ntmps137 rfl (fun w0 M0 => ?_)
  refine r_seq (r_reg (r_box rfl rfl trivial (fun b1 => ?_)))
  refine r_box rfl rfl trivial (fun b2 => ?_)
  refine r_alloc rfl tyZ33 (fun b3 => ?_)
  refine r_nil (r_next (r_seq ?_))
  obtain ⟨v6, h7, hF⟩ := bnd hF
  obtain ⟨v8, h9, hF⟩ := bnd hF
  refine r_draw [0, 1, 3, 0, 8, 31, 0, 0, 255, 511] 8 2 [.v (.vc (pP (some b1) 1)), .v (.vc (pS cI a0.d)), .v (.va (GInt.e v6)), .v (.vc (pP (some b2) 1)), .v (.vc (pS cI a1.d)), .v (.va (GInt.e v8)), .a 33 ([pB false] ++ [pS cI ([] : List Int)]), .a 33 ([pB false] ++ [pS cI ([] : List Int)])] Tryz_mixed ⟨d0 (t_fa (off := 0) (k := 1) rfl tyF33_1) ⟨rfl, trivial⟩, d0 (t_l 2 1 rfl rfl rfl rfl (.one tyO22)) ⟨rfl, trivial⟩, d0 (t_call rfl (ct_integer_of h7) rfl) ⟨k_B _, rfl, trivial⟩, d0 (t_fa (off := 0) (k := 1) rfl tyF33_1) ⟨rfl, trivial⟩, d0 (t_l 1 1 rfl rfl rfl rfl (.one tyO22)) ⟨rfl, trivial⟩, d0 (t_call rfl (ct_integer_of h9) rfl) ⟨k_B _, rfl, trivial⟩, ⟨rfl, .alc tyZ33⟩, ⟨rfl, .alc tyZ33⟩, trivial⟩ (fun bs5 G4 => ?_)
  refine r_op0 (t_s 0 rfl rfl rfl tyA33.s) ⟨rfl, rfl, trivial⟩ ?_
  refine r_op0 (t_s 1 rfl rfl rfl tyA33.s) ⟨rfl, rfl, trivial⟩ ?_
  refine r_nil (r_next (r_seq (r_blk (r_cutN (fun H E => ∃ (x14 : GInt), F_integer_Gcd_j16 K x14 = some r ∧ H = [⟨some (bs5 6), 1, 33, 2, 1, (GInt.e x14)⟩, ⟨some b3, 1, 33, 2, 1, ([pB false] ++ [pS cI ([] : List Int)])⟩] ∧ E = [(4, .vc (pP (some b3) 0)), (5, .vc (pP (some (bs5 6)) 0))]) ?_ (fun Jj16 => ?_)))))
  · rintro _ _ ⟨x14, hF, rfl, rfl⟩
    unfold F_integer_Gcd_j16 at hF
    refine r_next (r_seq (r_reg (r_op (t_l 0 2 rfl rfl rfl rfl (.agg tyA33)) ⟨rfl, trivial⟩ ?_)))
    refine r_op0 (t_s 1 rfl rfl rfl tyA33.s) ⟨rfl, rfl, trivial⟩ ?_
    refine r_nil (r_next (r_ret (r_toR ?_)))
    obtain rfl := sm1 hF
    exact r_done1 (.inl rfl) Tryz.results137 (rv_cell 1 2 rfl rfl rfl rfl (.agg tyA33) .nil) rfl rfl
  obtain ⟨ol15, hL, hRl15⟩ := bnd hF
  refine r_lp (fun k a w => ∃ (x12 : GInt), ∃ (x13 : GInt), F_integer_Gcd_l15 K k x12 x13 = some ol15 ∧ hs _ [⟨some (bs5 6), 1, 33, 2, 1, (GInt.e x12)⟩, ⟨some (bs5 7), 1, 33, 2, 1, (GInt.e x13)⟩, ⟨some b3, 1, 33, 2, 1, ([pB false] ++ [pS cI ([] : List Int)])⟩] [(4, .vc (pP (some b3) 0)), (5, .vc (pP (some (bs5 6)) 0)), (6, .vc (pP (some (bs5 7)) 0))] a w) K (fun a w ⟨_, _, hF, _⟩ => by cases hF) (fun k a w ⟨x12, x13, hF, hh⟩ => r_at ?_ hh) (fun a w hh => ⟨v6, v8, hL, hs_back [0, 1, 2] rfl (by decide) (by exact ⟨rfl, rfl, rfl, trivial⟩) hh⟩)
  rw [F_integer_Gcd_l15.eq_2] at hF
  refine r_seq (r_seq (r_reg (r_op (t_fa (off := 0) (k := 1) rfl tyF33_1) ⟨rfl, trivial⟩ ?_)))
  refine r_op (t_l 1 1 rfl rfl rfl rfl (.one tyO22)) ⟨rfl, trivial⟩ ?_
  refine r_op (t_ln rfl tyS22) ⟨rfl, trivial⟩ ?_
  refine r_op (t_gt rfl) ⟨rfl, k_I _ _, trivial⟩ ?_
  refine r_nil (r_next (r_if rfl (fun h17 => ?_) (fun h17 => ?_)))
  · have hF := cnd_t h17 hF
    refine r_skip (r_next (r_blk (r_seq (r_reg (r_op (t_fa (off := 0) (k := 1) rfl tyF33_1) ⟨rfl, trivial⟩ ?_)))))
    refine r_op (t_l 0 1 rfl rfl rfl rfl (.one tyO22)) ⟨rfl, trivial⟩ ?_
    obtain ⟨v18, h19, hF⟩ := bnd hF
    refine r_op (t_call rfl (ct_integer_two h19) rfl) ⟨rfl, trivial⟩ ?_
    refine r_mv ?_
    refine r_op (t_ext2a rfl) ⟨rfl, trivial⟩ ?_
    refine r_op (t_ext2b rfl) ⟨rfl, trivial⟩ ?_
    refine r_as ?_
    refine r_as ?_
    refine r_nil (r_next (r_seq (r_reg (r_op (t_fa (off := 0) (k := 1) rfl tyF33_1) ⟨rfl, trivial⟩ ?_))))
    refine r_op (t_l 1 1 rfl rfl rfl rfl (.one tyO22)) ⟨rfl, trivial⟩ ?_
    obtain ⟨v20, h21, hF⟩ := bnd hF
    refine r_op (t_call rfl (ct_integer_two h21) rfl) ⟨rfl, trivial⟩ ?_
    refine r_mv ?_
    refine r_op (t_ext2a rfl) ⟨rfl, trivial⟩ ?_
    refine r_op (t_ext2b rfl) ⟨rfl, trivial⟩ ?_
    refine r_as ?_
    refine r_as ?_
    refine r_nil (r_next (r_seq (r_seq (r_reg (r_mv ?_)))))
    refine r_mv ?_
    refine r_bool (fun h22 => ?_) (fun h22 => ?_)
    · have hF := cnd_t h22 hF
      refine r_opg (t_mv (.inl rfl)) ⟨rfl, trivial⟩ ?_
      refine r_op (t_pickT rfl) ⟨rfl, rfl, trivial⟩ ?_
      refine r_nil (r_next (r_if rfl (fun h23 => ?_) (fun h23 => ?_)))
      · have hF := cnd_t h23 hF
        refine r_seq (r_blk (r_cutN (fun H E => ∃ (x28 : Int), F_integer_Gcd_j30 K x28 = some ol15 ∧ H = [⟨some b3, 1, 33, 2, 1, ([pB false] ++ [pS cI ([] : List Int)])⟩] ∧ E = [(4, .vc (pP (some b3) 0)), (7, .vc (pI .i64 x28))]) ?_ (fun Jj30 => ?_)))
        · rintro _ _ ⟨x28, hF, rfl, rfl⟩
          unfold F_integer_Gcd_j30 at hF
          refine r_next (r_seq (r_reg (r_mv ?_)))
          refine r_op (t_cv rfl ⟨_, Tryz.underlying3⟩ Tryz.underlying160) ⟨rfl, trivial⟩ ?_
          obtain ⟨v31, h32, hF⟩ := bnd hF
          refine r_op (t_call rfl (ct_integer_unsigned h32) rfl) ⟨k_B _, rfl, trivial⟩ ?_
          refine r_op0 (t_s 0 rfl rfl rfl tyA33.s) ⟨rfl, rfl, trivial⟩ ?_
          refine r_nil (r_next (r_ret (r_toR ?_)))
          obtain rfl := sm1 hF
          obtain rfl := sm1 hRl15
          exact r_done1 (.inl rfl) Tryz.results137 (rv_cell 0 2 rfl rfl rfl rfl (.agg tyA33) .nil) rfl rfl
        obtain ⟨x28', hL, hRl29⟩ := bnd hF
        refine r_lp (fun k a w => ∃ (x26 : Int), ∃ (x27 : Int), F_integer_Gcd_l29 K k x26 x27 = some x28' ∧ hs _ [⟨some b3, 1, 33, 2, 1, ([pB false] ++ [pS cI ([] : List Int)])⟩] [(4, .vc (pP (some b3) 0)), (7, .vc (pI .i64 x26)), (9, .vc (pI .i64 x27))] a w) K (fun a w ⟨_, _, hF, _⟩ => by cases hF) (fun k a w ⟨x26, x27, hF, hh⟩ => r_at ?_ hh) (fun a w hh => ⟨v18.1, v20.1, hL, hs_back [2] rfl (by decide) (by exact ⟨rfl, rfl, rfl, trivial⟩) hh⟩)
        rw [F_integer_Gcd_l29.eq_2] at hF
        refine r_seq (r_seq (r_reg (r_mv ?_)))
        refine r_op (t_gt rfl) ⟨rfl, k_I _ _, trivial⟩ ?_
        refine r_nil (r_next (r_if rfl (fun h33 => ?_) (fun h33 => ?_)))
        · have hF := cnd_t h33 hF
          refine r_skip (r_next (r_blk ?_))
          obtain ⟨v36, h37, hF⟩ := bnd hF
          refine r_draw [0, 0, 0, 6, 3, 31] 6 0 [.v (.vc (pI .i64 x27)), .v (.vc (pI .i64 x26)), .v (.vc (pI .i64 x27)), .v (.vc (pI .i64 v36)), .v (.vc (pI .i64 x27)), .v (.vc (pI .i64 v36))] Tryz_mixed ⟨d0 (t_mv (.inl rfl)) ⟨rfl, trivial⟩, d0 (t_mv (.inl rfl)) ⟨rfl, trivial⟩, d0 (t_mv (.inl rfl)) ⟨rfl, trivial⟩, d0 (t_rem rfl h37) ⟨rfl, rfl, trivial⟩, d0 (t_mv (.inr rfl)) ⟨rfl, trivial⟩, d0 (t_mv (.inr rfl)) ⟨rfl, trivial⟩, trivial⟩ (fun bs35 G34 => ?_)
          refine r_nil (r_blkN ?_)
          exact r_round (fun a w hh => ⟨x27, v36, hF, hs_back [0] rfl (by decide) (by exact ⟨rfl, rfl, rfl, trivial⟩) hh⟩)
        have hF := cnd_f h33 hF
        refine r_brk ?_
        obtain rfl := sm1 hF
        exact r_backJ Jj30 ⟨x26, hRl29, rfl, rfl⟩ [0] rfl ⟨rfl, rfl, trivial⟩
      have hF := cnd_f h23 hF
      refine r_skip (r_next (r_seq (r_reg (r_op (t_fa (off := 0) (k := 1) rfl tyF33_1) ⟨rfl, trivial⟩ ?_))))
      refine r_op (t_l 0 1 rfl rfl rfl rfl (.one tyO22)) ⟨rfl, trivial⟩ ?_
      refine r_op (t_fa (off := 0) (k := 1) rfl tyF33_1) ⟨rfl, trivial⟩ ?_
      refine r_op (t_l 1 1 rfl rfl rfl rfl (.one tyO22)) ⟨rfl, trivial⟩ ?_
      obtain ⟨v38, h39, hF⟩ := bnd hF
      refine r_op (t_call rfl (ct_integer_divide h39) rfl) ⟨rfl, rfl, trivial⟩ ?_
      refine r_mv ?_
      refine r_op (t_ext2a rfl) ⟨rfl, trivial⟩ ?_
      refine r_op (t_ext2b rfl) ⟨rfl, trivial⟩ ?_
      refine r_alloc rfl tyZ33 (fun b40 => ?_)
      refine r_alloc rfl tyZ33 (fun b41 => ?_)
      refine r_op0 (t_s 1 rfl rfl rfl tyA33.s) ⟨rfl, rfl, trivial⟩ ?_
      refine r_op0 (t_s 0 rfl rfl rfl tyA33.s) ⟨rfl, rfl, trivial⟩ ?_
      refine r_nil (r_next (r_drawH (HsL [fun G42 => [⟨some b41, 1, 33, 2, 1, (GInt.e v38.2)⟩, ⟨some b40, 1, 33, 2, 1, (GInt.e v38.1)⟩, ⟨some (bs5 6), 1, 33, 2, 1, (GInt.e x12)⟩, ⟨some (bs5 7), 1, 33, 2, 1, (GInt.e x13)⟩, ⟨some b3, 1, 33, 2, 1, ([pB false] ++ [pS cI ([] : List Int)])⟩], fun G42 => [⟨some b41, 1, 33, 2, 1, (GInt.e v38.2)⟩, ⟨some b40, 1, 33, 2, 1, (GInt.e v38.1)⟩, ⟨some (bs5 6), 1, 33, 2, 1, (GInt.e x13)⟩, ⟨some (bs5 7), 1, 33, 2, 1, (GInt.e x13)⟩, ⟨some b3, 1, 33, 2, 1, ([pB false] ++ [pS cI ([] : List Int)])⟩]]) [2] [0, 0, 1, 7] 3 1 [.v (.va (GInt.e x13)), .v (.va (GInt.e v38.2)), .g (fun _ _ => .any)] Tryz_mixed ⟨d1 0 (t_l 3 2 rfl rfl rfl rfl (.agg tyA33)) ⟨rfl, trivial⟩, ⟨rfl, .run (lo := 0) (n := 2) ⟨fun G42 A => t_l 0 2 rfl rfl rfl rfl (.agg tyA33), fun G42 A => t_l 0 2 rfl rfl rfl rfl (.agg tyA33), trivial⟩ (fun G42 => ⟨rfl, trivial⟩)⟩, ⟨rfl, .hvy 0 (fun G42 A => hv_tr (t_s 2 rfl rfl rfl tyA33.s)) (fun G42 => ⟨rfl, rfl, trivial⟩)⟩, trivial⟩ (fun bs43 G42 => ?_)))
      refine r_op0 (t_s 3 rfl rfl rfl tyA33.s) ⟨rfl, rfl, trivial⟩ ?_
      refine r_nil (r_blkN ?_)
      exact r_round (fun a w hh => ⟨x13, v38.2, hF, hs_back [2, 3, 4] rfl (by decide) (by exact ⟨rfl, rfl, rfl, trivial⟩) hh⟩)
    have hF := cnd_f h22 hF
    refine r_opn ?_
    refine r_op (t_pickF rfl) ⟨rfl, k_B _, trivial⟩ ?_
    refine r_nil (r_next (r_ifF rfl ?_))
    refine r_skip (r_next (r_seq (r_reg (r_op (t_fa (off := 0) (k := 1) rfl tyF33_1) ⟨rfl, trivial⟩ ?_))))
    refine r_op (t_l 0 1 rfl rfl rfl rfl (.one tyO22)) ⟨rfl, trivial⟩ ?_
    refine r_op (t_fa (off := 0) (k := 1) rfl tyF33_1) ⟨rfl, trivial⟩ ?_
    refine r_op (t_l 1 1 rfl rfl rfl rfl (.one tyO22)) ⟨rfl, trivial⟩ ?_
    obtain ⟨v44, h45, hF⟩ := bnd hF
    refine r_op (t_call rfl (ct_integer_divide h45) rfl) ⟨rfl, rfl, trivial⟩ ?_
    refine r_mv ?_
    refine r_op (t_ext2a rfl) ⟨rfl, trivial⟩ ?_
    refine r_op (t_ext2b rfl) ⟨rfl, trivial⟩ ?_
    refine r_alloc rfl tyZ33 (fun b46 => ?_)
    refine r_alloc rfl tyZ33 (fun b47 => ?_)
    refine r_op0 (t_s 1 rfl rfl rfl tyA33.s) ⟨rfl, rfl, trivial⟩ ?_
    refine r_op0 (t_s 0 rfl rfl rfl tyA33.s) ⟨rfl, rfl, trivial⟩ ?_
    refine r_nil (r_next (r_drawH (HsL [fun G48 => [⟨some b47, 1, 33, 2, 1, (GInt.e v44.2)⟩, ⟨some b46, 1, 33, 2, 1, (GInt.e v44.1)⟩, ⟨some (bs5 6), 1, 33, 2, 1, (GInt.e x12)⟩, ⟨some (bs5 7), 1, 33, 2, 1, (GInt.e x13)⟩, ⟨some b3, 1, 33, 2, 1, ([pB false] ++ [pS cI ([] : List Int)])⟩], fun G48 => [⟨some b47, 1, 33, 2, 1, (GInt.e v44.2)⟩, ⟨some b46, 1, 33, 2, 1, (GInt.e v44.1)⟩, ⟨some (bs5 6), 1, 33, 2, 1, (GInt.e x13)⟩, ⟨some (bs5 7), 1, 33, 2, 1, (GInt.e x13)⟩, ⟨some b3, 1, 33, 2, 1, ([pB false] ++ [pS cI ([] : List Int)])⟩]]) [2] [0, 0, 1, 7] 3 1 [.v (.va (GInt.e x13)), .v (.va (GInt.e v44.2)), .g (fun _ _ => .any)] Tryz_mixed ⟨d1 0 (t_l 3 2 rfl rfl rfl rfl (.agg tyA33)) ⟨rfl, trivial⟩, ⟨rfl, .run (lo := 0) (n := 2) ⟨fun G48 A => t_l 0 2 rfl rfl rfl rfl (.agg tyA33), fun G48 A => t_l 0 2 rfl rfl rfl rfl (.agg tyA33), trivial⟩ (fun G48 => ⟨rfl, trivial⟩)⟩, ⟨rfl, .hvy 0 (fun G48 A => hv_tr (t_s 2 rfl rfl rfl tyA33.s)) (fun G48 => ⟨rfl, rfl, trivial⟩)⟩, trivial⟩ (fun bs49 G48 => ?_)))
    refine r_op0 (t_s 3 rfl rfl rfl tyA33.s) ⟨rfl, rfl, trivial⟩ ?_
    refine r_nil (r_blkN ?_)
    exact r_round (fun a w hh => ⟨x13, v44.2, hF, hs_back [2, 3, 4] rfl (by decide) (by exact ⟨rfl, rfl, rfl, trivial⟩) hh⟩)
  have hF := cnd_f h17 hF
  refine r_brk ?_
  obtain rfl := sm1 hF
  exact r_backJ Jj16 ⟨x12, hRl15, rfl, rfl⟩ [0, 2] rfl ⟨rfl, rfl, trivial⟩
def F_integer_Div_j13 (K : Nat) (a0 : GInt) (a1 : GInt) (x11 : GInt) (x12 : GInt) : Option (GInt × GInt) :=
  bif (a0.neg != a1.neg) then (some ((⟨(decide (0 < (x12.d.length : Int))), x12.d⟩ : GInt), x11)) else (some ((⟨false, x12.d⟩ : GInt), x11))
def F_integer_Div (K : Nat) (a0 : GInt) (a1 : GInt) : Option (GInt × GInt) :=
  bif ((a1.d.length : Int) == 0) then (some ((⟨false, ([] : List Int)⟩ : GInt), (⟨false, ([] : List Int)⟩ : GInt))) else ((F_integer_divide K a0.d a1.d).bind fun v6 => bif a0.neg then (bif (decide (0 < (v6.2.d.length : Int))) then ((F_integer_plus K v6.1.d [1]).bind fun v21 => (F_integer_of K false v21).bind fun v23 => (F_integer_minus K a1.d v6.2.d).bind fun v25 => (F_integer_of K false v25).bind fun v27 => F_integer_Div_j13 K a0 a1 v27 v23) else (F_integer_Div_j13 K a0 a1 v6.2 v6.1)) else (F_integer_Div_j13 K a0 a1 v6.2 v6.1))
theorem ct_integer_Div {K : Nat} {a0 : GInt} {a1 : GInt} {r : GInt × GInt} (hF : F_integer_Div K a0 a1 = some r) : Ct Tryz.prog 139 [.va (GInt.e a0), .va (GInt.e a1)] (.t2 (.va (GInt.e r.1)) (.va (GInt.e r.2))) := by
  unfold F_integer_Div at hF
  refine ctO_intro Tryz.func139 rfl (by kernel_rfl) Tryz.ntmps139 rfl (fun w0 M0 => ?_)
  refine r_seq (r_reg (r_box rfl rfl trivial (fun b1 => ?_)))
  refine r_box rfl rfl trivial (fun b2 => ?_)
  refine r_alloc rfl tyZ33 (fun b3 => ?_)
  refine r_alloc rfl tyZ33 (fun b4 => ?_)
  refine r_nil (r_next (r_seq (r_seq (r_reg (r_op (t_fa (off := 0) (k := 1) rfl tyF33_1) ⟨rfl, trivial⟩ ?_)))))
  refine r_op (t_l 2 1 rfl rfl rfl rfl (.one tyO22)) ⟨rfl, trivial⟩ ?_
  refine r_op (t_ln rfl tyS22) ⟨rfl, trivial⟩ ?_
  refine r_op (t_eq rfl) ⟨rfl, k_I _ _, trivial⟩ ?_
  refine r_nil (r_next (r_if rfl (fun h5 => ?_) (fun h5 => ?_)))
  · have hF := cnd_t h5 hF
    refine r_seq (r_reg (r_op (t_bld (is := []) (xs := []) (ps := []) rfl tyB33 rfl rfl trivial rfl) trivial ?_))
    refine r_op (t_bld (is := []) (xs := []) (ps := []) rfl tyB33 rfl rfl trivial rfl) trivial ?_
    refine r_op0 (t_s 1 rfl rfl rfl tyA33.s) ⟨rfl, rfl, trivial⟩ ?_
    refine r_op0 (t_s 0 rfl rfl rfl tyA33.s) ⟨rfl, rfl, trivial⟩ ?_
    refine r_nil (r_next (r_ret (r_toR ?_)))
    obtain rfl := sm1 hF
    exact r_done1 (.inl rfl) Tryz.results139 (rv_cell 1 2 rfl rfl rfl rfl (.agg tyA33) (rv_cell 0 2 rfl rfl rfl rfl (.agg tyA33) .nil)) rfl rfl
  have hF := cnd_f h5 hF
  refine r_skip (r_next (r_seq (r_reg (r_op (t_fa (off := 0) (k := 1) rfl tyF33_1) ⟨rfl, trivial⟩ ?_))))
  refine r_op (t_l 3 1 rfl rfl rfl rfl (.one tyO22)) ⟨rfl, trivial⟩ ?_
  refine r_op (t_fa (off := 0) (k := 1) rfl tyF33_1) ⟨rfl, trivial⟩ ?_
  refine r_op (t_l 2 1 rfl rfl rfl rfl (.one tyO22)) ⟨rfl, trivial⟩ ?_
  obtain ⟨v6, h7, hF⟩ := bnd hF
  refine r_op (t_call rfl (ct_integer_divide h7) rfl) ⟨rfl, rfl, trivial⟩ ?_
  refine r_mv ?_
  refine r_op (t_ext2a rfl) ⟨rfl, trivial⟩ ?_
  refine r_op (t_ext2b rfl) ⟨rfl, trivial⟩ ?_
  refine r_alloc rfl tyZ33 (fun b8 => ?_)
  refine r_alloc rfl tyZ33 (fun b9 => ?_)
  refine r_op0 (t_s 1 rfl rfl rfl tyA33.s) ⟨rfl, rfl, trivial⟩ ?_
  refine r_op0 (t_s 0 rfl rfl rfl tyA33.s) ⟨rfl, rfl, trivial⟩ ?_
  refine r_nil (r_next (r_seq (r_cutS (fun H E => ∃ (x11 : GInt), ∃ (x12 : GInt), F_integer_Div_j13 K a0 a1 x11 x12 = some r ∧ H = [⟨some b9, 1, 33, 2, 1, (GInt.e x11)⟩, ⟨some b8, 1, 33, 2, 1, (GInt.e x12)⟩, ⟨some b4, 1, 33, 2, 1, ([pB false] ++ [pS cI ([] : List Int)])⟩, ⟨some b3, 1, 33, 2, 1, ([pB false] ++ [pS cI ([] : List Int)])⟩, ⟨some b2, 1, 33, 2, 1, (GInt.e a1)⟩, ⟨some b1, 1, 33, 2, 1, (GInt.e a0)⟩] ∧ E = [(2, .vc (pP (some b1) 0)), (3, .vc (pP (some b2) 0)), (4, .vc (pP (some b3) 0)), (5, .vc (pP (some b4) 0)), (6, .vc (pP (some b8) 0)), (7, .vc (pP (some b9) 0))]) ?_ (fun Jj13 => ?_))))
  · rintro _ _ ⟨x11, x12, hF, rfl, rfl⟩
    unfold F_integer_Div_j13 at hF
    refine r_seq (r_reg (r_op (t_fa (off := 0) (k := 0) rfl tyF33_0) ⟨rfl, trivial⟩ ?_))
    refine r_op (t_l 5 1 rfl rfl rfl rfl (.one tyO4)) ⟨rfl, trivial⟩ ?_
    refine r_op (t_fa (off := 0) (k := 0) rfl tyF33_0) ⟨rfl, trivial⟩ ?_
    refine r_op (t_l 4 1 rfl rfl rfl rfl (.one tyO4)) ⟨rfl, trivial⟩ ?_
    refine r_op (t_neB rfl Tryz.underlying4) ⟨rfl, rfl, trivial⟩ ?_
    refine r_mv ?_
    refine r_bool (fun h14 => ?_) (fun h14 => ?_)
    · have hF := cnd_t h14 hF
      refine r_opg (t_fa (off := 0) (k := 1) rfl tyF33_1) ⟨rfl, trivial⟩ ?_
      refine r_opg (t_l 1 1 rfl rfl rfl rfl (.one tyO22)) ⟨rfl, trivial⟩ ?_
      refine r_opg (t_ln rfl tyS22) ⟨rfl, trivial⟩ ?_
      refine r_opg (t_gt rfl) ⟨rfl, k_I _ _, trivial⟩ ?_
      refine r_op (t_pickT rfl) ⟨rfl, rfl, trivial⟩ ?_
      refine r_op (t_fa (off := 0) (k := 0) rfl tyF33_0) ⟨rfl, trivial⟩ ?_
      refine r_op0 (t_s 1 rfl rfl rfl tyO4.s) ⟨rfl, rfl, trivial⟩ ?_
      refine r_nil (r_next (r_seq (r_drawH (HsL [fun G15 => [⟨some b9, 1, 33, 2, 1, (GInt.e x11)⟩, ⟨some b8, 1, 33, 2, 1, ([pB (decide (0 < (x12.d.length : Int)))] ++ [pS cI x12.d])⟩, ⟨some b4, 1, 33, 2, 1, ([pB false] ++ [pS cI ([] : List Int)])⟩, ⟨some b3, 1, 33, 2, 1, ([pB false] ++ [pS cI ([] : List Int)])⟩, ⟨some b2, 1, 33, 2, 1, (GInt.e a1)⟩, ⟨some b1, 1, 33, 2, 1, (GInt.e a0)⟩], fun G15 => [⟨some b9, 1, 33, 2, 1, (GInt.e x11)⟩, ⟨some b8, 1, 33, 2, 1, ([pB (decide (0 < (x12.d.length : Int)))] ++ [pS cI x12.d])⟩, ⟨some b4, 1, 33, 2, 1, ([pB false] ++ [pS cI ([] : List Int)])⟩, ⟨some b3, 1, 33, 2, 1, ([pB (decide (0 < (x12.d.length : Int)))] ++ [pS cI x12.d])⟩, ⟨some b2, 1, 33, 2, 1, (GInt.e a1)⟩, ⟨some b1, 1, 33, 2, 1, (GInt.e a0)⟩]]) [2] [0, 0, 1, 7] 3 1 [.v (.va ([pB (decide (0 < (x12.d.length : Int)))] ++ [pS cI x12.d])), .v (.va (GInt.e x11)), .g (fun _ _ => .any)] Tryz_mixed ⟨d1 0 (t_l 1 2 rfl rfl rfl rfl (.agg tyA33)) ⟨rfl, trivial⟩, ⟨rfl, .run (lo := 0) (n := 2) ⟨fun G15 A => t_l 0 2 rfl rfl rfl rfl (.agg tyA33), fun G15 A => t_l 0 2 rfl rfl rfl rfl (.agg tyA33), trivial⟩ (fun G15 => ⟨rfl, trivial⟩)⟩, ⟨rfl, .hvy 0 (fun G15 A => hv_tr (t_s 3 rfl rfl rfl tyA33.s)) (fun G15 => ⟨rfl, rfl, trivial⟩)⟩, trivial⟩ (fun bs16 G15 => ?_))))
      refine r_op0 (t_s 2 rfl rfl rfl tyA33.s) ⟨rfl, rfl, trivial⟩ ?_
      refine r_nil (r_next (r_ret (r_toR ?_)))
      obtain rfl := sm1 hF
      exact r_done1 (.inl rfl) Tryz.results139 (rv_cell 3 2 rfl rfl rfl rfl (.agg tyA33) (rv_cell 2 2 rfl rfl rfl rfl (.agg tyA33) .nil)) rfl rfl
    have hF := cnd_f h14 hF
    refine r_opn ?_
    refine r_opn ?_
    refine r_opn ?_
    refine r_opn ?_
    refine r_op (t_pickF rfl) ⟨rfl, k_B _, trivial⟩ ?_
    refine r_op (t_fa (off := 0) (k := 0) rfl tyF33_0) ⟨rfl, trivial⟩ ?_
    refine r_op0 (t_s 1 rfl rfl rfl tyO4.s) ⟨rfl, rfl, trivial⟩ ?_
    refine r_nil (r_next (r_seq (r_drawH (HsL [fun G17 => [⟨some b9, 1, 33, 2, 1, (GInt.e x11)⟩, ⟨some b8, 1, 33, 2, 1, ([pB false] ++ [pS cI x12.d])⟩, ⟨some b4, 1, 33, 2, 1, ([pB false] ++ [pS cI ([] : List Int)])⟩, ⟨some b3, 1, 33, 2, 1, ([pB false] ++ [pS cI ([] : List Int)])⟩, ⟨some b2, 1, 33, 2, 1, (GInt.e a1)⟩, ⟨some b1, 1, 33, 2, 1, (GInt.e a0)⟩], fun G17 => [⟨some b9, 1, 33, 2, 1, (GInt.e x11)⟩, ⟨some b8, 1, 33, 2, 1, ([pB false] ++ [pS cI x12.d])⟩, ⟨some b4, 1, 33, 2, 1, ([pB false] ++ [pS cI ([] : List Int)])⟩, ⟨some b3, 1, 33, 2, 1, ([pB false] ++ [pS cI x12.d])⟩, ⟨some b2, 1, 33, 2, 1, (GInt.e a1)⟩, ⟨some b1, 1, 33, 2, 1, (GInt.e a0)⟩]]) [2] [0, 0, 1, 7] 3 1 [.v (.va ([pB false] ++ [pS cI x12.d])), .v (.va (GInt.e x11)), .g (fun _ _ => .any)] Tryz_mixed ⟨d1 0 (t_l 1 2 rfl rfl rfl rfl (.agg tyA33)) ⟨rfl, trivial⟩, ⟨rfl, .run (lo := 0) (n := 2) ⟨fun G17 A => t_l 0 2 rfl rfl rfl rfl (.agg tyA33), fun G17 A => t_l 0 2 rfl rfl rfl rfl (.agg tyA33), trivial⟩ (fun G17 => ⟨rfl, trivial⟩)⟩, ⟨rfl, .hvy 0 (fun G17 A => hv_tr (t_s 3 rfl rfl rfl tyA33.s)) (fun G17 => ⟨rfl, rfl, trivial⟩)⟩, trivial⟩ (fun bs18 G17 => ?_))))
    refine r_op0 (t_s 2 rfl rfl rfl tyA33.s) ⟨rfl, rfl, trivial⟩ ?_
    refine r_nil (r_next (r_ret (r_toR ?_)))
    obtain rfl := sm1 hF
    exact r_done1 (.inl rfl) Tryz.results139 (rv_cell 3 2 rfl rfl rfl rfl (.agg tyA33) (rv_cell 2 2 rfl rfl rfl rfl (.agg tyA33) .nil)) rfl rfl
  refine r_seq (r_reg (r_op (t_fa (off := 0) (k := 0) rfl tyF33_0) ⟨rfl, trivial⟩ ?_))
  refine r_op (t_l 5 1 rfl rfl rfl rfl (.one tyO4)) ⟨rfl, trivial⟩ ?_
  refine r_mv ?_
  refine r_bool (fun h19 => ?_) (fun h19 => ?_)
  · have hF := cnd_t h19 hF
    refine r_opg (t_fa (off := 0) (k := 1) rfl tyF33_1) ⟨rfl, trivial⟩ ?_
    refine r_opg (t_l 0 1 rfl rfl rfl rfl (.one tyO22)) ⟨rfl, trivial⟩ ?_
    refine r_opg (t_ln rfl tyS22) ⟨rfl, trivial⟩ ?_
    refine r_opg (t_gt rfl) ⟨rfl, k_I _ _, trivial⟩ ?_
    refine r_op (t_pickT rfl) ⟨rfl, rfl, trivial⟩ ?_
    refine r_nil (r_next (r_if rfl (fun h20 => ?_) (fun h20 => ?_)))
    · have hF := cnd_t h20 hF
      refine r_seq (r_reg (r_op (t_fa (off := 0) (k := 1) rfl tyF33_1) ⟨rfl, trivial⟩ ?_))
      refine r_op (t_l 1 1 rfl rfl rfl rfl (.one tyO22)) ⟨rfl, trivial⟩ ?_
      refine r_op (t_bs (C := cI) (xs := [.const (.int .i64 (1))]) (ps := [.vc (pI .i64 1)]) (zs := [1]) rfl tyS22 rfl ⟨⟨trivial, rfl⟩, trivial⟩ rfl) ⟨k_I _ _, trivial⟩ ?_
      obtain ⟨v21, h22, hF⟩ := bnd hF
      refine r_op (t_call rfl (ct_integer_plus h22) rfl) ⟨rfl, rfl, trivial⟩ ?_
      obtain ⟨v23, h24, hF⟩ := bnd hF
      refine r_op (t_call rfl (ct_integer_of h24) rfl) ⟨k_B _, rfl, trivial⟩ ?_
      refine r_op0 (t_s 1 rfl rfl rfl tyA33.s) ⟨rfl, rfl, trivial⟩ ?_
      refine r_nil (r_next (r_reg (r_op (t_fa (off := 0) (k := 1) rfl tyF33_1) ⟨rfl, trivial⟩ ?_)))
      refine r_op (t_l 4 1 rfl rfl rfl rfl (.one tyO22)) ⟨rfl, trivial⟩ ?_
      refine r_op (t_fa (off := 0) (k := 1) rfl tyF33_1) ⟨rfl, trivial⟩ ?_
      refine r_op (t_l 0 1 rfl rfl rfl rfl (.one tyO22)) ⟨rfl, trivial⟩ ?_
      obtain ⟨v25, h26, hF⟩ := bnd hF
      refine r_op (t_call rfl (ct_integer_minus h26) rfl) ⟨rfl, rfl, trivial⟩ ?_
      obtain ⟨v27, h28, hF⟩ := bnd hF
      refine r_op (t_call rfl (ct_integer_of h28) rfl) ⟨k_B _, rfl, trivial⟩ ?_
      refine r_op0 (t_s 0 rfl rfl rfl tyA33.s) ⟨rfl, rfl, trivial⟩ ?_
      refine r_nil ?_
      exact r_backJ Jj13 ⟨v27, v23, hF, rfl, rfl⟩ [0, 1, 2, 3, 4, 5] rfl ⟨rfl, rfl, rfl, rfl, rfl, rfl, trivial⟩
    have hF := cnd_f h20 hF
    refine r_skip ?_
    exact r_backJ Jj13 ⟨v6.2, v6.1, hF, rfl, rfl⟩ [0, 1, 2, 3, 4, 5] rfl ⟨rfl, rfl, rfl, rfl, rfl, rfl, trivial⟩
  have hF := cnd_f h19 hF
  refine r_opn ?_
  refine r_opn ?_
  refine r_opn ?_
  refine r_opn ?_
  refine r_op (t_pickF rfl) ⟨rfl, k_B _, trivial⟩ ?_
  refine r_nil (r_next (r_ifF rfl ?_))
  refine r_skip ?_
  exact r_backJ Jj13 ⟨v6.2, v6.1, hF, rfl, rfl⟩ [0, 1, 2, 3, 4, 5] rfl ⟨rfl, rfl, rfl, rfl, rfl, rfl, trivial⟩
def F_integer_Neg (a0 : GInt) : Option GInt :=
  bif (!a0.neg) then (some (⟨(decide (0 < (a0.d.length : Int))), a0.d⟩ : GInt)) else (some (⟨false, a0.d⟩ : GInt))
theorem ct_integer_Neg {a0 : GInt} {r : GInt} (hF : F_integer_Neg a0 = some r) : Ct Tryz.prog 141 [.va (GInt.e a0)] (.va (GInt.e r)) := by
  unfold F_integer_Neg at hF
  refine ctO_intro Tryz.func141 rfl (by kernel_rfl) Tryz.ntmps141 rfl (fun w0 M0 => ?_)
  refine r_seq (r_reg (r_box rfl rfl trivial (fun b1 => ?_)))
  refine r_alloc rfl tyZ33 (fun b2 => ?_)
  refine r_nil (r_next (r_seq (r_reg (r_op (t_fa (off := 0) (k := 0) rfl tyF33_0) ⟨rfl, trivial⟩ ?_))))
  refine r_op (t_l 1 1 rfl rfl rfl rfl (.one tyO4)) ⟨rfl, trivial⟩ ?_
  refine r_op (t_not rfl) ⟨rfl, trivial⟩ ?_
  refine r_mv ?_
  refine r_bool (fun h3 => ?_) (fun h3 => ?_)
  · have hF := cnd_t h3 hF
    refine r_opg (t_fa (off := 0) (k := 1) rfl tyF33_1) ⟨rfl, trivial⟩ ?_
    refine r_opg (t_l 1 1 rfl rfl rfl rfl (.one tyO22)) ⟨rfl, trivial⟩ ?_
    refine r_opg (t_ln rfl tyS22) ⟨rfl, trivial⟩ ?_
    refine r_opg (t_gt rfl) ⟨rfl, k_I _ _, trivial⟩ ?_
    refine r_op (t_pickT rfl) ⟨rfl, rfl, trivial⟩ ?_
    refine r_op (t_fa (off := 0) (k := 0) rfl tyF33_0) ⟨rfl, trivial⟩ ?_
    refine r_op0 (t_s 1 rfl rfl rfl tyO4.s) ⟨rfl, rfl, trivial⟩ ?_
    refine r_nil (r_next (r_seq (r_reg (r_op (t_l 1 2 rfl rfl rfl rfl (.agg tyA33)) ⟨rfl, trivial⟩ ?_))))
    refine r_op0 (t_s 0 rfl rfl rfl tyA33.s) ⟨rfl, rfl, trivial⟩ ?_
    refine r_nil (r_next (r_ret (r_toR ?_)))
    obtain rfl := sm1 hF
    exact r_done1 (.inl rfl) Tryz.results141 (rv_cell 0 2 rfl rfl rfl rfl (.agg tyA33) .nil) rfl rfl
  have hF := cnd_f h3 hF
  refine r_opn ?_
  refine r_opn ?_
  refine r_opn ?_
  refine r_opn ?_
  refine r_op (t_pickF rfl) ⟨rfl, k_B _, trivial⟩ ?_
  refine r_op (t_fa (off := 0) (k := 0) rfl tyF33_0) ⟨rfl, trivial⟩ ?_
  refine r_op0 (t_s 1 rfl rfl rfl tyO4.s) ⟨rfl, rfl, trivial⟩ ?_
  refine r_nil (r_next (r_seq (r_reg (r_op (t_l 1 2 rfl rfl rfl rfl (.agg tyA33)) ⟨rfl, trivial⟩ ?_))))
  refine r_op0 (t_s 0 rfl rfl rfl tyA33.s) ⟨rfl, rfl, trivial⟩ ?_
  refine r_nil (r_next (r_ret (r_toR ?_)))
  obtain rfl := sm1 hF
  exact r_done1 (.inl rfl) Tryz.results141 (rv_cell 0 2 rfl rfl rfl rfl (.agg tyA33) .nil) rfl rfl
def F_integer_Of (a0 : Int) : Option GInt :=
  bif (decide (a0 < 0)) then ((F_integer_unsigned (decide (a0 < 0)) (wu (-(IntKind.u64.wrap a0)))).bind fun v3 => some v3) else ((F_integer_unsigned (decide (a0 < 0)) (IntKind.u64.wrap a0)).bind fun v5 => some v5)
theorem ct_integer_Of {a0 : Int} {r : GInt} (hF : F_integer_Of a0 = some r) : Ct Tryz.prog 151 [.vc (pI .i64 a0)] (.va (GInt.e r)) := by
  unfold F_integer_Of at hF
  refine ctO_intro Tryz.func151 rfl (by kernel_rfl) Tryz.ntmps151 rfl (fun w0 M0 => ?_)
  refine r_seq (r_reg (r_alloc rfl tyZ33 (fun b1 => ?_)))
  refine r_nil (r_next (r_seq (r_reg (r_mv ?_))))
  refine r_op (t_cv rfl ⟨_, Tryz.underlying3⟩ Tryz.underlying160) ⟨rfl, trivial⟩ ?_
  refine r_as ?_
  refine r_nil (r_next (r_seq (r_seq (r_reg (r_mv ?_)))))
  refine r_op (t_lt rfl) ⟨rfl, k_I _ _, trivial⟩ ?_
  refine r_nil (r_next (r_if rfl (fun h2 => ?_) (fun h2 => ?_)))
  · have hF := cnd_t h2 hF
    refine r_reg (r_mv ?_)
    refine r_op (t_uneg rfl) ⟨rfl, trivial⟩ ?_
    refine r_as ?_
    refine r_nil (r_next (r_seq (r_reg (r_mv ?_))))
    refine r_op (t_lt rfl) ⟨rfl, k_I _ _, trivial⟩ ?_
    refine r_mv ?_
    obtain ⟨v3, h4, hF⟩ := bnd hF
    refine r_op (t_call rfl (ct_integer_unsigned h4) rfl) ⟨rfl, rfl, trivial⟩ ?_
    refine r_op0 (t_s 0 rfl rfl rfl tyA33.s) ⟨rfl, rfl, trivial⟩ ?_
    refine r_nil (r_next (r_ret (r_toR ?_)))
    obtain rfl := sm1 hF
    exact r_done1 (.inl rfl) Tryz.results151 (rv_cell 0 2 rfl rfl rfl rfl (.agg tyA33) .nil) rfl rfl
  have hF := cnd_f h2 hF
  refine r_skip (r_next (r_seq (r_reg (r_mv ?_))))
  refine r_op (t_lt rfl) ⟨rfl, k_I _ _, trivial⟩ ?_
  refine r_mv ?_
  obtain ⟨v5, h6, hF⟩ := bnd hF
  refine r_op (t_call rfl (ct_integer_unsigned h6) rfl) ⟨rfl, rfl, trivial⟩ ?_
  refine r_op0 (t_s 0 rfl rfl rfl tyA33.s) ⟨rfl, rfl, trivial⟩ ?_
  refine r_nil (r_next (r_ret (r_toR ?_)))
  obtain rfl := sm1 hF
  exact r_done1 (.inl rfl) Tryz.results151 (rv_cell 0 2 rfl rfl rfl rfl (.agg tyA33) .nil) rfl rfl
def F_gantryref04_Same_j8 (K : Nat) : Option Bool :=
  some true
def F_gantryref04_Same_l7 (K : Nat) (a0 : GInt) (a1 : GInt) : Nat → Int → Option (LR Bool Unit)
  | 0, _ => none
  | k + 1, x6 => bif (decide (x6 < (a0.d.length : Int))) then ((rdL a0.d x6).bind fun v12 => (rdL a1.d x6).bind fun v14 => bif (v12 != v14) then (some (.ret false)) else ((chk (x6 + 1)).bind fun v17 => F_gantryref04_Same_l7 K a0 a1 k v17)) else (some (.go ()))
def F_gantryref04_Same (K : Nat) (a0 : GInt) (a1 : GInt) : Option Bool :=
  bif (a0.neg != a1.neg) then (some false) else (bif ((a0.d.length : Int) != (a1.d.length : Int)) then (some false) else ((F_gantryref04_Same_l7 K a0 a1 K 0).bind fun o => match o with | .ret r => some r | .go _ => F_gantryref04_Same_j8 K ))
theorem ct_gantryref04_Same {K : Nat} {a0 : GInt} {a1 : GInt} {r : Bool} (hF : F_gantryref04_Same K a0 a1 = some r) : Ct Tryz.prog 152 [.va (GInt.e a0), .va (GInt.e a1)] (.vc (pB r)) := by
  unfold F_gantryref04_Same at hF
  refine ctO_intro Tryz.func152 rfl (by kernel_rfl) Tryz.ntmps152 rfl (fun w0 M0 => ?_)
  refine r_seq (r_reg (r_box rfl rfl trivial (fun b1 => ?_)))
  refine r_box rfl rfl trivial (fun b2 => ?_)
  refine r_op (t_mv (.inr rfl)) ⟨k_B _, trivial⟩ ?_
  refine r_nil (r_next (r_seq (r_seq (r_reg (r_op (t_fa (off := 0) (k := 0) rfl tyF33_0) ⟨rfl, trivial⟩ ?_)))))
  refine r_op (t_l 1 1 rfl rfl rfl rfl (.one tyO4)) ⟨rfl, trivial⟩ ?_
  refine r_op (t_fa (off := 0) (k := 0) rfl tyF33_0) ⟨rfl, trivial⟩ ?_
  refine r_op (t_l 0 1 rfl rfl rfl rfl (.one tyO4)) ⟨rfl, trivial⟩ ?_
  refine r_op (t_neB rfl Tryz.underlying4) ⟨rfl, rfl, trivial⟩ ?_
  refine r_mv ?_
  refine r_bool (fun h3 => ?_) (fun h3 => ?_)
  · have hF := cnd_t h3 hF
    refine r_opn ?_
    refine r_opn ?_
    refine r_opn ?_
    refine r_opn ?_
    refine r_opn ?_
    refine r_opn ?_
    refine r_opn ?_
    refine r_op (t_pickT rfl) ⟨rfl, k_B _, trivial⟩ ?_
    refine r_nil (r_next (r_ifT rfl ?_))
    refine r_seq (r_reg (r_op (t_mv (.inr rfl)) ⟨k_B _, trivial⟩ ?_))
    refine r_nil (r_next (r_ret (r_toR ?_)))
    obtain rfl := sm1 hF
    exact r_done1 (.inl rfl) Tryz.results152 (.tmp rfl .nil) rfl rfl
  have hF := cnd_f h3 hF
  refine r_opg (t_fa (off := 0) (k := 1) rfl tyF33_1) ⟨rfl, trivial⟩ ?_
  refine r_opg (t_l 1 1 rfl rfl rfl rfl (.one tyO22)) ⟨rfl, trivial⟩ ?_
  refine r_opg (t_ln rfl tyS22) ⟨rfl, trivial⟩ ?_
  refine r_opg (t_fa (off := 0) (k := 1) rfl tyF33_1) ⟨rfl, trivial⟩ ?_
  refine r_opg (t_l 0 1 rfl rfl rfl rfl (.one tyO22)) ⟨rfl, trivial⟩ ?_
  refine r_opg (t_ln rfl tyS22) ⟨rfl, trivial⟩ ?_
  refine r_opg (t_ne rfl) ⟨rfl, rfl, trivial⟩ ?_
  refine r_op (t_pickF rfl) ⟨rfl, rfl, trivial⟩ ?_
  refine r_nil (r_next (r_if rfl (fun h4 => ?_) (fun h4 => ?_)))
  · have hF := cnd_t h4 hF
    refine r_seq (r_reg (r_op (t_mv (.inr rfl)) ⟨k_B _, trivial⟩ ?_))
    refine r_nil (r_next (r_ret (r_toR ?_)))
    obtain rfl := sm1 hF
    exact r_done1 (.inl rfl) Tryz.results152 (.tmp rfl .nil) rfl rfl
  have hF := cnd_f h4 hF
  refine r_skip (r_next (r_seq (r_seq (r_reg (r_op (t_mv (.inr rfl)) ⟨k_I _ _, trivial⟩ ?_)))))
  refine r_nil (r_next (r_blk (r_cutN (fun H E => F_gantryref04_Same_j8 K = some r ∧ H = [] ∧ E = []) ?_ (fun Jj8 => ?_))))
  · rintro _ _ ⟨hF, rfl, rfl⟩
    unfold F_gantryref04_Same_j8 at hF
    refine r_next (r_seq (r_reg (r_op (t_mv (.inr rfl)) ⟨k_B _, trivial⟩ ?_)))
    refine r_nil (r_next (r_ret (r_toR ?_)))
    obtain rfl := sm1 hF
    exact r_done1 (.inl rfl) Tryz.results152 (.tmp rfl .nil) rfl rfl
  obtain ⟨ol7, hL, hRl7⟩ := bnd hF
  refine r_lp (fun k a w => ∃ (x6 : Int), F_gantryref04_Same_l7 K a0 a1 k x6 = some ol7 ∧ hs _ [⟨some b2, 1, 33, 2, 1, (GInt.e a1)⟩, ⟨some b1, 1, 33, 2, 1, (GInt.e a0)⟩] [(2, .vc (pP (some b1) 0)), (3, .vc (pP (some b2) 0)), (5, .vc (pI .i64 x6))] a w) K (fun a w ⟨_, hF, _⟩ => by cases hF) (fun k a w ⟨x6, hF, hh⟩ => r_at ?_ hh) (fun a w hh => ⟨0, hL, hs_back [0, 1] rfl (by decide) (by exact ⟨rfl, rfl, rfl, trivial⟩) hh⟩)
  rw [F_gantryref04_Same_l7.eq_2] at hF
  refine r_seq (r_seq (r_reg (r_mv ?_)))
  refine r_op (t_fa (off := 0) (k := 1) rfl tyF33_1) ⟨rfl, trivial⟩ ?_
  refine r_op (t_l 1 1 rfl rfl rfl rfl (.one tyO22)) ⟨rfl, trivial⟩ ?_
  refine r_op (t_ln rfl tyS22) ⟨rfl, trivial⟩ ?_
  refine r_op (t_lt rfl) ⟨rfl, rfl, trivial⟩ ?_
  refine r_nil (r_next (r_if rfl (fun h9 => ?_) (fun h9 => ?_)))
  · have hF := cnd_t h9 hF
    refine r_skip (r_next (r_seq (r_blk (r_seq ?_))))
    obtain ⟨v12, h13, hF⟩ := bnd hF
    obtain ⟨v14, h15, hF⟩ := bnd hF
    refine r_draw [0, 1, 0, 7, 15, 0, 32, 0, 224, 480, 1023] 11 0 [.v (.vc (pP (some b1) 1)), .v (.vc (pS cI a0.d)), .v (.vc (pI .i64 x6)), .v (.vc (pM (cI.e v12))), .v (.vc (pI .i64 v12)), .v (.vc (pP (some b2) 1)), .v (.vc (pS cI a1.d)), .v (.vc (pI .i64 x6)), .v (.vc (pM (cI.e v14))), .v (.vc (pI .i64 v14)), .v (.vc (pB (v12 != v14)))] Tryz_mixed ⟨d0 (t_fa (off := 0) (k := 1) rfl tyF33_1) ⟨rfl, trivial⟩, d0 (t_l 1 1 rfl rfl rfl rfl (.one tyO22)) ⟨rfl, trivial⟩, d0 (t_mv (.inl rfl)) ⟨rfl, trivial⟩, d0 (t_ix rfl tyS22 h13) ⟨rfl, rfl, trivial⟩, d0 (t_lM 1 rfl rfl (.one tyO3)) ⟨rfl, trivial⟩, d0 (t_fa (off := 0) (k := 1) rfl tyF33_1) ⟨rfl, trivial⟩, d0 (t_l 0 1 rfl rfl rfl rfl (.one tyO22)) ⟨rfl, trivial⟩, d0 (t_mv (.inl rfl)) ⟨rfl, trivial⟩, d0 (t_ix rfl tyS22 h15) ⟨rfl, rfl, trivial⟩, d0 (t_lM 1 rfl rfl (.one tyO3)) ⟨rfl, trivial⟩, d0 (t_ne rfl) ⟨rfl, rfl, trivial⟩, trivial⟩ (fun bs11 G10 => ?_)
    refine r_nil (r_next (r_if rfl (fun h16 => ?_) (fun h16 => ?_)))
    · have hF := cnd_t h16 hF
      refine r_seq (r_reg (r_op (t_mv (.inr rfl)) ⟨k_B _, trivial⟩ ?_))
      refine r_nil (r_next (r_ret (r_toR ?_)))
      obtain rfl := sm1 hF
      obtain rfl := sm1 hRl7
      exact r_done1 (.inl rfl) Tryz.results152 (.tmp rfl .nil) rfl rfl
    have hF := cnd_f h16 hF
    refine r_skip (r_blkN (r_next (r_reg (r_mv ?_))))
    obtain ⟨v17, h18, hF⟩ := bnd hF
    refine r_op (t_add rfl h18) ⟨rfl, k_I _ _, trivial⟩ ?_
    refine r_as ?_
    refine r_nil ?_
    exact r_round (fun a w hh => ⟨v17, hF, hs_back [0, 1] rfl (by decide) (by exact ⟨rfl, rfl, rfl, trivial⟩) hh⟩)
  have hF := cnd_f h9 hF
  refine r_brk ?_
  obtain rfl := sm1 hF
  exact r_backJ Jj8 ⟨hRl7, rfl, rfl⟩ [] rfl trivial
end Go.Proofs.YtkjnngaceacmdaaGreat
