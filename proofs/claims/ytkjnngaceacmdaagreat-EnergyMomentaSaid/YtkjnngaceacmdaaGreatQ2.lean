import Derived.Test.YtkjnngaceacmdaaGreatQ1
set_option linter.unusedVariables false
namespace Go.Proofs.YtkjnngaceacmdaaGreat
abbrev N_gantryref09_Reduced : Nat := 103
def F_gantryref09_Reduced_j51 (K : Nat) (x38 : List Int) (x44 : List (List Rat)) : Option ((List (List Rat)) × (List Int)) :=
  some (x44, x38)
def F_gantryref09_Reduced_j99 (K : Nat) (x25 : List Int) (x37 : Int) (v69 : List Rat) (recl50 : (List Int) → (List (List Rat)) → Int → Option ((List Int) × (List (List Rat)))) (x92 : List (List Rat)) : Option ((List Int) × (List (List Rat))) :=
  (rdL x92 (x25.length : Int)).bind fun v100 => (stL x92 (x25.length : Int) v69).bind fun x102 => (apL x25 [x37]).bind fun x105 => (chk (x37 + 1)).bind fun v112 => recl50 x105 x102 v112
def F_gantryref09_Reduced_l98 (K : Nat) (x37 : Int) (v69 : List Rat) : Nat → (List (List Rat)) → Int → Option (List (List Rat))
  | 0, _, _ => none
  | k + 1, x85, x91 => bif (decide (x91 < (x85.length : Int))) then ((rdL x85 x91).bind fun v117 => (rdL x85 x91).bind fun v119 => (rdL v119 x37).bind fun v121 => (F_gantryref09_less K v117 v69 v121).bind fun v123 => (rdL x85 x91).bind fun v125 => (stL x85 x91 v123).bind fun x127 => (chk (x91 + 1)).bind fun v130 => F_gantryref09_Reduced_l98 K x37 v69 k x127 v130) else (some x85)
def F_gantryref09_Reduced_j57 (K : Nat) (x25 : List Int) (x31 : List (List Rat)) (x37 : Int) (recl50 : (List Int) → (List (List Rat)) → Int → Option ((List Int) × (List (List Rat)))) (x55 : Int) : Option ((List Int) × (List (List Rat))) :=
  bif (x55 == (x31.length : Int)) then ((chk (x37 + 1)).bind fun v59 => recl50 x25 x31 v59) else ((rdL x31 x55).bind fun v63 => (rdL x31 x55).bind fun v65 => (rdL v65 x37).bind fun v67 => (F_gantryref09_over K v63 v67).bind fun v69 => (rdL x31 (x25.length : Int)).bind fun v71 => (rdL x31 x55).bind fun v73 => (stL x31 x55 v71).bind fun x75 => (F_gantryref09_Reduced_l98 K x37 v69 K x75 0).bind fun x92 => F_gantryref09_Reduced_j99 K x25 x37 v69 recl50 x92)
def F_gantryref09_Reduced_l56 (K : Nat) (x31 : List (List Rat)) (x37 : Int) : Nat → Int → Option Int
  | 0, _ => none
  | k + 1, x54 => bif (decide (x54 < (x31.length : Int))) then ((chk ((x31.length : Int) - 1)).bind fun v133 => (rdL x31 (min x54 v133)).bind fun v135 => (rdL v135 x37).bind fun v137 => (qsgn v137).bind fun v139 => bif (v139 == 0) then ((chk (x54 + 1)).bind fun v142 => F_gantryref09_Reduced_l56 K x31 x37 k v142) else (some x54)) else (some x54)
def F_gantryref09_Reduced_l50 (K : Nat) (a1 : Int) : Nat → (List Int) → (List (List Rat)) → Int → Option ((List Int) × (List (List Rat)))
  | 0, _, _, _ => none
  | k + 1, x25, x31, x37 => bif (decide (x37 < a1)) then ((F_gantryref09_Reduced_l56 K x31 x37 K (x25.length : Int)).bind fun x55 => F_gantryref09_Reduced_j57 K x25 x31 x37 (F_gantryref09_Reduced_l50 K a1 k) x55) else (some (x25, x31))
def F_gantryref09_Reduced (K : Nat) (a0 : List (List Rat)) (a1 : Int) : Option ((List (List Rat)) × (List Int)) :=
  (apL ([] : List (List Rat)) a0).bind fun x3 => (F_gantryref09_Reduced_l50 K a1 K ([] : List Int) x3 0).bind fun (x38, x44) => F_gantryref09_Reduced_j51 K x38 x44
set_option maxRecDepth 100000 in
theorem ct_gantryref09_Reduced {K : Nat} {a0 : List (List Rat)} {a1 : Int} {r : (List (List Rat)) × (List Int)} (hF : F_gantryref09_Reduced K a0 a1 = some r) : Ct Tryz.prog 103 [.vc (pS (cSl cQ) a0), .vc (pI .i64 a1)] (.t2 (.vc (pS (cSl cQ) r.1)) (.vc (pS cI r.2))) := by
  unfold F_gantryref09_Reduced at hF
  refine ctO_intro Tryz.func103 rfl (by kernel_rfl) Tryz.ntmps103 rfl (fun w0 M0 => ?_)
  refine r_seq (r_reg (r_op (t_mv (.inr rfl)) ⟨k_nil (cSl cQ), trivial⟩ ?_))
  refine r_op (t_mv (.inr rfl)) ⟨k_nil cI, trivial⟩ ?_
  refine r_nil (r_next (r_seq (r_reg (r_nilO (cSl cQ) 24 rfl ?_))))
  refine r_nil (r_next (r_seq (r_reg (r_mv ?_))))
  refine r_mv ?_
  obtain ⟨x3, h4, hF⟩ := bnd hF
  refine r_app 0 rfl tyS47 rfl rfl rfl rfl rfl h4 (fun b5 c6 H7 e8 => ?_)
  cases e8
  refine r_as ?_
  refine r_nil (r_next (r_seq (r_reg (r_nilO cI 3 rfl ?_))))
  refine r_nil (r_next (r_seq (r_seq (r_reg (r_op (t_mv (.inr rfl)) ⟨k_I _ _, trivial⟩ ?_)))))
  refine r_nil (r_next (r_blk (r_cutN (fun H E => ∃ (x38 : List Int), ∃ (x44 : List (List Rat)), ∃ (b39 : Option Nat), ∃ (c40 : Nat), ∃ (n41 : Nat), ∃ (b45 : Option Nat), ∃ (c46 : Nat), ∃ (n47 : Nat), F_gantryref09_Reduced_j51 K x38 x44 = some r ∧ x38.length = n41 ∧ x44.length = n47 ∧ H = [hO cI b39 c40 3 n41 x38, hO (cSl cQ) b45 c46 24 n47 x44] ∧ E = [(6, .vc (pO b45 n47 c46)), (7, .vc (pO b39 n41 c40))]) ?_ (fun Jj51 => ?_))))
  · rintro _ _ ⟨x38, x44, b39, c40, n41, b45, c46, n47, hF, q42, q48, rfl, rfl⟩
    unfold F_gantryref09_Reduced_j51 at hF
    refine r_next (r_seq (r_reg (r_mv ?_)))
    refine r_mv ?_
    refine r_as ?_
    refine r_as ?_
    refine r_nil (r_next (r_ret (r_toR (r_fzX 1 [4, 6, 98] rfl q48 ⟨rfl, rfl, rfl, trivial⟩ rfl ?_))))
    refine r_fzX 0 [5, 7, 99] rfl q42 ⟨rfl, rfl, rfl, trivial⟩ rfl ?_
    obtain rfl := sm1 hF
    exact r_done1 (.inl rfl) Tryz.results103 (.tmp rfl (.tmp rfl .nil)) rfl rfl
  · skip
    obtain ⟨⟨x38', x44'⟩, hL, hRl50⟩ := bnd hF
    refine r_lp (fun k a w => ∃ (x25 : List Int), ∃ (x31 : List (List Rat)), ∃ (x37 : Int), ∃ (b26 : Option Nat), ∃ (c27 : Nat), ∃ (n28 : Nat), ∃ (b32 : Option Nat), ∃ (c33 : Nat), ∃ (n34 : Nat), F_gantryref09_Reduced_l50 K a1 k x25 x31 x37 = some (x38', x44') ∧ x25.length = n28 ∧ x31.length = n34 ∧ hs _ [hO cI b26 c27 3 n28 x25, hO (cSl cQ) b32 c33 24 n34 x31] [(1, .vc (pI .i64 a1)), (6, .vc (pO b32 n34 c33)), (7, .vc (pO b26 n28 c27)), (8, .vc (pI .i64 x37))] a w) K (fun a w ⟨_, _, _, _, _, _, _, _, _, hF, _, _, _⟩ => by cases hF) (fun k a w ⟨x25, x31, x37, b26, c27, n28, b32, c33, n34, hF, q29, q35, hh⟩ => r_at ?_ hh) (fun a w hh => ⟨([] : List Int), x3, 0, none, 0, 0, b5, c6, (0 + a0.length), hL, rfl, (apL_len h4 rfl), hs_back [0, 1] rfl (by decide) (by exact ⟨rfl, rfl, rfl, rfl, trivial⟩) hh⟩)
    rw [F_gantryref09_Reduced_l50.eq_2] at hF
    refine r_seq (r_seq (r_reg (r_mv ?_)))
    refine r_mv ?_
    refine r_op (t_lt rfl) ⟨rfl, rfl, trivial⟩ ?_
    refine r_nil (r_next (r_if rfl (fun h52 => ?_) (fun h52 => ?_)))
    · have hF := cnd_t h52 hF
      refine r_skip (r_next (r_seq (r_blk (r_seq (r_reg (r_mv ?_))))))
      refine r_op (t_lnE (C := cI) (xs := x25) (T := 3) rfl tyS22 q29) ⟨rfl, trivial⟩ ?_
      refine r_as ?_
      refine r_nil (r_next (r_seq (r_reg (r_mv ?_))))
      refine r_as ?_
      refine r_nil (r_next (r_seq (r_blk (r_cutN (fun H E => ∃ (x55 : Int), F_gantryref09_Reduced_j57 K x25 x31 x37 (F_gantryref09_Reduced_l50 K a1 k) x55 = some (x38', x44') ∧ H = [hO cI b26 c27 3 n28 x25, hO (cSl cQ) b32 c33 24 n34 x31] ∧ E = [(1, .vc (pI .i64 a1)), (6, .vc (pO b32 n34 c33)), (7, .vc (pO b26 n28 c27)), (8, .vc (pI .i64 x37)), (9, .vc (pI .i64 (x25.length : Int))), (10, .vc (pI .i64 x55))]) ?_ (fun Jj57 => ?_)))))
      · rintro _ _ ⟨x55, hF, rfl, rfl⟩
        unfold F_gantryref09_Reduced_j57 at hF
        refine r_next (r_seq (r_seq (r_reg (r_mv ?_))))
        refine r_mv ?_
        refine r_op (t_lnE (C := (cSl cQ)) (xs := x31) (T := 24) rfl tyS47 q35) ⟨rfl, trivial⟩ ?_
        refine r_op (t_eq rfl) ⟨rfl, rfl, trivial⟩ ?_
        refine r_nil (r_next (r_if rfl (fun h58 => ?_) (fun h58 => ?_)))
        · have hF := cnd_t h58 hF
          refine r_brk (r_next (r_reg (r_mv ?_)))
          obtain ⟨v59, h60, hF⟩ := bnd hF
          refine r_op (t_add rfl h60) ⟨rfl, k_I _ _, trivial⟩ ?_
          refine r_as ?_
          refine r_nil ?_
          exact r_round (fun a w hh => ⟨x25, x31, v59, b26, c27, n28, b32, c33, n34, hF, q29, q35, hs_back [0, 1] rfl (by decide) (by exact ⟨rfl, rfl, rfl, rfl, trivial⟩) hh⟩)
        · have hF := cnd_f h58 hF
          refine r_skip (r_next (r_seq ?_))
          obtain ⟨v63, h64, hF⟩ := bnd hF
          obtain ⟨v65, h66, hF⟩ := bnd hF
          obtain ⟨v67, h68, hF⟩ := bnd hF
          obtain ⟨v69, h70, hF⟩ := bnd hF
          refine r_draw [0, 0, 3, 7, 0, 0, 48, 112, 0, 496, 1008, 2047, 4095] 13 0 [.v (.vc (pO b32 n34 c33)), .v (.vc (pI .i64 x55)), .v (.vc (pE b32 x55 (cSl cQ).n 0)), .v (.vc (pS cQ v63)), .v (.vc (pO b32 n34 c33)), .v (.vc (pI .i64 x55)), .v (.vc (pE b32 x55 (cSl cQ).n 0)), .v (.vc (pS cQ v65)), .v (.vc (pI .i64 x37)), .v (.vc (pM (cQ.e v67))), .v (.va (eQ v67)), .v (.vc (pS cQ v69)), .v (.vc (pS cQ v69))] Tryz_mixed ⟨⟨rfl, .run (lo := 0) (n := 1) ⟨fun G61 A => t_mv (.inl rfl), trivial⟩ (fun G61 => ⟨rfl, trivial⟩)⟩, ⟨rfl, .run (lo := 0) (n := 1) ⟨fun G61 A => t_mv (.inl rfl), trivial⟩ (fun G61 => ⟨rfl, trivial⟩)⟩, ⟨rfl, .run (lo := 0) (n := 1) ⟨fun G61 A => t_ixE (C := (cSl cQ)) 1 rfl tyS47 rfl q35 (rdL_some h64).1 (rdL_some h64).2.1, trivial⟩ (fun G61 => ⟨rfl, rfl, trivial⟩)⟩, ⟨rfl, .run (lo := 0) (n := 1) ⟨fun G61 A => t_ldE (k := 1) 1 rfl rfl h64 rfl (.one tyO24) rfl, trivial⟩ (fun G61 => ⟨rfl, trivial⟩)⟩, ⟨rfl, .run (lo := 0) (n := 1) ⟨fun G61 A => t_mv (.inl rfl), trivial⟩ (fun G61 => ⟨rfl, trivial⟩)⟩, ⟨rfl, .run (lo := 0) (n := 1) ⟨fun G61 A => t_mv (.inl rfl), trivial⟩ (fun G61 => ⟨rfl, trivial⟩)⟩, ⟨rfl, .run (lo := 0) (n := 1) ⟨fun G61 A => t_ixE (C := (cSl cQ)) 1 rfl tyS47 rfl q35 (rdL_some h66).1 (rdL_some h66).2.1, trivial⟩ (fun G61 => ⟨rfl, rfl, trivial⟩)⟩, ⟨rfl, .run (lo := 0) (n := 1) ⟨fun G61 A => t_ldE (k := 1) 1 rfl rfl h66 rfl (.one tyO24) rfl, trivial⟩ (fun G61 => ⟨rfl, trivial⟩)⟩, ⟨rfl, .run (lo := 0) (n := 1) ⟨fun G61 A => t_mv (.inl rfl), trivial⟩ (fun G61 => ⟨rfl, trivial⟩)⟩, ⟨rfl, .run (lo := 0) (n := 1) ⟨fun G61 A => t_ix rfl tyS24 h68, trivial⟩ (fun G61 => ⟨rfl, rfl, trivial⟩)⟩, ⟨rfl, .run (lo := 0) (n := 1) ⟨fun G61 A => t_lM 4 rfl rfl (.agg tyA35), trivial⟩ (fun G61 => ⟨rfl, trivial⟩)⟩, ⟨rfl, .run (lo := 0) (n := 1) ⟨fun G61 A => t_call rfl (ct_gantryref09_over h70) rfl, trivial⟩ (fun G61 => ⟨rfl, rfl, trivial⟩)⟩, ⟨rfl, .run (lo := 0) (n := 1) ⟨fun G61 A => t_mv (.inr rfl), trivial⟩ (fun G61 => ⟨rfl, trivial⟩)⟩, trivial⟩ (fun bs62 G61 => ?_)
          refine r_nil (r_next (r_seq (r_reg (r_mv ?_))))
          refine r_mv ?_
          refine r_mv ?_
          refine r_mv ?_
          obtain ⟨v71, h72, hF⟩ := bnd hF
          refine r_op (t_ixE (C := (cSl cQ)) 1 rfl tyS47 rfl q35 (rdL_some h72).1 (rdL_some h72).2.1) ⟨rfl, rfl, trivial⟩ ?_
          refine r_op (t_ldE (k := 1) 1 rfl rfl h72 rfl (.one tyO24) rfl) ⟨rfl, trivial⟩ ?_
          obtain ⟨v73, h74, hF⟩ := bnd hF
          refine r_op (t_ixE (C := (cSl cQ)) 1 rfl tyS47 rfl q35 (rdL_some h74).1 (rdL_some h74).2.1) ⟨rfl, rfl, trivial⟩ ?_
          obtain ⟨x75, h76, hF⟩ := bnd hF
          refine r_op0 (t_stE 1 rfl rfl h74 h76 tyO24.s) ⟨rfl, rfl, trivial⟩ ?_
          refine r_nil (r_next (r_seq (r_seq (r_reg (r_op (t_mv (.inr rfl)) ⟨k_I _ _, trivial⟩ ?_)))))
          refine r_nil (r_next (r_blk (r_cutN (fun H E => ∃ (x92 : List (List Rat)), ∃ (b93 : Option Nat), ∃ (c94 : Nat), ∃ (n95 : Nat), F_gantryref09_Reduced_j99 K x25 x37 v69 (F_gantryref09_Reduced_l50 K a1 k) x92 = some (x38', x44') ∧ x92.length = n95 ∧ H = [hO cI b26 c27 3 n28 x25, hO (cSl cQ) b93 c94 24 n95 x92] ∧ E = [(1, .vc (pI .i64 a1)), (6, .vc (pO b93 n95 c94)), (7, .vc (pO b26 n28 c27)), (8, .vc (pI .i64 x37)), (9, .vc (pI .i64 (x25.length : Int))), (11, .vc (pS cQ v69))]) ?_ (fun Jj99 => ?_))))
          · rintro _ _ ⟨x92, b93, c94, n95, hF, q96, rfl, rfl⟩
            unfold F_gantryref09_Reduced_j99 at hF
            refine r_next (r_seq (r_reg (r_mv ?_)))
            refine r_mv ?_
            refine r_mv ?_
            obtain ⟨v100, h101, hF⟩ := bnd hF
            refine r_op (t_ixE (C := (cSl cQ)) 1 rfl tyS47 rfl q96 (rdL_some h101).1 (rdL_some h101).2.1) ⟨rfl, rfl, trivial⟩ ?_
            obtain ⟨x102, h103, hF⟩ := bnd hF
            refine r_op0 (t_stE 1 rfl rfl h101 h103 tyO24.s) ⟨rfl, rfl, trivial⟩ ?_
            refine r_nil (r_next (r_reg (r_mv ?_)))
            refine r_mv ?_
            refine r_op (t_bs (C := cI) (xs := [.tmp 95]) (ps := [.vc (pI .i64 x37)]) (zs := [x37]) rfl tyS22 rfl ⟨⟨trivial, rfl⟩, trivial⟩ rfl) ⟨rfl, trivial⟩ ?_
            obtain ⟨x105, h106, hF⟩ := bnd hF
            refine r_app 0 rfl tyS22 rfl rfl q29 rfl rfl h106 (fun b107 c108 H109 e110 => ?_)
            cases e110
            refine r_as ?_
            refine r_nil (r_blkN (r_next (r_reg (r_mv ?_))))
            obtain ⟨v112, h113, hF⟩ := bnd hF
            refine r_op (t_add rfl h113) ⟨rfl, k_I _ _, trivial⟩ ?_
            refine r_as ?_
            refine r_nil ?_
            exact r_round (fun a w hh => ⟨x105, x102, v112, b107, c108, (n28 + [x37].length), b93, c94, n95, hF, (apL_len h106 q29), (stL_len h103 q96), hs_back [0, 1] rfl (by decide) (by exact ⟨rfl, rfl, rfl, rfl, trivial⟩) hh⟩)
          · skip
            obtain ⟨x92', hL, hRl98⟩ := bnd hF
            refine r_lp (fun k a w => ∃ (x85 : List (List Rat)), ∃ (x91 : Int), ∃ (b86 : Option Nat), ∃ (c87 : Nat), ∃ (n88 : Nat), F_gantryref09_Reduced_l98 K x37 v69 k x85 x91 = some x92' ∧ x85.length = n88 ∧ hs _ [hO cI b26 c27 3 n28 x25, hO (cSl cQ) b86 c87 24 n88 x85] [(1, .vc (pI .i64 a1)), (6, .vc (pO b86 n88 c87)), (7, .vc (pO b26 n28 c27)), (8, .vc (pI .i64 x37)), (9, .vc (pI .i64 (x25.length : Int))), (11, .vc (pS cQ v69)), (12, .vc (pI .i64 x91))] a w) K (fun a w ⟨_, _, _, _, _, hF, _, _⟩ => by cases hF) (fun k a w ⟨x85, x91, b86, c87, n88, hF, q89, hh⟩ => r_at ?_ hh) (fun a w hh => ⟨x75, 0, b32, c33, n34, hL, (stL_len h76 q35), hs_back [0, 1] rfl (by decide) (by exact ⟨rfl, rfl, rfl, rfl, rfl, rfl, rfl, trivial⟩) hh⟩)
            rw [F_gantryref09_Reduced_l98.eq_2] at hF
            refine r_seq (r_seq (r_reg (r_mv ?_)))
            refine r_mv ?_
            refine r_op (t_lnE (C := (cSl cQ)) (xs := x85) (T := 24) rfl tyS47 q89) ⟨rfl, trivial⟩ ?_
            refine r_op (t_lt rfl) ⟨rfl, rfl, trivial⟩ ?_
            refine r_nil (r_next (r_if rfl (fun h114 => ?_) (fun h114 => ?_)))
            · have hF := cnd_t h114 hF
              refine r_skip (r_next (r_seq (r_blk ?_)))
              obtain ⟨v117, h118, hF⟩ := bnd hF
              obtain ⟨v119, h120, hF⟩ := bnd hF
              obtain ⟨v121, h122, hF⟩ := bnd hF
              obtain ⟨v123, h124, hF⟩ := bnd hF
              obtain ⟨v125, h126, hF⟩ := bnd hF
              refine r_draw [0, 0, 0, 0, 12, 28, 0, 0, 0, 384, 896, 0, 3968, 8064, 16380, 32767, 65535] 16 1 [.v (.vc (pO b86 n88 c87)), .v (.vc (pI .i64 x91)), .v (.vc (pO b86 n88 c87)), .v (.vc (pI .i64 x91)), .v (.vc (pE b86 x91 (cSl cQ).n 0)), .v (.vc (pS cQ v117)), .v (.vc (pS cQ v69)), .v (.vc (pO b86 n88 c87)), .v (.vc (pI .i64 x91)), .v (.vc (pE b86 x91 (cSl cQ).n 0)), .v (.vc (pS cQ v119)), .v (.vc (pI .i64 x37)), .v (.vc (pM (cQ.e v121))), .v (.va (eQ v121)), .v (.vc (pS cQ v123)), .v (.vc (pE b86 x91 (cSl cQ).n 0))] Tryz_mixed ⟨⟨rfl, .run (lo := 0) (n := 1) ⟨fun G115 A => t_mv (.inl rfl), trivial⟩ (fun G115 => ⟨rfl, trivial⟩)⟩, ⟨rfl, .run (lo := 0) (n := 1) ⟨fun G115 A => t_mv (.inl rfl), trivial⟩ (fun G115 => ⟨rfl, trivial⟩)⟩, ⟨rfl, .run (lo := 0) (n := 1) ⟨fun G115 A => t_mv (.inl rfl), trivial⟩ (fun G115 => ⟨rfl, trivial⟩)⟩, ⟨rfl, .run (lo := 0) (n := 1) ⟨fun G115 A => t_mv (.inl rfl), trivial⟩ (fun G115 => ⟨rfl, trivial⟩)⟩, ⟨rfl, .run (lo := 0) (n := 1) ⟨fun G115 A => t_ixE (C := (cSl cQ)) 1 rfl tyS47 rfl q89 (rdL_some h118).1 (rdL_some h118).2.1, trivial⟩ (fun G115 => ⟨rfl, rfl, trivial⟩)⟩, ⟨rfl, .run (lo := 0) (n := 1) ⟨fun G115 A => t_ldE (k := 1) 1 rfl rfl h118 rfl (.one tyO24) rfl, trivial⟩ (fun G115 => ⟨rfl, trivial⟩)⟩, ⟨rfl, .run (lo := 0) (n := 1) ⟨fun G115 A => t_mv (.inl rfl), trivial⟩ (fun G115 => ⟨rfl, trivial⟩)⟩, ⟨rfl, .run (lo := 0) (n := 1) ⟨fun G115 A => t_mv (.inl rfl), trivial⟩ (fun G115 => ⟨rfl, trivial⟩)⟩, ⟨rfl, .run (lo := 0) (n := 1) ⟨fun G115 A => t_mv (.inl rfl), trivial⟩ (fun G115 => ⟨rfl, trivial⟩)⟩, ⟨rfl, .run (lo := 0) (n := 1) ⟨fun G115 A => t_ixE (C := (cSl cQ)) 1 rfl tyS47 rfl q89 (rdL_some h120).1 (rdL_some h120).2.1, trivial⟩ (fun G115 => ⟨rfl, rfl, trivial⟩)⟩, ⟨rfl, .run (lo := 0) (n := 1) ⟨fun G115 A => t_ldE (k := 1) 1 rfl rfl h120 rfl (.one tyO24) rfl, trivial⟩ (fun G115 => ⟨rfl, trivial⟩)⟩, ⟨rfl, .run (lo := 0) (n := 1) ⟨fun G115 A => t_mv (.inl rfl), trivial⟩ (fun G115 => ⟨rfl, trivial⟩)⟩, ⟨rfl, .run (lo := 0) (n := 1) ⟨fun G115 A => t_ix rfl tyS24 h122, trivial⟩ (fun G115 => ⟨rfl, rfl, trivial⟩)⟩, ⟨rfl, .run (lo := 0) (n := 1) ⟨fun G115 A => t_lM 4 rfl rfl (.agg tyA35), trivial⟩ (fun G115 => ⟨rfl, trivial⟩)⟩, ⟨rfl, .run (lo := 0) (n := 1) ⟨fun G115 A => t_call rfl (ct_gantryref09_less h124) rfl, trivial⟩ (fun G115 => ⟨rfl, rfl, rfl, trivial⟩)⟩, ⟨rfl, .run (lo := 0) (n := 1) ⟨fun G115 A => t_ixE (C := (cSl cQ)) 1 rfl tyS47 rfl q89 (rdL_some h126).1 (rdL_some h126).2.1, trivial⟩ (fun G115 => ⟨rfl, rfl, trivial⟩)⟩, trivial⟩ (fun bs116 G115 => ?_)
              obtain ⟨x127, h128, hF⟩ := bnd hF
              refine r_op0 (t_stE 1 rfl rfl h126 h128 tyO24.s) ⟨rfl, rfl, trivial⟩ ?_
              refine r_nil (r_blkN (r_next (r_reg (r_mv ?_))))
              obtain ⟨v130, h131, hF⟩ := bnd hF
              refine r_op (t_add rfl h131) ⟨rfl, k_I _ _, trivial⟩ ?_
              refine r_as ?_
              refine r_nil ?_
              exact r_round (fun a w hh => ⟨x127, v130, b86, c87, n88, hF, (stL_len h128 q89), hs_back [0, 1] rfl (by decide) (by exact ⟨rfl, rfl, rfl, rfl, rfl, rfl, rfl, trivial⟩) hh⟩)
            · have hF := cnd_f h114 hF
              refine r_brk ?_
              obtain rfl := sm1 hF
              exact r_backJ Jj99 ⟨x85, b86, c87, n88, hRl98, q89, rfl, rfl⟩ [0, 1] rfl ⟨rfl, rfl, rfl, rfl, rfl, rfl, trivial⟩
      · skip
        obtain ⟨x55', hL, hRl56⟩ := bnd hF
        refine r_lp (fun k a w => ∃ (x54 : Int), F_gantryref09_Reduced_l56 K x31 x37 k x54 = some x55' ∧ hs _ [hO cI b26 c27 3 n28 x25, hO (cSl cQ) b32 c33 24 n34 x31] [(1, .vc (pI .i64 a1)), (6, .vc (pO b32 n34 c33)), (7, .vc (pO b26 n28 c27)), (8, .vc (pI .i64 x37)), (9, .vc (pI .i64 (x25.length : Int))), (10, .vc (pI .i64 x54))] a w) K (fun a w ⟨_, hF, _⟩ => by cases hF) (fun k a w ⟨x54, hF, hh⟩ => r_at ?_ hh) (fun a w hh => ⟨(x25.length : Int), hL, hs_back [0, 1] rfl (by decide) (by exact ⟨rfl, rfl, rfl, rfl, rfl, rfl, trivial⟩) hh⟩)
        rw [F_gantryref09_Reduced_l56.eq_2] at hF
        refine r_seq (r_seq (r_reg (r_mv ?_)))
        refine r_mv ?_
        refine r_op (t_lnE (C := (cSl cQ)) (xs := x31) (T := 24) rfl tyS47 q35) ⟨rfl, trivial⟩ ?_
        refine r_op (t_lt rfl) ⟨rfl, rfl, trivial⟩ ?_
        refine r_mv ?_
        refine r_bool (fun h132 => ?_) (fun h132 => ?_)
        · have hF := cnd_t h132 hF
          refine r_opg (t_mv (.inl rfl)) ⟨rfl, trivial⟩ ?_
          refine r_opg (t_mv (.inl rfl)) ⟨rfl, trivial⟩ ?_
          refine r_opg (t_mv (.inl rfl)) ⟨rfl, trivial⟩ ?_
          refine r_opg (t_lnE (C := (cSl cQ)) (xs := x31) (T := 24) rfl tyS47 q35) ⟨rfl, trivial⟩ ?_
          obtain ⟨v133, h134, hF⟩ := bnd hF
          refine r_opg (t_sub rfl h134) ⟨rfl, k_I _ _, trivial⟩ ?_
          refine r_opg (t_min rfl) ⟨rfl, rfl, trivial⟩ ?_
          obtain ⟨v135, h136, hF⟩ := bnd hF
          refine r_opg (t_ixE (C := (cSl cQ)) 1 rfl tyS47 rfl q35 (rdL_some h136).1 (rdL_some h136).2.1) ⟨rfl, rfl, trivial⟩ ?_
          refine r_opg (t_ldE (k := 1) 1 rfl rfl h136 rfl (.one tyO24) rfl) ⟨rfl, trivial⟩ ?_
          refine r_opg (t_mv (.inl rfl)) ⟨rfl, trivial⟩ ?_
          obtain ⟨v137, h138, hF⟩ := bnd hF
          refine r_opg (t_ix rfl tyS24 h138) ⟨rfl, rfl, trivial⟩ ?_
          refine r_opg (t_lM 4 rfl rfl (.agg tyA35)) ⟨rfl, trivial⟩ ?_
          obtain ⟨v139, h140, hF⟩ := bnd hF
          refine r_opg (t_call rfl (qc_gantryref05_Sign h140) rfl) ⟨rfl, trivial⟩ ?_
          refine r_opg (t_eq rfl) ⟨rfl, k_I _ _, trivial⟩ ?_
          refine r_op (t_pickT rfl) ⟨rfl, rfl, trivial⟩ ?_
          refine r_nil (r_next (r_if rfl (fun h141 => ?_) (fun h141 => ?_)))
          · have hF := cnd_t h141 hF
            refine r_skip (r_next (r_blk (r_reg (r_mv ?_))))
            obtain ⟨v142, h143, hF⟩ := bnd hF
            refine r_op (t_add rfl h143) ⟨rfl, k_I _ _, trivial⟩ ?_
            refine r_as ?_
            refine r_nil (r_blkN ?_)
            exact r_round (fun a w hh => ⟨v142, hF, hs_back [0, 1] rfl (by decide) (by exact ⟨rfl, rfl, rfl, rfl, rfl, rfl, trivial⟩) hh⟩)
          · have hF := cnd_f h141 hF
            refine r_brk ?_
            obtain rfl := sm1 hF
            exact r_backJ Jj57 ⟨x54, hRl56, rfl, rfl⟩ [0, 1] rfl ⟨rfl, rfl, rfl, rfl, rfl, rfl, trivial⟩
        · have hF := cnd_f h132 hF
          refine r_opn ?_
          refine r_opn ?_
          refine r_opn ?_
          refine r_opn ?_
          refine r_opn ?_
          refine r_opn ?_
          refine r_opn ?_
          refine r_opn ?_
          refine r_opn ?_
          refine r_opn ?_
          refine r_opn ?_
          refine r_opn ?_
          refine r_opn ?_
          refine r_op (t_pickF rfl) ⟨rfl, k_B _, trivial⟩ ?_
          refine r_nil (r_next (r_ifF rfl ?_))
          refine r_brk ?_
          obtain rfl := sm1 hF
          exact r_backJ Jj57 ⟨x54, hRl56, rfl, rfl⟩ [0, 1] rfl ⟨rfl, rfl, rfl, rfl, rfl, rfl, trivial⟩
    · have hF := cnd_f h52 hF
      refine r_brk ?_
      obtain ⟨rfl, rfl⟩ := sm2 hF
      exact r_backJ Jj51 ⟨x25, x31, b26, c27, n28, b32, c33, n34, hRl50, q29, q35, rfl, rfl⟩ [0, 1] rfl ⟨rfl, rfl, trivial⟩

abbrev N_gantryref09_has : Nat := 113
def F_gantryref09_has_j4 (K : Nat) : Option Bool :=
  some false
def F_gantryref09_has_l3 (K : Nat) (a0 : List Int) (a1 : Int) : Nat → Int → Option (LR Bool Unit)
  | 0, _ => none
  | k + 1, x2 => bif (decide (x2 < (a0.length : Int))) then ((rdL a0 x2).bind fun v6 => bif (v6 == a1) then (some (.ret true)) else ((chk (x2 + 1)).bind fun v9 => F_gantryref09_has_l3 K a0 a1 k v9)) else (some (.go ()))
def F_gantryref09_has (K : Nat) (a0 : List Int) (a1 : Int) : Option Bool :=
  (F_gantryref09_has_l3 K a0 a1 K 0).bind fun o => match o with | .ret r => some r | .go _ => F_gantryref09_has_j4 K 
set_option maxRecDepth 100000 in
theorem ct_gantryref09_has {K : Nat} {a0 : List Int} {a1 : Int} {r : Bool} (hF : F_gantryref09_has K a0 a1 = some r) : Ct Tryz.prog 113 [.vc (pS cI a0), .vc (pI .i64 a1)] (.vc (pB r)) := by
  unfold F_gantryref09_has at hF
  refine ctO_intro Tryz.func113 rfl (by kernel_rfl) Tryz.ntmps113 rfl (fun w0 M0 => ?_)
  refine r_seq (r_reg (r_op (t_mv (.inr rfl)) ⟨k_B _, trivial⟩ ?_))
  refine r_nil (r_next (r_seq (r_seq (r_reg (r_op (t_mv (.inr rfl)) ⟨k_I _ _, trivial⟩ ?_)))))
  refine r_nil (r_next (r_blk (r_cutN (fun H E => F_gantryref09_has_j4 K = some r ∧ H = [] ∧ E = []) ?_ (fun Jj4 => ?_))))
  · rintro _ _ ⟨hF, rfl, rfl⟩
    unfold F_gantryref09_has_j4 at hF
    refine r_next (r_seq (r_reg (r_op (t_mv (.inr rfl)) ⟨k_B _, trivial⟩ ?_)))
    refine r_nil (r_next (r_ret (r_toR ?_)))
    obtain rfl := sm1 hF
    exact r_done1 (.inl rfl) Tryz.results113 (.tmp rfl .nil) rfl rfl
  · skip
    obtain ⟨ol3, hL, hRl3⟩ := bnd hF
    refine r_lp (fun k a w => ∃ (x2 : Int), F_gantryref09_has_l3 K a0 a1 k x2 = some ol3 ∧ hs _ [] [(0, .vc (pS cI a0)), (1, .vc (pI .i64 a1)), (5, .vc (pI .i64 x2))] a w) K (fun a w ⟨_, hF, _⟩ => by cases hF) (fun k a w ⟨x2, hF, hh⟩ => r_at ?_ hh) (fun a w hh => ⟨0, hL, hs_back [] rfl (by decide) (by exact ⟨rfl, rfl, rfl, trivial⟩) hh⟩)
    rw [F_gantryref09_has_l3.eq_2] at hF
    refine r_seq (r_seq (r_reg (r_mv ?_)))
    refine r_mv ?_
    refine r_op (t_ln rfl tyS22) ⟨rfl, trivial⟩ ?_
    refine r_op (t_lt rfl) ⟨rfl, rfl, trivial⟩ ?_
    refine r_nil (r_next (r_if rfl (fun h5 => ?_) (fun h5 => ?_)))
    · have hF := cnd_t h5 hF
      refine r_skip (r_next (r_seq (r_blk (r_seq (r_reg (r_mv ?_))))))
      refine r_mv ?_
      obtain ⟨v6, h7, hF⟩ := bnd hF
      refine r_op (t_ix rfl tyS22 h7) ⟨rfl, rfl, trivial⟩ ?_
      refine r_op (t_lM 1 rfl rfl (.one tyO3)) ⟨rfl, trivial⟩ ?_
      refine r_mv ?_
      refine r_op (t_eq rfl) ⟨rfl, rfl, trivial⟩ ?_
      refine r_nil (r_next (r_if rfl (fun h8 => ?_) (fun h8 => ?_)))
      · have hF := cnd_t h8 hF
        refine r_seq (r_reg (r_op (t_mv (.inr rfl)) ⟨k_B _, trivial⟩ ?_))
        refine r_nil (r_next (r_ret (r_toR ?_)))
        obtain rfl := sm1 hF
        obtain rfl := sm1 hRl3
        exact r_done1 (.inl rfl) Tryz.results113 (.tmp rfl .nil) rfl rfl
      · have hF := cnd_f h8 hF
        refine r_skip (r_blkN (r_next (r_reg (r_mv ?_))))
        obtain ⟨v9, h10, hF⟩ := bnd hF
        refine r_op (t_add rfl h10) ⟨rfl, k_I _ _, trivial⟩ ?_
        refine r_as ?_
        refine r_nil ?_
        exact r_round (fun a w hh => ⟨v9, hF, hs_back [] rfl (by decide) (by exact ⟨rfl, rfl, rfl, trivial⟩) hh⟩)
    · have hF := cnd_f h5 hF
      refine r_brk ?_
      obtain rfl := sm1 hF
      exact r_backJ Jj4 ⟨hRl3, rfl, rfl⟩ [] rfl trivial

abbrev N_gantryref09_Kernel : Nat := 51
def F_gantryref09_Kernel_j28 (K : Nat) (x21 : List (List Rat)) : Option (List (List Rat)) :=
  some x21
def F_gantryref09_Kernel_j68 (K : Nat) (x14 : List (List Rat)) (x20 : Int) (recl27 : (List (List Rat)) → Int → Option (List (List Rat))) (x61 : List Rat) : Option (List (List Rat)) :=
  (apL x14 [x61]).bind fun x69 => (chk (x20 + 1)).bind fun v76 => recl27 x69 v76
def F_gantryref09_Kernel_l67 (K : Nat) (v3 : (List (List Rat)) × (List Int)) (x20 : Int) : Nat → (List Rat) → Int → Option (List Rat)
  | 0, _, _ => none
  | k + 1, x54, x60 => bif (decide (x60 < (v3.2.length : Int))) then ((rdL v3.2 x60).bind fun v81 => (rdL v3.1 x60).bind fun v83 => (rdL v83 x20).bind fun v85 => (qneg v85).bind fun v87 => (rdL x54 v81).bind fun v89 => (stL x54 v81 v87).bind fun x91 => (chk (x60 + 1)).bind fun v94 => F_gantryref09_Kernel_l67 K v3 x20 k x91 v94) else (some x54)
def F_gantryref09_Kernel_l27 (K : Nat) (v1 : Int) (v3 : (List (List Rat)) × (List Int)) : Nat → (List (List Rat)) → Int → Option (List (List Rat))
  | 0, _, _ => none
  | k + 1, x14, x20 => bif (decide (x20 < v1)) then ((F_gantryref09_has K v3.2 x20).bind fun v30 => bif v30 then ((chk (x20 + 1)).bind fun v33 => F_gantryref09_Kernel_l27 K v1 v3 k x14 v33) else ((mkL v1 0).bind fun x35 => (qof 1 1).bind fun v40 => (rdL x35 x20).bind fun v42 => (stL x35 x20 v40).bind fun x44 => (F_gantryref09_Kernel_l67 K v3 x20 K x44 0).bind fun x61 => F_gantryref09_Kernel_j68 K x14 x20 (F_gantryref09_Kernel_l27 K v1 v3 k) x61)) else (some x14)
def F_gantryref09_Kernel (K : Nat) (a0 : List (List Rat)) : Option (List (List Rat)) :=
  (F_gantryref09_Cols a0).bind fun v1 => (F_gantryref09_Reduced K a0 v1).bind fun v3 => (F_gantryref09_Kernel_l27 K v1 v3 K ([] : List (List Rat)) 0).bind fun x21 => F_gantryref09_Kernel_j28 K x21
set_option maxRecDepth 100000 in
theorem ct_gantryref09_Kernel {K : Nat} {a0 : List (List Rat)} {r : List (List Rat)} (hF : F_gantryref09_Kernel K a0 = some r) : Ct Tryz.prog 51 [.vc (pS (cSl cQ) a0)] (.vc (pS (cSl cQ) r)) := by
  unfold F_gantryref09_Kernel at hF
  refine ctO_intro Tryz.func51 rfl (by kernel_rfl) Tryz.ntmps51 rfl (fun w0 M0 => ?_)
  refine r_seq (r_reg (r_op (t_mv (.inr rfl)) ⟨k_nil (cSl cQ), trivial⟩ ?_))
  refine r_nil (r_next (r_seq (r_reg (r_mv ?_))))
  obtain ⟨v1, h2, hF⟩ := bnd hF
  refine r_op (t_call rfl (ct_gantryref09_Cols h2) rfl) ⟨rfl, trivial⟩ ?_
  refine r_as ?_
  refine r_nil (r_next (r_seq (r_reg (r_mv ?_))))
  refine r_mv ?_
  obtain ⟨v3, h4, hF⟩ := bnd hF
  refine r_op (t_call rfl (ct_gantryref09_Reduced h4) rfl) ⟨rfl, rfl, trivial⟩ ?_
  refine r_mv ?_
  refine r_op (t_ext2a rfl) ⟨rfl, trivial⟩ ?_
  refine r_op (t_ext2b rfl) ⟨rfl, trivial⟩ ?_
  refine r_as ?_
  refine r_as ?_
  refine r_nil (r_next (r_seq (r_reg (r_nilO (cSl cQ) 24 rfl ?_))))
  refine r_nil (r_next (r_seq (r_seq (r_reg (r_op (t_mv (.inr rfl)) ⟨k_I _ _, trivial⟩ ?_)))))
  refine r_nil (r_next (r_blk (r_cutN (fun H E => ∃ (x21 : List (List Rat)), ∃ (b22 : Option Nat), ∃ (c23 : Nat), ∃ (n24 : Nat), F_gantryref09_Kernel_j28 K x21 = some r ∧ x21.length = n24 ∧ H = [hO (cSl cQ) b22 c23 24 n24 x21] ∧ E = [(6, .vc (pO b22 n24 c23))]) ?_ (fun Jj28 => ?_))))
  · rintro _ _ ⟨x21, b22, c23, n24, hF, q25, rfl, rfl⟩
    unfold F_gantryref09_Kernel_j28 at hF
    refine r_next (r_seq (r_reg (r_mv ?_)))
    refine r_as ?_
    refine r_nil (r_next (r_ret (r_toR (r_fzX 0 [2, 6, 56] rfl q25 ⟨rfl, rfl, rfl, trivial⟩ rfl ?_))))
    obtain rfl := sm1 hF
    exact r_done1 (.inl rfl) Tryz.results51 (.tmp rfl .nil) rfl rfl
  · skip
    obtain ⟨x21', hL, hRl27⟩ := bnd hF
    refine r_lp (fun k a w => ∃ (x14 : List (List Rat)), ∃ (x20 : Int), ∃ (b15 : Option Nat), ∃ (c16 : Nat), ∃ (n17 : Nat), F_gantryref09_Kernel_l27 K v1 v3 k x14 x20 = some x21' ∧ x14.length = n17 ∧ hs _ [hO (cSl cQ) b15 c16 24 n17 x14] [(3, .vc (pI .i64 v1)), (4, .vc (pS (cSl cQ) v3.1)), (5, .vc (pS cI v3.2)), (6, .vc (pO b15 n17 c16)), (7, .vc (pI .i64 x20))] a w) K (fun a w ⟨_, _, _, _, _, hF, _, _⟩ => by cases hF) (fun k a w ⟨x14, x20, b15, c16, n17, hF, q18, hh⟩ => r_at ?_ hh) (fun a w hh => ⟨([] : List (List Rat)), 0, none, 0, 0, hL, rfl, hs_back [0] rfl (by decide) (by exact ⟨rfl, rfl, rfl, rfl, rfl, trivial⟩) hh⟩)
    rw [F_gantryref09_Kernel_l27.eq_2] at hF
    refine r_seq (r_seq (r_reg (r_mv ?_)))
    refine r_mv ?_
    refine r_op (t_lt rfl) ⟨rfl, rfl, trivial⟩ ?_
    refine r_nil (r_next (r_if rfl (fun h29 => ?_) (fun h29 => ?_)))
    · have hF := cnd_t h29 hF
      refine r_skip (r_next (r_seq (r_blk (r_seq (r_seq (r_reg (r_mv ?_)))))))
      refine r_mv ?_
      obtain ⟨v30, h31, hF⟩ := bnd hF
      refine r_op (t_call rfl (ct_gantryref09_has h31) rfl) ⟨rfl, rfl, trivial⟩ ?_
      refine r_nil (r_next (r_if rfl (fun h32 => ?_) (fun h32 => ?_)))
      · have hF := cnd_t h32 hF
        refine r_brk (r_next (r_reg (r_mv ?_)))
        obtain ⟨v33, h34, hF⟩ := bnd hF
        refine r_op (t_add rfl h34) ⟨rfl, k_I _ _, trivial⟩ ?_
        refine r_as ?_
        refine r_nil ?_
        exact r_round (fun a w hh => ⟨x14, v33, b15, c16, n17, hF, q18, hs_back [0] rfl (by decide) (by exact ⟨rfl, rfl, rfl, rfl, rfl, trivial⟩) hh⟩)
      · have hF := cnd_f h32 hF
        refine r_skip (r_next (r_seq (r_reg (r_mv ?_))))
        obtain ⟨x35, h36, hF⟩ := bnd hF
        refine r_make (C := cQ) rfl tyS24 rfl tyZ35q rfl h36 (fun b37 => ?_)
        refine r_as ?_
        refine r_nil (r_next (r_seq (r_reg (r_mv ?_))))
        refine r_mv ?_
        obtain ⟨v40, h41, hF⟩ := bnd hF
        refine r_op (t_call rfl (qc_gantryref05_Of h41) rfl) ⟨k_I _ _, k_I _ _, trivial⟩ ?_
        obtain ⟨v42, h43, hF⟩ := bnd hF
        refine r_op (t_ixE (C := cQ) 0 rfl tyS24 rfl rfl (rdL_some h43).1 (rdL_some h43).2.1) ⟨rfl, rfl, trivial⟩ ?_
        obtain ⟨x44, h45, hF⟩ := bnd hF
        refine r_op0 (t_stE 0 rfl rfl h43 h45 tyA35.s) ⟨rfl, rfl, trivial⟩ ?_
        refine r_nil (r_next (r_seq (r_seq (r_reg (r_op (t_mv (.inr rfl)) ⟨k_I _ _, trivial⟩ ?_)))))
        refine r_nil (r_next (r_blk (r_cutN (fun H E => ∃ (x61 : List Rat), ∃ (b62 : Option Nat), ∃ (c63 : Nat), ∃ (n64 : Nat), F_gantryref09_Kernel_j68 K x14 x20 (F_gantryref09_Kernel_l27 K v1 v3 k) x61 = some x21' ∧ x61.length = n64 ∧ H = [hO cQ b62 c63 35 n64 x61, hO (cSl cQ) b15 c16 24 n17 x14] ∧ E = [(3, .vc (pI .i64 v1)), (4, .vc (pS (cSl cQ) v3.1)), (5, .vc (pS cI v3.2)), (6, .vc (pO b15 n17 c16)), (7, .vc (pI .i64 x20)), (8, .vc (pO b62 n64 c63))]) ?_ (fun Jj68 => ?_))))
        · rintro _ _ ⟨x61, b62, c63, n64, hF, q65, rfl, rfl⟩
          unfold F_gantryref09_Kernel_j68 at hF
          refine r_next (r_reg (r_mv ?_))
          refine r_mv ?_
          refine r_fzL 0 [8, 53] rfl q65 ⟨rfl, rfl, trivial⟩ rfl ?_
          refine r_op (t_bs (C := (cSl cQ)) (xs := [.tmp 53]) (ps := [.vc (pS cQ x61)]) (zs := [x61]) rfl tyS47 rfl ⟨⟨trivial, rfl⟩, trivial⟩ rfl) ⟨rfl, trivial⟩ ?_
          obtain ⟨x69, h70, hF⟩ := bnd hF
          refine r_app 0 rfl tyS47 rfl rfl q18 rfl rfl h70 (fun b71 c72 H73 e74 => ?_)
          cases e74
          refine r_as ?_
          refine r_nil (r_blkN (r_next (r_reg (r_mv ?_))))
          obtain ⟨v76, h77, hF⟩ := bnd hF
          refine r_op (t_add rfl h77) ⟨rfl, k_I _ _, trivial⟩ ?_
          refine r_as ?_
          refine r_nil ?_
          exact r_round (fun a w hh => ⟨x69, v76, b71, c72, (n17 + [x61].length), hF, (apL_len h70 q18), hs_back [0] rfl (by decide) (by exact ⟨rfl, rfl, rfl, rfl, rfl, trivial⟩) hh⟩)
        · skip
          obtain ⟨x61', hL, hRl67⟩ := bnd hF
          refine r_lp (fun k a w => ∃ (x54 : List Rat), ∃ (x60 : Int), ∃ (b55 : Option Nat), ∃ (c56 : Nat), ∃ (n57 : Nat), F_gantryref09_Kernel_l67 K v3 x20 k x54 x60 = some x61' ∧ x54.length = n57 ∧ hs _ [hO cQ b55 c56 35 n57 x54, hO (cSl cQ) b15 c16 24 n17 x14] [(3, .vc (pI .i64 v1)), (4, .vc (pS (cSl cQ) v3.1)), (5, .vc (pS cI v3.2)), (6, .vc (pO b15 n17 c16)), (7, .vc (pI .i64 x20)), (8, .vc (pO b55 n57 c56)), (9, .vc (pI .i64 x60))] a w) K (fun a w ⟨_, _, _, _, _, hF, _, _⟩ => by cases hF) (fun k a w ⟨x54, x60, b55, c56, n57, hF, q58, hh⟩ => r_at ?_ hh) (fun a w hh => ⟨x44, 0, b37, x35.length, x35.length, hL, (stL_len h45 rfl), hs_back [0, 1] rfl (by decide) (by exact ⟨rfl, rfl, rfl, rfl, rfl, rfl, rfl, trivial⟩) hh⟩)
          rw [F_gantryref09_Kernel_l67.eq_2] at hF
          refine r_seq (r_seq (r_reg (r_mv ?_)))
          refine r_mv ?_
          refine r_op (t_ln rfl tyS22) ⟨rfl, trivial⟩ ?_
          refine r_op (t_lt rfl) ⟨rfl, rfl, trivial⟩ ?_
          refine r_nil (r_next (r_if rfl (fun h78 => ?_) (fun h78 => ?_)))
          · have hF := cnd_t h78 hF
            refine r_skip (r_next (r_seq (r_blk ?_)))
            obtain ⟨v81, h82, hF⟩ := bnd hF
            obtain ⟨v83, h84, hF⟩ := bnd hF
            obtain ⟨v85, h86, hF⟩ := bnd hF
            obtain ⟨v87, h88, hF⟩ := bnd hF
            obtain ⟨v89, h90, hF⟩ := bnd hF
            refine r_draw [0, 0, 0, 6, 14, 0, 0, 96, 224, 0, 992, 2016, 4064, 8191, 16383] 14 1 [.v (.vc (pO b55 n57 c56)), .v (.vc (pS cI v3.2)), .v (.vc (pI .i64 x60)), .v (.vc (pM (cI.e v81))), .v (.vc (pI .i64 v81)), .v (.vc (pS (cSl cQ) v3.1)), .v (.vc (pI .i64 x60)), .v (.vc (pM ((cSl cQ).e v83))), .v (.vc (pS cQ v83)), .v (.vc (pI .i64 x20)), .v (.vc (pM (cQ.e v85))), .v (.va (eQ v85)), .v (.va (eQ v87)), .v (.vc (pE b55 v81 cQ.n 0))] Tryz_mixed ⟨⟨rfl, .run (lo := 0) (n := 1) ⟨fun G79 A => t_mv (.inl rfl), trivial⟩ (fun G79 => ⟨rfl, trivial⟩)⟩, ⟨rfl, .run (lo := 0) (n := 1) ⟨fun G79 A => t_mv (.inl rfl), trivial⟩ (fun G79 => ⟨rfl, trivial⟩)⟩, ⟨rfl, .run (lo := 0) (n := 1) ⟨fun G79 A => t_mv (.inl rfl), trivial⟩ (fun G79 => ⟨rfl, trivial⟩)⟩, ⟨rfl, .run (lo := 0) (n := 1) ⟨fun G79 A => t_ix rfl tyS22 h82, trivial⟩ (fun G79 => ⟨rfl, rfl, trivial⟩)⟩, ⟨rfl, .run (lo := 0) (n := 1) ⟨fun G79 A => t_lM 1 rfl rfl (.one tyO3), trivial⟩ (fun G79 => ⟨rfl, trivial⟩)⟩, ⟨rfl, .run (lo := 0) (n := 1) ⟨fun G79 A => t_mv (.inl rfl), trivial⟩ (fun G79 => ⟨rfl, trivial⟩)⟩, ⟨rfl, .run (lo := 0) (n := 1) ⟨fun G79 A => t_mv (.inl rfl), trivial⟩ (fun G79 => ⟨rfl, trivial⟩)⟩, ⟨rfl, .run (lo := 0) (n := 1) ⟨fun G79 A => t_ix rfl tyS47 h84, trivial⟩ (fun G79 => ⟨rfl, rfl, trivial⟩)⟩, ⟨rfl, .run (lo := 0) (n := 1) ⟨fun G79 A => t_lM 1 rfl rfl (.one tyO24), trivial⟩ (fun G79 => ⟨rfl, trivial⟩)⟩, ⟨rfl, .run (lo := 0) (n := 1) ⟨fun G79 A => t_mv (.inl rfl), trivial⟩ (fun G79 => ⟨rfl, trivial⟩)⟩, ⟨rfl, .run (lo := 0) (n := 1) ⟨fun G79 A => t_ix rfl tyS24 h86, trivial⟩ (fun G79 => ⟨rfl, rfl, trivial⟩)⟩, ⟨rfl, .run (lo := 0) (n := 1) ⟨fun G79 A => t_lM 4 rfl rfl (.agg tyA35), trivial⟩ (fun G79 => ⟨rfl, trivial⟩)⟩, ⟨rfl, .run (lo := 0) (n := 1) ⟨fun G79 A => t_call rfl (qc_gantryref05_Neg h88) rfl, trivial⟩ (fun G79 => ⟨rfl, trivial⟩)⟩, ⟨rfl, .run (lo := 0) (n := 1) ⟨fun G79 A => t_ixE (C := cQ) 0 rfl tyS24 rfl q58 (rdL_some h90).1 (rdL_some h90).2.1, trivial⟩ (fun G79 => ⟨rfl, rfl, trivial⟩)⟩, trivial⟩ (fun bs80 G79 => ?_)
            obtain ⟨x91, h92, hF⟩ := bnd hF
            refine r_op0 (t_stE 0 rfl rfl h90 h92 tyA35.s) ⟨rfl, rfl, trivial⟩ ?_
            refine r_nil (r_blkN (r_next (r_reg (r_mv ?_))))
            obtain ⟨v94, h95, hF⟩ := bnd hF
            refine r_op (t_add rfl h95) ⟨rfl, k_I _ _, trivial⟩ ?_
            refine r_as ?_
            refine r_nil ?_
            exact r_round (fun a w hh => ⟨x91, v94, b55, c56, n57, hF, (stL_len h92 q58), hs_back [0, 1] rfl (by decide) (by exact ⟨rfl, rfl, rfl, rfl, rfl, rfl, rfl, trivial⟩) hh⟩)
          · have hF := cnd_f h78 hF
            refine r_brk ?_
            obtain rfl := sm1 hF
            exact r_backJ Jj68 ⟨x54, b55, c56, n57, hRl67, q58, rfl, rfl⟩ [0, 1] rfl ⟨rfl, rfl, rfl, rfl, rfl, rfl, trivial⟩
    · have hF := cnd_f h29 hF
      refine r_brk ?_
      obtain rfl := sm1 hF
      exact r_backJ Jj28 ⟨x14, b15, c16, n17, hRl27, q18, rfl, rfl⟩ [0] rfl ⟨rfl, trivial⟩

abbrev N_gantryref21_factors : Nat := 134
def F_gantryref21_factors_j27 (K : Nat) (x20 : List Rat) : Option (List Rat) :=
  some x20
def F_gantryref21_factors_l26 (K : Nat) (a0 : List api_Term) : Nat → (List Rat) → Int → Option (List Rat)
  | 0, _, _ => none
  | k + 1, x13, x19 => bif (decide (x19 < (a0.length : Int))) then ((rdL a0 x19).bind fun v31 => (rdL a0 x19).bind fun v33 => (rdL x13 v33.dof).bind fun v35 => (rdL a0 x19).bind fun v37 => (qadd v35 v37.k).bind fun v39 => (rdL x13 v31.dof).bind fun v41 => (stL x13 v31.dof v39).bind fun x43 => (chk (x19 + 1)).bind fun v46 => F_gantryref21_factors_l26 K a0 k x43 v46) else (some x13)
def F_gantryref21_factors (K : Nat) (a0 : List api_Term) (a1 : Int) : Option (List Rat) :=
  (mkL a1 0).bind fun x1 => (F_gantryref21_factors_l26 K a0 K x1 0).bind fun x20 => F_gantryref21_factors_j27 K x20
set_option maxRecDepth 100000 in
theorem ct_gantryref21_factors {K : Nat} {a0 : List api_Term} {a1 : Int} {r : List Rat} (hF : F_gantryref21_factors K a0 a1 = some r) : Ct Tryz.prog 134 [.vc (pS api_Term.cod a0), .vc (pI .i64 a1)] (.vc (pS cQ r)) := by
  unfold F_gantryref21_factors at hF
  refine ctO_intro Tryz.func134 rfl (by kernel_rfl) Tryz.ntmps134 rfl (fun w0 M0 => ?_)
  refine r_seq (r_reg (r_op (t_mv (.inr rfl)) ⟨k_nil cQ, trivial⟩ ?_))
  refine r_nil (r_next (r_seq (r_reg (r_mv ?_))))
  obtain ⟨x1, h2, hF⟩ := bnd hF
  refine r_make (C := cQ) rfl tyS24 rfl tyZ35q rfl h2 (fun b3 => ?_)
  refine r_as ?_
  refine r_nil (r_next (r_seq (r_seq (r_reg (r_op (t_mv (.inr rfl)) ⟨k_I _ _, trivial⟩ ?_)))))
  refine r_nil (r_next (r_blk (r_cutN (fun H E => ∃ (x20 : List Rat), ∃ (b21 : Option Nat), ∃ (c22 : Nat), ∃ (n23 : Nat), F_gantryref21_factors_j27 K x20 = some r ∧ x20.length = n23 ∧ H = [hO cQ b21 c22 35 n23 x20] ∧ E = [(5, .vc (pO b21 n23 c22))]) ?_ (fun Jj27 => ?_))))
  · rintro _ _ ⟨x20, b21, c22, n23, hF, q24, rfl, rfl⟩
    unfold F_gantryref21_factors_j27 at hF
    refine r_next (r_seq (r_reg (r_mv ?_)))
    refine r_as ?_
    refine r_nil (r_next (r_ret (r_toR (r_fzX 0 [4, 5, 36] rfl q24 ⟨rfl, rfl, rfl, trivial⟩ rfl ?_))))
    obtain rfl := sm1 hF
    exact r_done1 (.inl rfl) Tryz.results134 (.tmp rfl .nil) rfl rfl
  · skip
    obtain ⟨x20', hL, hRl26⟩ := bnd hF
    refine r_lp (fun k a w => ∃ (x13 : List Rat), ∃ (x19 : Int), ∃ (b14 : Option Nat), ∃ (c15 : Nat), ∃ (n16 : Nat), F_gantryref21_factors_l26 K a0 k x13 x19 = some x20' ∧ x13.length = n16 ∧ hs _ [hO cQ b14 c15 35 n16 x13] [(0, .vc (pS api_Term.cod a0)), (5, .vc (pO b14 n16 c15)), (6, .vc (pI .i64 x19))] a w) K (fun a w ⟨_, _, _, _, _, hF, _, _⟩ => by cases hF) (fun k a w ⟨x13, x19, b14, c15, n16, hF, q17, hh⟩ => r_at ?_ hh) (fun a w hh => ⟨x1, 0, b3, x1.length, x1.length, hL, rfl, hs_back [0] rfl (by decide) (by exact ⟨rfl, rfl, rfl, trivial⟩) hh⟩)
    rw [F_gantryref21_factors_l26.eq_2] at hF
    refine r_seq (r_seq (r_reg (r_mv ?_)))
    refine r_mv ?_
    refine r_op (t_ln rfl tyS29) ⟨rfl, trivial⟩ ?_
    refine r_op (t_lt rfl) ⟨rfl, rfl, trivial⟩ ?_
    refine r_nil (r_next (r_if rfl (fun h28 => ?_) (fun h28 => ?_)))
    · have hF := cnd_t h28 hF
      refine r_skip (r_next (r_seq (r_blk ?_)))
      obtain ⟨v31, h32, hF⟩ := bnd hF
      obtain ⟨v33, h34, hF⟩ := bnd hF
      obtain ⟨v35, h36, hF⟩ := bnd hF
      obtain ⟨v37, h38, hF⟩ := bnd hF
      obtain ⟨v39, h40, hF⟩ := bnd hF
      obtain ⟨v41, h42, hF⟩ := bnd hF
      refine r_draw [0, 0, 0, 6, 14, 30, 0, 0, 0, 384, 896, 1920, 4032, 8128, 0, 0, 49152, 114688, 245760, 524224, 1048575, 2097151] 21 1 [.v (.vc (pO b14 n16 c15)), .v (.vc (pS api_Term.cod a0)), .v (.vc (pI .i64 x19)), .v (.vc (pM (api_Term.cod.e v31))), .v (.vc (pM (api_Term.cod.e v31))), .v (.vc (pI .i64 v31.dof)), .v (.vc (pO b14 n16 c15)), .v (.vc (pS api_Term.cod a0)), .v (.vc (pI .i64 x19)), .v (.vc (pM (api_Term.cod.e v33))), .v (.vc (pM (api_Term.cod.e v33))), .v (.vc (pI .i64 v33.dof)), .v (.vc (pE b14 v33.dof cQ.n 0)), .v (.va (eQ v35)), .v (.vc (pS api_Term.cod a0)), .v (.vc (pI .i64 x19)), .v (.vc (pM (api_Term.cod.e v37))), .v (.vc (pM ((api_Term.cod.e v37).drop 1))), .v (.va (eQ v37.k)), .v (.va (eQ v39)), .v (.vc (pE b14 v31.dof cQ.n 0))] Tryz_mixed ⟨⟨rfl, .run (lo := 0) (n := 1) ⟨fun G29 A => t_mv (.inl rfl), trivial⟩ (fun G29 => ⟨rfl, trivial⟩)⟩, ⟨rfl, .run (lo := 0) (n := 1) ⟨fun G29 A => t_mv (.inl rfl), trivial⟩ (fun G29 => ⟨rfl, trivial⟩)⟩, ⟨rfl, .run (lo := 0) (n := 1) ⟨fun G29 A => t_mv (.inl rfl), trivial⟩ (fun G29 => ⟨rfl, trivial⟩)⟩, ⟨rfl, .run (lo := 0) (n := 1) ⟨fun G29 A => t_ix rfl tyS29 h32, trivial⟩ (fun G29 => ⟨rfl, rfl, trivial⟩)⟩, ⟨rfl, .run (lo := 0) (n := 1) ⟨fun G29 A => t_faM (ps := (api_Term.cod.e v31)) (k := 0) rfl tyF38_0, trivial⟩ (fun G29 => ⟨rfl, trivial⟩)⟩, ⟨rfl, .run (lo := 0) (n := 1) ⟨fun G29 A => t_lM 1 rfl rfl (.one tyO3), trivial⟩ (fun G29 => ⟨rfl, trivial⟩)⟩, ⟨rfl, .run (lo := 0) (n := 1) ⟨fun G29 A => t_mv (.inl rfl), trivial⟩ (fun G29 => ⟨rfl, trivial⟩)⟩, ⟨rfl, .run (lo := 0) (n := 1) ⟨fun G29 A => t_mv (.inl rfl), trivial⟩ (fun G29 => ⟨rfl, trivial⟩)⟩, ⟨rfl, .run (lo := 0) (n := 1) ⟨fun G29 A => t_mv (.inl rfl), trivial⟩ (fun G29 => ⟨rfl, trivial⟩)⟩, ⟨rfl, .run (lo := 0) (n := 1) ⟨fun G29 A => t_ix rfl tyS29 h34, trivial⟩ (fun G29 => ⟨rfl, rfl, trivial⟩)⟩, ⟨rfl, .run (lo := 0) (n := 1) ⟨fun G29 A => t_faM (ps := (api_Term.cod.e v33)) (k := 0) rfl tyF38_0, trivial⟩ (fun G29 => ⟨rfl, trivial⟩)⟩, ⟨rfl, .run (lo := 0) (n := 1) ⟨fun G29 A => t_lM 1 rfl rfl (.one tyO3), trivial⟩ (fun G29 => ⟨rfl, trivial⟩)⟩, ⟨rfl, .run (lo := 0) (n := 1) ⟨fun G29 A => t_ixE (C := cQ) 0 rfl tyS24 rfl q17 (rdL_some h36).1 (rdL_some h36).2.1, trivial⟩ (fun G29 => ⟨rfl, rfl, trivial⟩)⟩, ⟨rfl, .run (lo := 0) (n := 1) ⟨fun G29 A => t_ldE (k := 4) 0 rfl rfl h36 rfl (.agg tyA35) rfl, trivial⟩ (fun G29 => ⟨rfl, trivial⟩)⟩, ⟨rfl, .run (lo := 0) (n := 1) ⟨fun G29 A => t_mv (.inl rfl), trivial⟩ (fun G29 => ⟨rfl, trivial⟩)⟩, ⟨rfl, .run (lo := 0) (n := 1) ⟨fun G29 A => t_mv (.inl rfl), trivial⟩ (fun G29 => ⟨rfl, trivial⟩)⟩, ⟨rfl, .run (lo := 0) (n := 1) ⟨fun G29 A => t_ix rfl tyS29 h38, trivial⟩ (fun G29 => ⟨rfl, rfl, trivial⟩)⟩, ⟨rfl, .run (lo := 0) (n := 1) ⟨fun G29 A => t_faM (ps := (api_Term.cod.e v37)) (k := 1) rfl tyF38_1, trivial⟩ (fun G29 => ⟨rfl, trivial⟩)⟩, ⟨rfl, .run (lo := 0) (n := 1) ⟨fun G29 A => t_lM 4 rfl rfl (.agg tyA35), trivial⟩ (fun G29 => ⟨rfl, trivial⟩)⟩, ⟨rfl, .run (lo := 0) (n := 1) ⟨fun G29 A => t_call rfl (qc_gantryref05_Add h40) rfl, trivial⟩ (fun G29 => ⟨rfl, rfl, trivial⟩)⟩, ⟨rfl, .run (lo := 0) (n := 1) ⟨fun G29 A => t_ixE (C := cQ) 0 rfl tyS24 rfl q17 (rdL_some h42).1 (rdL_some h42).2.1, trivial⟩ (fun G29 => ⟨rfl, rfl, trivial⟩)⟩, trivial⟩ (fun bs30 G29 => ?_)
      obtain ⟨x43, h44, hF⟩ := bnd hF
      refine r_op0 (t_stE 0 rfl rfl h42 h44 tyA35.s) ⟨rfl, rfl, trivial⟩ ?_
      refine r_nil (r_blkN (r_next (r_reg (r_mv ?_))))
      obtain ⟨v46, h47, hF⟩ := bnd hF
      refine r_op (t_add rfl h47) ⟨rfl, k_I _ _, trivial⟩ ?_
      refine r_as ?_
      refine r_nil ?_
      exact r_round (fun a w hh => ⟨x43, v46, b14, c15, n16, hF, (stL_len h44 q17), hs_back [0] rfl (by decide) (by exact ⟨rfl, rfl, rfl, trivial⟩) hh⟩)
    · have hF := cnd_f h28 hF
      refine r_brk ?_
      obtain rfl := sm1 hF
      exact r_backJ Jj27 ⟨x13, b14, c15, n16, hRl26, q17, rfl, rfl⟩ [0] rfl ⟨rfl, trivial⟩

abbrev N_gantryref21_Matrix : Nat := 79
def F_gantryref21_Matrix_j30 (K : Nat) (x23 : List (List Rat)) : Option ((List (List Rat)) × Bool) :=
  some (x23, true)
def F_gantryref21_Matrix_l29 (K : Nat) (a0 : Int) (a1 : List api_Row) : Nat → (List (List Rat)) → Int → Option (LR ((List (List Rat)) × Bool) (List (List Rat)))
  | 0, _, _ => none
  | k + 1, x16, x22 => bif (decide (x22 < (a1.length : Int))) then ((rdL a1 x22).bind fun v32 => (F_gantryref21_within K v32.j a0).bind fun v34 => bif (!v34) then (some (.ret ([], false))) else ((rdL a1 x22).bind fun v37 => (F_gantryref21_within K v37.t a0).bind fun v39 => bif (!v39) then (some (.ret ([], false))) else ((rdL a1 x22).bind fun v42 => (F_gantryref21_factors K v42.j a0).bind fun v44 => (apL x16 [v44]).bind fun x46 => (rdL a1 x22).bind fun v53 => bif (decide (0 < (v53.t.length : Int))) then ((rdL a1 x22).bind fun v56 => (F_gantryref21_factors K v56.t a0).bind fun v58 => (apL x46 [v58]).bind fun x60 => (chk (x22 + 1)).bind fun v67 => F_gantryref21_Matrix_l29 K a0 a1 k x60 v67) else ((chk (x22 + 1)).bind fun v69 => F_gantryref21_Matrix_l29 K a0 a1 k x46 v69)))) else (some (.go x16))
def F_gantryref21_Matrix (K : Nat) (a0 : Int) (a1 : List api_Row) : Option ((List (List Rat)) × Bool) :=
  (mkL a0 0).bind fun x1 => (F_gantryref21_Matrix_l29 K a0 a1 K [x1] 0).bind fun o => match o with | .ret r => some r | .go x23 => F_gantryref21_Matrix_j30 K x23
set_option maxRecDepth 100000 in
theorem ct_gantryref21_Matrix {K : Nat} {a0 : Int} {a1 : List api_Row} {r : (List (List Rat)) × Bool} (hF : F_gantryref21_Matrix K a0 a1 = some r) : Ct Tryz.prog 79 [.vc (pI .i64 a0), .vc (pS api_Row.cod a1)] (.t2 (.vc (pS (cSl cQ) r.1)) (.vc (pB r.2))) := by
  unfold F_gantryref21_Matrix at hF
  refine ctO_intro Tryz.func79 rfl (by kernel_rfl) Tryz.ntmps79 rfl (fun w0 M0 => ?_)
  refine r_seq (r_reg (r_op (t_mv (.inr rfl)) ⟨k_nil (cSl cQ), trivial⟩ ?_))
  refine r_op (t_mv (.inr rfl)) ⟨k_B _, trivial⟩ ?_
  refine r_nil (r_next (r_seq (r_reg (r_mv ?_))))
  obtain ⟨x1, h2, hF⟩ := bnd hF
  refine r_make (C := cQ) rfl tyS24 rfl tyZ35q rfl h2 (fun b3 => ?_)
  refine r_fzL 0 [9] rfl rfl ⟨rfl, trivial⟩ rfl ?_
  refine r_hv (hv_bs (C := (cSl cQ)) (xs := [.tmp 9]) (ps := [.vc (pS cQ x1)]) (zs := [x1]) rfl tyS47 rfl ⟨⟨trivial, rfl⟩, trivial⟩ rfl) ⟨rfl, trivial⟩ (fun b6 _ => ?_)
  refine r_as ?_
  refine r_nil (r_next (r_seq (r_seq (r_reg (r_op (t_mv (.inr rfl)) ⟨k_I _ _, trivial⟩ ?_)))))
  refine r_nil (r_next (r_blk (r_cutN (fun H E => ∃ (x23 : List (List Rat)), ∃ (b24 : Option Nat), ∃ (c25 : Nat), ∃ (n26 : Nat), F_gantryref21_Matrix_j30 K x23 = some r ∧ x23.length = n26 ∧ H = [hO (cSl cQ) b24 c25 24 n26 x23] ∧ E = [(6, .vc (pO b24 n26 c25))]) ?_ (fun Jj30 => ?_))))
  · rintro _ _ ⟨x23, b24, c25, n26, hF, q27, rfl, rfl⟩
    unfold F_gantryref21_Matrix_j30 at hF
    refine r_next (r_seq (r_reg (r_mv ?_)))
    refine r_as ?_
    refine r_op (t_mv (.inr rfl)) ⟨k_B _, trivial⟩ ?_
    refine r_nil (r_next (r_ret (r_toR (r_fzX 0 [4, 6, 62] rfl q27 ⟨rfl, rfl, rfl, trivial⟩ rfl ?_))))
    obtain rfl := sm1 hF
    exact r_done1 (.inl rfl) Tryz.results79 (.tmp rfl (.tmp rfl .nil)) rfl rfl
  · skip
    obtain ⟨ol29, hL, hRl29⟩ := bnd hF
    refine r_lp (fun k a w => ∃ (x16 : List (List Rat)), ∃ (x22 : Int), ∃ (b17 : Option Nat), ∃ (c18 : Nat), ∃ (n19 : Nat), F_gantryref21_Matrix_l29 K a0 a1 k x16 x22 = some ol29 ∧ x16.length = n19 ∧ hs _ [hO (cSl cQ) b17 c18 24 n19 x16] [(0, .vc (pI .i64 a0)), (1, .vc (pS api_Row.cod a1)), (6, .vc (pO b17 n19 c18)), (7, .vc (pI .i64 x22))] a w) K (fun a w ⟨_, _, _, _, _, hF, _, _⟩ => by cases hF) (fun k a w ⟨x16, x22, b17, c18, n19, hF, q20, hh⟩ => r_at ?_ hh) (fun a w hh => ⟨[x1], 0, b6, 1, 1, hL, rfl, hs_back [0] rfl (by decide) (by exact ⟨rfl, rfl, rfl, rfl, trivial⟩) hh⟩)
    rw [F_gantryref21_Matrix_l29.eq_2] at hF
    refine r_seq (r_seq (r_reg (r_mv ?_)))
    refine r_mv ?_
    refine r_op (t_ln rfl tyS25) ⟨rfl, trivial⟩ ?_
    refine r_op (t_lt rfl) ⟨rfl, rfl, trivial⟩ ?_
    refine r_nil (r_next (r_if rfl (fun h31 => ?_) (fun h31 => ?_)))
    · have hF := cnd_t h31 hF
      refine r_skip (r_next (r_seq (r_blk (r_seq (r_seq (r_reg (r_mv ?_)))))))
      refine r_mv ?_
      obtain ⟨v32, h33, hF⟩ := bnd hF
      refine r_op (t_ix rfl tyS25 h33) ⟨rfl, rfl, trivial⟩ ?_
      refine r_op (t_faM (ps := (api_Row.cod.e v32)) (k := 8) rfl tyF40_5) ⟨rfl, trivial⟩ ?_
      refine r_op (t_lM 1 rfl rfl (.one tyO29)) ⟨rfl, trivial⟩ ?_
      refine r_mv ?_
      obtain ⟨v34, h35, hF⟩ := bnd hF
      refine r_op (t_call rfl (ct_gantryref21_within h35) rfl) ⟨rfl, rfl, trivial⟩ ?_
      refine r_op (t_not rfl) ⟨rfl, trivial⟩ ?_
      refine r_mv ?_
      refine r_bool (fun h36 => ?_) (fun h36 => ?_)
      · have hF := cnd_t h36 hF
        refine r_opn ?_
        refine r_opn ?_
        refine r_opn ?_
        refine r_opn ?_
        refine r_opn ?_
        refine r_opn ?_
        refine r_opn ?_
        refine r_opn ?_
        refine r_op (t_pickT rfl) ⟨rfl, k_B _, trivial⟩ ?_
        refine r_nil (r_next (r_ifT rfl ?_))
        refine r_seq (r_reg (r_op (t_mv (.inr rfl)) ⟨k_nil (cSl cQ), trivial⟩ ?_))
        refine r_op (t_mv (.inr rfl)) ⟨k_B _, trivial⟩ ?_
        refine r_nil (r_next (r_ret (r_toR ?_)))
        obtain rfl := sm1 hF
        obtain rfl := sm1 hRl29
        exact r_done1 (.inl rfl) Tryz.results79 (.tmp rfl (.tmp rfl .nil)) rfl rfl
      · have hF := cnd_f h36 hF
        refine r_opg (t_mv (.inl rfl)) ⟨rfl, trivial⟩ ?_
        refine r_opg (t_mv (.inl rfl)) ⟨rfl, trivial⟩ ?_
        obtain ⟨v37, h38, hF⟩ := bnd hF
        refine r_opg (t_ix rfl tyS25 h38) ⟨rfl, rfl, trivial⟩ ?_
        refine r_opg (t_faM (ps := (api_Row.cod.e v37)) (k := 9) rfl tyF40_6) ⟨rfl, trivial⟩ ?_
        refine r_opg (t_lM 1 rfl rfl (.one tyO29)) ⟨rfl, trivial⟩ ?_
        refine r_opg (t_mv (.inl rfl)) ⟨rfl, trivial⟩ ?_
        obtain ⟨v39, h40, hF⟩ := bnd hF
        refine r_opg (t_call rfl (ct_gantryref21_within h40) rfl) ⟨rfl, rfl, trivial⟩ ?_
        refine r_opg (t_not rfl) ⟨rfl, trivial⟩ ?_
        refine r_op (t_pickF rfl) ⟨rfl, rfl, trivial⟩ ?_
        refine r_nil (r_next (r_if rfl (fun h41 => ?_) (fun h41 => ?_)))
        · have hF := cnd_t h41 hF
          refine r_seq (r_reg (r_op (t_mv (.inr rfl)) ⟨k_nil (cSl cQ), trivial⟩ ?_))
          refine r_op (t_mv (.inr rfl)) ⟨k_B _, trivial⟩ ?_
          refine r_nil (r_next (r_ret (r_toR ?_)))
          obtain rfl := sm1 hF
          obtain rfl := sm1 hRl29
          exact r_done1 (.inl rfl) Tryz.results79 (.tmp rfl (.tmp rfl .nil)) rfl rfl
        · have hF := cnd_f h41 hF
          refine r_skip (r_next (r_seq (r_reg (r_mv ?_))))
          refine r_mv ?_
          refine r_mv ?_
          obtain ⟨v42, h43, hF⟩ := bnd hF
          refine r_op (t_ix rfl tyS25 h43) ⟨rfl, rfl, trivial⟩ ?_
          refine r_op (t_faM (ps := (api_Row.cod.e v42)) (k := 8) rfl tyF40_5) ⟨rfl, trivial⟩ ?_
          refine r_op (t_lM 1 rfl rfl (.one tyO29)) ⟨rfl, trivial⟩ ?_
          refine r_mv ?_
          obtain ⟨v44, h45, hF⟩ := bnd hF
          refine r_op (t_call rfl (ct_gantryref21_factors h45) rfl) ⟨rfl, rfl, trivial⟩ ?_
          refine r_op (t_bs (C := (cSl cQ)) (xs := [.tmp 42]) (ps := [.vc (pS cQ v44)]) (zs := [v44]) rfl tyS47 rfl ⟨⟨trivial, rfl⟩, trivial⟩ rfl) ⟨rfl, trivial⟩ ?_
          obtain ⟨x46, h47, hF⟩ := bnd hF
          refine r_app 0 rfl tyS47 rfl rfl q20 rfl rfl h47 (fun b48 c49 H50 e51 => ?_)
          cases e51
          refine r_as ?_
          refine r_nil (r_next (r_seq (r_reg (r_mv ?_))))
          refine r_mv ?_
          obtain ⟨v53, h54, hF⟩ := bnd hF
          refine r_op (t_ix rfl tyS25 h54) ⟨rfl, rfl, trivial⟩ ?_
          refine r_op (t_faM (ps := (api_Row.cod.e v53)) (k := 9) rfl tyF40_6) ⟨rfl, trivial⟩ ?_
          refine r_op (t_lM 1 rfl rfl (.one tyO29)) ⟨rfl, trivial⟩ ?_
          refine r_op (t_ln rfl tyS29) ⟨rfl, trivial⟩ ?_
          refine r_op (t_gt rfl) ⟨rfl, k_I _ _, trivial⟩ ?_
          refine r_nil (r_next (r_if rfl (fun h55 => ?_) (fun h55 => ?_)))
          · have hF := cnd_t h55 hF
            refine r_reg (r_mv ?_)
            refine r_mv ?_
            refine r_mv ?_
            obtain ⟨v56, h57, hF⟩ := bnd hF
            refine r_op (t_ix rfl tyS25 h57) ⟨rfl, rfl, trivial⟩ ?_
            refine r_op (t_faM (ps := (api_Row.cod.e v56)) (k := 9) rfl tyF40_6) ⟨rfl, trivial⟩ ?_
            refine r_op (t_lM 1 rfl rfl (.one tyO29)) ⟨rfl, trivial⟩ ?_
            refine r_mv ?_
            obtain ⟨v58, h59, hF⟩ := bnd hF
            refine r_op (t_call rfl (ct_gantryref21_factors h59) rfl) ⟨rfl, rfl, trivial⟩ ?_
            refine r_op (t_bs (C := (cSl cQ)) (xs := [.tmp 59]) (ps := [.vc (pS cQ v58)]) (zs := [v58]) rfl tyS47 rfl ⟨⟨trivial, rfl⟩, trivial⟩ rfl) ⟨rfl, trivial⟩ ?_
            obtain ⟨x60, h61, hF⟩ := bnd hF
            refine r_app 0 rfl tyS47 rfl rfl (apL_len h47 q20) rfl rfl h61 (fun b62 c63 H64 e65 => ?_)
            cases e65
            refine r_as ?_
            refine r_nil (r_blkN (r_next (r_reg (r_mv ?_))))
            obtain ⟨v67, h68, hF⟩ := bnd hF
            refine r_op (t_add rfl h68) ⟨rfl, k_I _ _, trivial⟩ ?_
            refine r_as ?_
            refine r_nil ?_
            exact r_round (fun a w hh => ⟨x60, v67, b62, c63, ((n19 + [v44].length) + [v58].length), hF, (apL_len h61 (apL_len h47 q20)), hs_back [0] rfl (by decide) (by exact ⟨rfl, rfl, rfl, rfl, trivial⟩) hh⟩)
          · have hF := cnd_f h55 hF
            refine r_skip (r_blkN (r_next (r_reg (r_mv ?_))))
            obtain ⟨v69, h70, hF⟩ := bnd hF
            refine r_op (t_add rfl h70) ⟨rfl, k_I _ _, trivial⟩ ?_
            refine r_as ?_
            refine r_nil ?_
            exact r_round (fun a w hh => ⟨x46, v69, b48, c49, (n19 + [v44].length), hF, (apL_len h47 q20), hs_back [0] rfl (by decide) (by exact ⟨rfl, rfl, rfl, rfl, trivial⟩) hh⟩)
    · have hF := cnd_f h31 hF
      refine r_brk ?_
      obtain rfl := sm1 hF
      exact r_backJ Jj30 ⟨x16, b17, c18, n19, hRl29, q20, rfl, rfl⟩ [0] rfl ⟨rfl, trivial⟩

abbrev N_gantryref21_Kept : Nat := 19
def F_gantryref21_Kept (K : Nat) (a0 : List api_Dof) (a1 : List api_Row) : Option ((List (List Rat)) × Int) :=
  (F_gantryref21_Matrix K (a0.length : Int) a1).bind fun v1 => bif (!v1.2) then (some ([], 1)) else (bif (decide (64 < (v1.1.length : Int))) then (some ([], 4)) else ((F_gantryref09_Kernel K v1.1).bind fun v5 => some (v5, 0)))
set_option maxRecDepth 100000 in
theorem ct_gantryref21_Kept {K : Nat} {a0 : List api_Dof} {a1 : List api_Row} {r : (List (List Rat)) × Int} (hF : F_gantryref21_Kept K a0 a1 = some r) : Ct Tryz.prog 19 [.vc (pS api_Dof.cod a0), .vc (pS api_Row.cod a1)] (.t2 (.vc (pS (cSl cQ) r.1)) (.vc (pI .i64 r.2))) := by
  unfold F_gantryref21_Kept at hF
  refine ctO_intro Tryz.func19 rfl (by kernel_rfl) Tryz.ntmps19 rfl (fun w0 M0 => ?_)
  refine r_seq (r_reg (r_op (t_mv (.inr rfl)) ⟨k_nil (cSl cQ), trivial⟩ ?_))
  refine r_op (t_mv (.inr rfl)) ⟨k_I _ _, trivial⟩ ?_
  refine r_nil (r_next (r_seq (r_reg (r_mv ?_))))
  refine r_op (t_ln rfl tyS23) ⟨rfl, trivial⟩ ?_
  refine r_mv ?_
  obtain ⟨v1, h2, hF⟩ := bnd hF
  refine r_op (t_call rfl (ct_gantryref21_Matrix h2) rfl) ⟨rfl, rfl, trivial⟩ ?_
  refine r_mv ?_
  refine r_op (t_ext2a rfl) ⟨rfl, trivial⟩ ?_
  refine r_op (t_ext2b rfl) ⟨rfl, trivial⟩ ?_
  refine r_as ?_
  refine r_as ?_
  refine r_nil (r_next (r_seq (r_seq (r_reg (r_mv ?_)))))
  refine r_op (t_not rfl) ⟨rfl, trivial⟩ ?_
  refine r_nil (r_next (r_if rfl (fun h3 => ?_) (fun h3 => ?_)))
  · have hF := cnd_t h3 hF
    refine r_seq (r_reg (r_op (t_mv (.inr rfl)) ⟨k_nil (cSl cQ), trivial⟩ ?_))
    refine r_op (t_mv (.inr rfl)) ⟨k_I _ _, trivial⟩ ?_
    refine r_nil (r_next (r_ret (r_toR ?_)))
    obtain rfl := sm1 hF
    exact r_done1 (.inl rfl) Tryz.results19 (.tmp rfl (.tmp rfl .nil)) rfl rfl
  · have hF := cnd_f h3 hF
    refine r_skip (r_next (r_seq (r_seq (r_reg (r_mv ?_)))))
    refine r_op (t_ln rfl tyS47) ⟨rfl, trivial⟩ ?_
    refine r_op (t_gt rfl) ⟨rfl, k_I _ _, trivial⟩ ?_
    refine r_nil (r_next (r_if rfl (fun h4 => ?_) (fun h4 => ?_)))
    · have hF := cnd_t h4 hF
      refine r_seq (r_reg (r_op (t_mv (.inr rfl)) ⟨k_nil (cSl cQ), trivial⟩ ?_))
      refine r_op (t_mv (.inr rfl)) ⟨k_I _ _, trivial⟩ ?_
      refine r_nil (r_next (r_ret (r_toR ?_)))
      obtain rfl := sm1 hF
      exact r_done1 (.inl rfl) Tryz.results19 (.tmp rfl (.tmp rfl .nil)) rfl rfl
    · have hF := cnd_f h4 hF
      refine r_skip (r_next (r_seq (r_reg (r_mv ?_))))
      obtain ⟨v5, h6, hF⟩ := bnd hF
      refine r_op (t_call rfl (ct_gantryref09_Kernel h6) rfl) ⟨rfl, trivial⟩ ?_
      refine r_as ?_
      refine r_op (t_mv (.inr rfl)) ⟨k_I _ _, trivial⟩ ?_
      refine r_nil (r_next (r_ret (r_toR ?_)))
      obtain rfl := sm1 hF
      exact r_done1 (.inl rfl) Tryz.results19 (.tmp rfl (.tmp rfl .nil)) rfl rfl

abbrev N_gantryref09_SameRow : Nat := 52
def F_gantryref09_SameRow_j5 (K : Nat) : Option Bool :=
  some true
def F_gantryref09_SameRow_l4 (K : Nat) (a0 : List Rat) (a1 : List Rat) : Nat → Int → Option (LR Bool Unit)
  | 0, _ => none
  | k + 1, x3 => bif (decide (x3 < (a0.length : Int))) then ((rdL a0 x3).bind fun v9 => (rdL a1 x3).bind fun v11 => (qsame v9 v11).bind fun v13 => bif (!v13) then (some (.ret false)) else ((chk (x3 + 1)).bind fun v16 => F_gantryref09_SameRow_l4 K a0 a1 k v16)) else (some (.go ()))
def F_gantryref09_SameRow (K : Nat) (a0 : List Rat) (a1 : List Rat) : Option Bool :=
  bif ((a0.length : Int) != (a1.length : Int)) then (some false) else ((F_gantryref09_SameRow_l4 K a0 a1 K 0).bind fun o => match o with | .ret r => some r | .go _ => F_gantryref09_SameRow_j5 K )
set_option maxRecDepth 100000 in
theorem ct_gantryref09_SameRow {K : Nat} {a0 : List Rat} {a1 : List Rat} {r : Bool} (hF : F_gantryref09_SameRow K a0 a1 = some r) : Ct Tryz.prog 52 [.vc (pS cQ a0), .vc (pS cQ a1)] (.vc (pB r)) := by
  unfold F_gantryref09_SameRow at hF
  refine ctO_intro Tryz.func52 rfl (by kernel_rfl) Tryz.ntmps52 rfl (fun w0 M0 => ?_)
  refine r_seq (r_reg (r_op (t_mv (.inr rfl)) ⟨k_B _, trivial⟩ ?_))
  refine r_nil (r_next (r_seq (r_seq (r_reg (r_mv ?_)))))
  refine r_op (t_ln rfl tyS24) ⟨rfl, trivial⟩ ?_
  refine r_mv ?_
  refine r_op (t_ln rfl tyS24) ⟨rfl, trivial⟩ ?_
  refine r_op (t_ne rfl) ⟨rfl, rfl, trivial⟩ ?_
  refine r_nil (r_next (r_if rfl (fun h1 => ?_) (fun h1 => ?_)))
  · have hF := cnd_t h1 hF
    refine r_seq (r_reg (r_op (t_mv (.inr rfl)) ⟨k_B _, trivial⟩ ?_))
    refine r_nil (r_next (r_ret (r_toR ?_)))
    obtain rfl := sm1 hF
    exact r_done1 (.inl rfl) Tryz.results52 (.tmp rfl .nil) rfl rfl
  · have hF := cnd_f h1 hF
    refine r_skip (r_next (r_seq (r_seq (r_reg (r_op (t_mv (.inr rfl)) ⟨k_I _ _, trivial⟩ ?_)))))
    refine r_nil (r_next (r_blk (r_cutN (fun H E => F_gantryref09_SameRow_j5 K = some r ∧ H = [] ∧ E = []) ?_ (fun Jj5 => ?_))))
    · rintro _ _ ⟨hF, rfl, rfl⟩
      unfold F_gantryref09_SameRow_j5 at hF
      refine r_next (r_seq (r_reg (r_op (t_mv (.inr rfl)) ⟨k_B _, trivial⟩ ?_)))
      refine r_nil (r_next (r_ret (r_toR ?_)))
      obtain rfl := sm1 hF
      exact r_done1 (.inl rfl) Tryz.results52 (.tmp rfl .nil) rfl rfl
    · skip
      obtain ⟨ol4, hL, hRl4⟩ := bnd hF
      refine r_lp (fun k a w => ∃ (x3 : Int), F_gantryref09_SameRow_l4 K a0 a1 k x3 = some ol4 ∧ hs _ [] [(0, .vc (pS cQ a0)), (1, .vc (pS cQ a1)), (5, .vc (pI .i64 x3))] a w) K (fun a w ⟨_, hF, _⟩ => by cases hF) (fun k a w ⟨x3, hF, hh⟩ => r_at ?_ hh) (fun a w hh => ⟨0, hL, hs_back [] rfl (by decide) (by exact ⟨rfl, rfl, rfl, trivial⟩) hh⟩)
      rw [F_gantryref09_SameRow_l4.eq_2] at hF
      refine r_seq (r_seq (r_reg (r_mv ?_)))
      refine r_mv ?_
      refine r_op (t_ln rfl tyS24) ⟨rfl, trivial⟩ ?_
      refine r_op (t_lt rfl) ⟨rfl, rfl, trivial⟩ ?_
      refine r_nil (r_next (r_if rfl (fun h6 => ?_) (fun h6 => ?_)))
      · have hF := cnd_t h6 hF
        refine r_skip (r_next (r_seq (r_blk (r_seq ?_))))
        obtain ⟨v9, h10, hF⟩ := bnd hF
        obtain ⟨v11, h12, hF⟩ := bnd hF
        obtain ⟨v13, h14, hF⟩ := bnd hF
        refine r_draw [0, 0, 3, 7, 0, 0, 48, 112, 255, 511] 10 0 [.v (.vc (pS cQ a0)), .v (.vc (pI .i64 x3)), .v (.vc (pM (cQ.e v9))), .v (.va (eQ v9)), .v (.vc (pS cQ a1)), .v (.vc (pI .i64 x3)), .v (.vc (pM (cQ.e v11))), .v (.va (eQ v11)), .v (.vc (pB v13)), .v (.vc (pB (!v13)))] Tryz_mixed ⟨⟨rfl, .run (lo := 0) (n := 1) ⟨fun G7 A => t_mv (.inl rfl), trivial⟩ (fun G7 => ⟨rfl, trivial⟩)⟩, ⟨rfl, .run (lo := 0) (n := 1) ⟨fun G7 A => t_mv (.inl rfl), trivial⟩ (fun G7 => ⟨rfl, trivial⟩)⟩, ⟨rfl, .run (lo := 0) (n := 1) ⟨fun G7 A => t_ix rfl tyS24 h10, trivial⟩ (fun G7 => ⟨rfl, rfl, trivial⟩)⟩, ⟨rfl, .run (lo := 0) (n := 1) ⟨fun G7 A => t_lM 4 rfl rfl (.agg tyA35), trivial⟩ (fun G7 => ⟨rfl, trivial⟩)⟩, ⟨rfl, .run (lo := 0) (n := 1) ⟨fun G7 A => t_mv (.inl rfl), trivial⟩ (fun G7 => ⟨rfl, trivial⟩)⟩, ⟨rfl, .run (lo := 0) (n := 1) ⟨fun G7 A => t_mv (.inl rfl), trivial⟩ (fun G7 => ⟨rfl, trivial⟩)⟩, ⟨rfl, .run (lo := 0) (n := 1) ⟨fun G7 A => t_ix rfl tyS24 h12, trivial⟩ (fun G7 => ⟨rfl, rfl, trivial⟩)⟩, ⟨rfl, .run (lo := 0) (n := 1) ⟨fun G7 A => t_lM 4 rfl rfl (.agg tyA35), trivial⟩ (fun G7 => ⟨rfl, trivial⟩)⟩, ⟨rfl, .run (lo := 0) (n := 1) ⟨fun G7 A => t_call rfl (qc_gantryref05_Same h14) rfl, trivial⟩ (fun G7 => ⟨rfl, rfl, trivial⟩)⟩, ⟨rfl, .run (lo := 0) (n := 1) ⟨fun G7 A => t_not rfl, trivial⟩ (fun G7 => ⟨rfl, trivial⟩)⟩, trivial⟩ (fun bs8 G7 => ?_)
        refine r_nil (r_next (r_if rfl (fun h15 => ?_) (fun h15 => ?_)))
        · have hF := cnd_t h15 hF
          refine r_seq (r_reg (r_op (t_mv (.inr rfl)) ⟨k_B _, trivial⟩ ?_))
          refine r_nil (r_next (r_ret (r_toR ?_)))
          obtain rfl := sm1 hF
          obtain rfl := sm1 hRl4
          exact r_done1 (.inl rfl) Tryz.results52 (.tmp rfl .nil) rfl rfl
        · have hF := cnd_f h15 hF
          refine r_skip (r_blkN (r_next (r_reg (r_mv ?_))))
          obtain ⟨v16, h17, hF⟩ := bnd hF
          refine r_op (t_add rfl h17) ⟨rfl, k_I _ _, trivial⟩ ?_
          refine r_as ?_
          refine r_nil ?_
          exact r_round (fun a w hh => ⟨v16, hF, hs_back [] rfl (by decide) (by exact ⟨rfl, rfl, rfl, trivial⟩) hh⟩)
      · have hF := cnd_f h6 hF
        refine r_brk ?_
        obtain rfl := sm1 hF
        exact r_backJ Jj5 ⟨hRl4, rfl, rfl⟩ [] rfl trivial

abbrev N_gantryref09_Same : Nat := 20
def F_gantryref09_Same_j5 (K : Nat) : Option Bool :=
  some true
def F_gantryref09_Same_l4 (K : Nat) (a0 : List (List Rat)) (a1 : List (List Rat)) : Nat → Int → Option (LR Bool Unit)
  | 0, _ => none
  | k + 1, x3 => bif (decide (x3 < (a0.length : Int))) then ((rdL a0 x3).bind fun v9 => (rdL a1 x3).bind fun v11 => (F_gantryref09_SameRow K v9 v11).bind fun v13 => bif (!v13) then (some (.ret false)) else ((chk (x3 + 1)).bind fun v16 => F_gantryref09_Same_l4 K a0 a1 k v16)) else (some (.go ()))
def F_gantryref09_Same (K : Nat) (a0 : List (List Rat)) (a1 : List (List Rat)) : Option Bool :=
  bif ((a0.length : Int) != (a1.length : Int)) then (some false) else ((F_gantryref09_Same_l4 K a0 a1 K 0).bind fun o => match o with | .ret r => some r | .go _ => F_gantryref09_Same_j5 K )
set_option maxRecDepth 100000 in
theorem ct_gantryref09_Same {K : Nat} {a0 : List (List Rat)} {a1 : List (List Rat)} {r : Bool} (hF : F_gantryref09_Same K a0 a1 = some r) : Ct Tryz.prog 20 [.vc (pS (cSl cQ) a0), .vc (pS (cSl cQ) a1)] (.vc (pB r)) := by
  unfold F_gantryref09_Same at hF
  refine ctO_intro Tryz.func20 rfl (by kernel_rfl) Tryz.ntmps20 rfl (fun w0 M0 => ?_)
  refine r_seq (r_reg (r_op (t_mv (.inr rfl)) ⟨k_B _, trivial⟩ ?_))
  refine r_nil (r_next (r_seq (r_seq (r_reg (r_mv ?_)))))
  refine r_op (t_ln rfl tyS47) ⟨rfl, trivial⟩ ?_
  refine r_mv ?_
  refine r_op (t_ln rfl tyS47) ⟨rfl, trivial⟩ ?_
  refine r_op (t_ne rfl) ⟨rfl, rfl, trivial⟩ ?_
  refine r_nil (r_next (r_if rfl (fun h1 => ?_) (fun h1 => ?_)))
  · have hF := cnd_t h1 hF
    refine r_seq (r_reg (r_op (t_mv (.inr rfl)) ⟨k_B _, trivial⟩ ?_))
    refine r_nil (r_next (r_ret (r_toR ?_)))
    obtain rfl := sm1 hF
    exact r_done1 (.inl rfl) Tryz.results20 (.tmp rfl .nil) rfl rfl
  · have hF := cnd_f h1 hF
    refine r_skip (r_next (r_seq (r_seq (r_reg (r_op (t_mv (.inr rfl)) ⟨k_I _ _, trivial⟩ ?_)))))
    refine r_nil (r_next (r_blk (r_cutN (fun H E => F_gantryref09_Same_j5 K = some r ∧ H = [] ∧ E = []) ?_ (fun Jj5 => ?_))))
    · rintro _ _ ⟨hF, rfl, rfl⟩
      unfold F_gantryref09_Same_j5 at hF
      refine r_next (r_seq (r_reg (r_op (t_mv (.inr rfl)) ⟨k_B _, trivial⟩ ?_)))
      refine r_nil (r_next (r_ret (r_toR ?_)))
      obtain rfl := sm1 hF
      exact r_done1 (.inl rfl) Tryz.results20 (.tmp rfl .nil) rfl rfl
    · skip
      obtain ⟨ol4, hL, hRl4⟩ := bnd hF
      refine r_lp (fun k a w => ∃ (x3 : Int), F_gantryref09_Same_l4 K a0 a1 k x3 = some ol4 ∧ hs _ [] [(0, .vc (pS (cSl cQ) a0)), (1, .vc (pS (cSl cQ) a1)), (5, .vc (pI .i64 x3))] a w) K (fun a w ⟨_, hF, _⟩ => by cases hF) (fun k a w ⟨x3, hF, hh⟩ => r_at ?_ hh) (fun a w hh => ⟨0, hL, hs_back [] rfl (by decide) (by exact ⟨rfl, rfl, rfl, trivial⟩) hh⟩)
      rw [F_gantryref09_Same_l4.eq_2] at hF
      refine r_seq (r_seq (r_reg (r_mv ?_)))
      refine r_mv ?_
      refine r_op (t_ln rfl tyS47) ⟨rfl, trivial⟩ ?_
      refine r_op (t_lt rfl) ⟨rfl, rfl, trivial⟩ ?_
      refine r_nil (r_next (r_if rfl (fun h6 => ?_) (fun h6 => ?_)))
      · have hF := cnd_t h6 hF
        refine r_skip (r_next (r_seq (r_blk (r_seq ?_))))
        obtain ⟨v9, h10, hF⟩ := bnd hF
        obtain ⟨v11, h12, hF⟩ := bnd hF
        obtain ⟨v13, h14, hF⟩ := bnd hF
        refine r_draw [0, 0, 3, 7, 0, 0, 48, 112, 255, 511] 10 0 [.v (.vc (pS (cSl cQ) a0)), .v (.vc (pI .i64 x3)), .v (.vc (pM ((cSl cQ).e v9))), .v (.vc (pS cQ v9)), .v (.vc (pS (cSl cQ) a1)), .v (.vc (pI .i64 x3)), .v (.vc (pM ((cSl cQ).e v11))), .v (.vc (pS cQ v11)), .v (.vc (pB v13)), .v (.vc (pB (!v13)))] Tryz_mixed ⟨⟨rfl, .run (lo := 0) (n := 1) ⟨fun G7 A => t_mv (.inl rfl), trivial⟩ (fun G7 => ⟨rfl, trivial⟩)⟩, ⟨rfl, .run (lo := 0) (n := 1) ⟨fun G7 A => t_mv (.inl rfl), trivial⟩ (fun G7 => ⟨rfl, trivial⟩)⟩, ⟨rfl, .run (lo := 0) (n := 1) ⟨fun G7 A => t_ix rfl tyS47 h10, trivial⟩ (fun G7 => ⟨rfl, rfl, trivial⟩)⟩, ⟨rfl, .run (lo := 0) (n := 1) ⟨fun G7 A => t_lM 1 rfl rfl (.one tyO24), trivial⟩ (fun G7 => ⟨rfl, trivial⟩)⟩, ⟨rfl, .run (lo := 0) (n := 1) ⟨fun G7 A => t_mv (.inl rfl), trivial⟩ (fun G7 => ⟨rfl, trivial⟩)⟩, ⟨rfl, .run (lo := 0) (n := 1) ⟨fun G7 A => t_mv (.inl rfl), trivial⟩ (fun G7 => ⟨rfl, trivial⟩)⟩, ⟨rfl, .run (lo := 0) (n := 1) ⟨fun G7 A => t_ix rfl tyS47 h12, trivial⟩ (fun G7 => ⟨rfl, rfl, trivial⟩)⟩, ⟨rfl, .run (lo := 0) (n := 1) ⟨fun G7 A => t_lM 1 rfl rfl (.one tyO24), trivial⟩ (fun G7 => ⟨rfl, trivial⟩)⟩, ⟨rfl, .run (lo := 0) (n := 1) ⟨fun G7 A => t_call rfl (ct_gantryref09_SameRow h14) rfl, trivial⟩ (fun G7 => ⟨rfl, rfl, trivial⟩)⟩, ⟨rfl, .run (lo := 0) (n := 1) ⟨fun G7 A => t_not rfl, trivial⟩ (fun G7 => ⟨rfl, trivial⟩)⟩, trivial⟩ (fun bs8 G7 => ?_)
        refine r_nil (r_next (r_if rfl (fun h15 => ?_) (fun h15 => ?_)))
        · have hF := cnd_t h15 hF
          refine r_seq (r_reg (r_op (t_mv (.inr rfl)) ⟨k_B _, trivial⟩ ?_))
          refine r_nil (r_next (r_ret (r_toR ?_)))
          obtain rfl := sm1 hF
          obtain rfl := sm1 hRl4
          exact r_done1 (.inl rfl) Tryz.results20 (.tmp rfl .nil) rfl rfl
        · have hF := cnd_f h15 hF
          refine r_skip (r_blkN (r_next (r_reg (r_mv ?_))))
          obtain ⟨v16, h17, hF⟩ := bnd hF
          refine r_op (t_add rfl h17) ⟨rfl, k_I _ _, trivial⟩ ?_
          refine r_as ?_
          refine r_nil ?_
          exact r_round (fun a w hh => ⟨v16, hF, hs_back [] rfl (by decide) (by exact ⟨rfl, rfl, rfl, trivial⟩) hh⟩)
      · have hF := cnd_f h6 hF
        refine r_brk ?_
        obtain rfl := sm1 hF
        exact r_backJ Jj5 ⟨hRl4, rfl, rfl⟩ [] rfl trivial

abbrev N_energy_kinetic_1 : Nat := 142
def F_energy_kinetic_1 (c0 : List Rat) (c1 : List api_Dof) (a0 : Int) : Option Rat :=
  (rdL c0 a0).bind fun v4 => (rdL c0 a0).bind fun v6 => (qmul v4 v6).bind fun v8 => (rdL c1 a0).bind fun v10 => (qdiv v8 v10.inv).bind fun v12 => some v12
set_option maxRecDepth 100000 in
theorem ct_energy_kinetic_1 {c0 : List Rat} {c1 : List api_Dof} {a0 : Int} {r : Rat} (hF : F_energy_kinetic_1 c0 c1 a0 = some r) : Ct Tryz.prog 142 [.vc (pI .i64 a0), .vc (pM ((cSl cQ).e c0)), .vc (pM ((cSl api_Dof.cod).e c1))] (.va (eQ r)) := by
  unfold F_energy_kinetic_1 at hF
  refine ctO_intro Tryz.func142 rfl (by kernel_rfl) Tryz.ntmps142 rfl (fun w0 M0 => ?_)
  refine r_seq (r_reg (r_alloc rfl tyZ35q (fun b1 => ?_)))
  refine r_nil (r_next (r_seq ?_))
  obtain ⟨v4, h5, hF⟩ := bnd hF
  obtain ⟨v6, h7, hF⟩ := bnd hF
  obtain ⟨v8, h9, hF⟩ := bnd hF
  obtain ⟨v10, h11, hF⟩ := bnd hF
  obtain ⟨v12, h13, hF⟩ := bnd hF
  refine r_draw [0, 0, 3, 7, 0, 0, 48, 112, 255, 0, 0, 1536, 3584, 7680, 16383, 32767] 15 1 [.v (.vc (pS cQ c0)), .v (.vc (pI .i64 a0)), .v (.vc (pM (cQ.e v4))), .v (.va (eQ v4)), .v (.vc (pS cQ c0)), .v (.vc (pI .i64 a0)), .v (.vc (pM (cQ.e v6))), .v (.va (eQ v6)), .v (.va (eQ v8)), .v (.vc (pS api_Dof.cod c1)), .v (.vc (pI .i64 a0)), .v (.vc (pM (api_Dof.cod.e v10))), .v (.vc (pM (api_Dof.cod.e v10))), .v (.va (eQ v10.inv)), .v (.va (eQ v12))] Tryz_mixed ⟨⟨rfl, .run (lo := 0) (n := 1) ⟨fun G2 A => t_lM 1 rfl rfl (.one tyO24), trivial⟩ (fun G2 => ⟨rfl, trivial⟩)⟩, ⟨rfl, .run (lo := 0) (n := 1) ⟨fun G2 A => t_mv (.inl rfl), trivial⟩ (fun G2 => ⟨rfl, trivial⟩)⟩, ⟨rfl, .run (lo := 0) (n := 1) ⟨fun G2 A => t_ix rfl tyS24 h5, trivial⟩ (fun G2 => ⟨rfl, rfl, trivial⟩)⟩, ⟨rfl, .run (lo := 0) (n := 1) ⟨fun G2 A => t_lM 4 rfl rfl (.agg tyA35), trivial⟩ (fun G2 => ⟨rfl, trivial⟩)⟩, ⟨rfl, .run (lo := 0) (n := 1) ⟨fun G2 A => t_lM 1 rfl rfl (.one tyO24), trivial⟩ (fun G2 => ⟨rfl, trivial⟩)⟩, ⟨rfl, .run (lo := 0) (n := 1) ⟨fun G2 A => t_mv (.inl rfl), trivial⟩ (fun G2 => ⟨rfl, trivial⟩)⟩, ⟨rfl, .run (lo := 0) (n := 1) ⟨fun G2 A => t_ix rfl tyS24 h7, trivial⟩ (fun G2 => ⟨rfl, rfl, trivial⟩)⟩, ⟨rfl, .run (lo := 0) (n := 1) ⟨fun G2 A => t_lM 4 rfl rfl (.agg tyA35), trivial⟩ (fun G2 => ⟨rfl, trivial⟩)⟩, ⟨rfl, .run (lo := 0) (n := 1) ⟨fun G2 A => t_call rfl (qc_rat_Mul h9) rfl, trivial⟩ (fun G2 => ⟨rfl, rfl, trivial⟩)⟩, ⟨rfl, .run (lo := 0) (n := 1) ⟨fun G2 A => t_lM 1 rfl rfl (.one tyO23), trivial⟩ (fun G2 => ⟨rfl, trivial⟩)⟩, ⟨rfl, .run (lo := 0) (n := 1) ⟨fun G2 A => t_mv (.inl rfl), trivial⟩ (fun G2 => ⟨rfl, trivial⟩)⟩, ⟨rfl, .run (lo := 0) (n := 1) ⟨fun G2 A => t_ix rfl tyS23 h11, trivial⟩ (fun G2 => ⟨rfl, rfl, trivial⟩)⟩, ⟨rfl, .run (lo := 0) (n := 1) ⟨fun G2 A => t_faM (ps := (api_Dof.cod.e v10)) (k := 0) rfl tyF66_0, trivial⟩ (fun G2 => ⟨rfl, trivial⟩)⟩, ⟨rfl, .run (lo := 0) (n := 1) ⟨fun G2 A => t_lM 4 rfl rfl (.agg tyA35), trivial⟩ (fun G2 => ⟨rfl, trivial⟩)⟩, ⟨rfl, .run (lo := 0) (n := 1) ⟨fun G2 A => t_call rfl (qc_rat_Div h13) rfl, trivial⟩ (fun G2 => ⟨rfl, rfl, trivial⟩)⟩, trivial⟩ (fun bs3 G2 => ?_)
  refine r_op0 (t_s 0 rfl rfl rfl tyA35.s) ⟨rfl, rfl, trivial⟩ ?_
  refine r_nil (r_next (r_ret (r_toR ?_)))
  obtain rfl := sm1 hF
  exact r_done1 (.inl rfl) Tryz.results142 (rv_cell 0 4 rfl rfl rfl rfl (.agg tyA35) .nil) rfl rfl

abbrev N_energy_kinetic : Nat := 91
def F_energy_kinetic (a0 : List api_Dof) (a1 : List Rat) : Option energy_account :=
  some (⟨(a0.length : Int), (F_energy_kinetic_1 a1 a0)⟩ : energy_account)
set_option maxRecDepth 100000 in
theorem ct_energy_kinetic {a0 : List api_Dof} {a1 : List Rat} {r : energy_account} (hF : F_energy_kinetic a0 a1 = some r) : Ct Tryz.prog 91 [.vc (pS api_Dof.cod a0), .vc (pS cQ a1)] (.va (energy_account.enc r)) := by
  unfold F_energy_kinetic at hF
  refine ctO_intro Tryz.func91 rfl (by kernel_rfl) Tryz.ntmps91 rfl (fun w0 M0 => ?_)
  refine r_seq (r_reg (r_box rfl rfl trivial (fun b1 => ?_)))
  refine r_box rfl rfl trivial (fun b2 => ?_)
  refine r_alloc rfl tyZ104q (fun b3 => ?_)
  refine r_nil (r_next (r_seq (r_reg (r_op (t_l 2 1 rfl rfl rfl rfl (.one tyO23)) ⟨rfl, trivial⟩ ?_))))
  refine r_op (t_ln rfl tyS23) ⟨rfl, trivial⟩ ?_
  refine r_fvL 1 [(3, 0)] rfl ⟨rfl, trivial⟩ rfl ?_
  refine r_fvL 1 [(2, 0)] rfl ⟨rfl, trivial⟩ rfl ?_
  refine r_op (t_fnF (φ := (F_energy_kinetic_1 a1 a0)) (pre := fun x : Int => [.vc (pI .i64 x)]) (post := fun r : Rat => .va (eQ r)) (xs := [.tmp 3, .tmp 2]) (cs := [pM ((cSl cQ).e a1), pM ((cSl api_Dof.cod).e a0)]) rfl rfl (fun x r h => ct_energy_kinetic_1 h)) ⟨rfl, rfl, trivial⟩ ?_
  refine r_op (t_bld (is := [0, 1]) (xs := [.tmp 6, .tmp 7]) (ps := [.vc (pI .i64 (a0.length : Int)), .vc (pFn Tryz.prog (fun x : Int => [.vc (pI .i64 x)]) (fun r : Rat => .va (eQ r)) (F_energy_kinetic_1 a1 a0))]) rfl tyB104q rfl rfl ⟨trivial, trivial, trivial⟩ rfl) ⟨rfl, rfl, trivial⟩ ?_
  refine r_op0 (t_s 0 rfl rfl rfl tyA104.s) ⟨rfl, rfl, trivial⟩ ?_
  refine r_nil (r_next (r_ret (r_toR ?_)))
  obtain rfl := sm1 hF
  exact r_done1 (.inl rfl) Tryz.results91 (rv_cell 0 2 rfl rfl rfl rfl (.agg tyA104) .nil) rfl rfl

abbrev N_energy_Kinetic : Nat := 29
def F_energy_Kinetic (K : Nat) (a0 : List api_Dof) (a1 : List Rat) : Option Rat :=
  (F_energy_kinetic a0 a1).bind fun v2 => (F_energy_sum K [v2]).bind fun v4 => some v4
set_option maxRecDepth 100000 in
theorem ct_energy_Kinetic {K : Nat} {a0 : List api_Dof} {a1 : List Rat} {r : Rat} (hF : F_energy_Kinetic K a0 a1 = some r) : Ct Tryz.prog 29 [.vc (pS api_Dof.cod a0), .vc (pS cQ a1)] (.va (eQ r)) := by
  unfold F_energy_Kinetic at hF
  refine ctO_intro Tryz.func29 rfl (by kernel_rfl) Tryz.ntmps29 rfl (fun w0 M0 => ?_)
  refine r_seq (r_reg (r_alloc rfl tyZ35q (fun b1 => ?_)))
  refine r_nil (r_next (r_seq (r_reg (r_mv ?_))))
  refine r_mv ?_
  obtain ⟨v2, h3, hF⟩ := bnd hF
  refine r_op (t_call rfl (ct_energy_kinetic h3) rfl) ⟨rfl, rfl, trivial⟩ ?_
  refine r_op (t_bs (C := energy_account.cod) (xs := [.tmp 7]) (ps := [.va (energy_account.enc v2)]) (zs := [v2]) rfl tyS155 rfl ⟨⟨trivial, rfl⟩, trivial⟩ rfl) ⟨rfl, trivial⟩ ?_
  obtain ⟨v4, h5, hF⟩ := bnd hF
  refine r_op (t_call rfl (ct_energy_sum h5) rfl) ⟨rfl, trivial⟩ ?_
  refine r_op0 (t_s 0 rfl rfl rfl tyA35.s) ⟨rfl, rfl, trivial⟩ ?_
  refine r_nil (r_next (r_ret (r_toR ?_)))
  obtain rfl := sm1 hF
  exact r_done1 (.inl rfl) Tryz.results29 (rv_cell 0 4 rfl rfl rfl rfl (.agg tyA35) .nil) rfl rfl

abbrev N_energy_double : Nat := 144
def F_energy_double (a0 : Rat) (a1 : Rat) : Option Rat :=
  (qof 2 1).bind fun v6 => (qmul a0 a1).bind fun v8 => (qmul v6 v8).bind fun v10 => some v10
set_option maxRecDepth 100000 in
theorem ct_energy_double {a0 : Rat} {a1 : Rat} {r : Rat} (hF : F_energy_double a0 a1 = some r) : Ct Tryz.prog 144 [.va (eQ a0), .va (eQ a1)] (.va (eQ r)) := by
  unfold F_energy_double at hF
  refine ctO_intro Tryz.func144 rfl (by kernel_rfl) Tryz.ntmps144 rfl (fun w0 M0 => ?_)
  refine r_seq (r_reg (r_box rfl rfl trivial (fun b1 => ?_)))
  refine r_box rfl rfl trivial (fun b2 => ?_)
  refine r_alloc rfl tyZ35q (fun b3 => ?_)
  refine r_nil (r_next (r_seq ?_))
  obtain ⟨v6, h7, hF⟩ := bnd hF
  obtain ⟨v8, h9, hF⟩ := bnd hF
  obtain ⟨v10, h11, hF⟩ := bnd hF
  refine r_draw [0, 0, 0, 7, 15, 31] 5 1 [.v (.va (eQ v6)), .v (.va (eQ a0)), .v (.va (eQ a1)), .v (.va (eQ v8)), .v (.va (eQ v10))] Tryz_mixed ⟨⟨rfl, .run (lo := 0) (n := 1) ⟨fun G4 A => t_call rfl (qc_rat_Of h7) rfl, trivial⟩ (fun G4 => ⟨k_I _ _, k_I _ _, trivial⟩)⟩, ⟨rfl, .run (lo := 0) (n := 1) ⟨fun G4 A => t_l 2 4 rfl rfl rfl rfl (.agg tyA35), trivial⟩ (fun G4 => ⟨rfl, trivial⟩)⟩, ⟨rfl, .run (lo := 0) (n := 1) ⟨fun G4 A => t_l 1 4 rfl rfl rfl rfl (.agg tyA35), trivial⟩ (fun G4 => ⟨rfl, trivial⟩)⟩, ⟨rfl, .run (lo := 0) (n := 1) ⟨fun G4 A => t_call rfl (qc_rat_Mul h9) rfl, trivial⟩ (fun G4 => ⟨rfl, rfl, trivial⟩)⟩, ⟨rfl, .run (lo := 0) (n := 1) ⟨fun G4 A => t_call rfl (qc_rat_Mul h11) rfl, trivial⟩ (fun G4 => ⟨rfl, rfl, trivial⟩)⟩, trivial⟩ (fun bs5 G4 => ?_)
  refine r_op0 (t_s 0 rfl rfl rfl tyA35.s) ⟨rfl, rfl, trivial⟩ ?_
  refine r_nil (r_next (r_ret (r_toR ?_)))
  obtain rfl := sm1 hF
  exact r_done1 (.inl rfl) Tryz.results144 (rv_cell 0 4 rfl rfl rfl rfl (.agg tyA35) .nil) rfl rfl

abbrev N_energy_stored_1 : Nat := 143
def F_energy_stored_1 (c0 : List api_Dof) (c1 : List Rat) (a0 : Int) : Option Rat :=
  (rdL c0 a0).bind fun v4 => (rdL c1 a0).bind fun v6 => (F_energy_double v4.load v6).bind fun v8 => (qneg v8).bind fun v10 => some v10
set_option maxRecDepth 100000 in
theorem ct_energy_stored_1 {c0 : List api_Dof} {c1 : List Rat} {a0 : Int} {r : Rat} (hF : F_energy_stored_1 c0 c1 a0 = some r) : Ct Tryz.prog 143 [.vc (pI .i64 a0), .vc (pM ((cSl api_Dof.cod).e c0)), .vc (pM ((cSl cQ).e c1))] (.va (eQ r)) := by
  unfold F_energy_stored_1 at hF
  refine ctO_intro Tryz.func143 rfl (by kernel_rfl) Tryz.ntmps143 rfl (fun w0 M0 => ?_)
  refine r_seq (r_reg (r_alloc rfl tyZ35q (fun b1 => ?_)))
  refine r_nil (r_next (r_seq ?_))
  obtain ⟨v4, h5, hF⟩ := bnd hF
  obtain ⟨v6, h7, hF⟩ := bnd hF
  obtain ⟨v8, h9, hF⟩ := bnd hF
  obtain ⟨v10, h11, hF⟩ := bnd hF
  refine r_draw [0, 0, 3, 7, 15, 0, 0, 96, 224, 511, 1023, 2047] 11 1 [.v (.vc (pS api_Dof.cod c0)), .v (.vc (pI .i64 a0)), .v (.vc (pM (api_Dof.cod.e v4))), .v (.vc (pM ((api_Dof.cod.e v4).drop 4))), .v (.va (eQ v4.load)), .v (.vc (pS cQ c1)), .v (.vc (pI .i64 a0)), .v (.vc (pM (cQ.e v6))), .v (.va (eQ v6)), .v (.va (eQ v8)), .v (.va (eQ v10))] Tryz_mixed ⟨⟨rfl, .run (lo := 0) (n := 1) ⟨fun G2 A => t_lM 1 rfl rfl (.one tyO23), trivial⟩ (fun G2 => ⟨rfl, trivial⟩)⟩, ⟨rfl, .run (lo := 0) (n := 1) ⟨fun G2 A => t_mv (.inl rfl), trivial⟩ (fun G2 => ⟨rfl, trivial⟩)⟩, ⟨rfl, .run (lo := 0) (n := 1) ⟨fun G2 A => t_ix rfl tyS23 h5, trivial⟩ (fun G2 => ⟨rfl, rfl, trivial⟩)⟩, ⟨rfl, .run (lo := 0) (n := 1) ⟨fun G2 A => t_faM (ps := (api_Dof.cod.e v4)) (k := 4) rfl tyF66_1, trivial⟩ (fun G2 => ⟨rfl, trivial⟩)⟩, ⟨rfl, .run (lo := 0) (n := 1) ⟨fun G2 A => t_lM 4 rfl rfl (.agg tyA35), trivial⟩ (fun G2 => ⟨rfl, trivial⟩)⟩, ⟨rfl, .run (lo := 0) (n := 1) ⟨fun G2 A => t_lM 1 rfl rfl (.one tyO24), trivial⟩ (fun G2 => ⟨rfl, trivial⟩)⟩, ⟨rfl, .run (lo := 0) (n := 1) ⟨fun G2 A => t_mv (.inl rfl), trivial⟩ (fun G2 => ⟨rfl, trivial⟩)⟩, ⟨rfl, .run (lo := 0) (n := 1) ⟨fun G2 A => t_ix rfl tyS24 h7, trivial⟩ (fun G2 => ⟨rfl, rfl, trivial⟩)⟩, ⟨rfl, .run (lo := 0) (n := 1) ⟨fun G2 A => t_lM 4 rfl rfl (.agg tyA35), trivial⟩ (fun G2 => ⟨rfl, trivial⟩)⟩, ⟨rfl, .run (lo := 0) (n := 1) ⟨fun G2 A => t_call rfl (ct_energy_double h9) rfl, trivial⟩ (fun G2 => ⟨rfl, rfl, trivial⟩)⟩, ⟨rfl, .run (lo := 0) (n := 1) ⟨fun G2 A => t_call rfl (qc_rat_Neg h11) rfl, trivial⟩ (fun G2 => ⟨rfl, trivial⟩)⟩, trivial⟩ (fun bs3 G2 => ?_)
  refine r_op0 (t_s 0 rfl rfl rfl tyA35.s) ⟨rfl, rfl, trivial⟩ ?_
  refine r_nil (r_next (r_ret (r_toR ?_)))
  obtain rfl := sm1 hF
  exact r_done1 (.inl rfl) Tryz.results143 (rv_cell 0 4 rfl rfl rfl rfl (.agg tyA35) .nil) rfl rfl

abbrev N_energy_stored : Nat := 92
def F_energy_stored (a0 : List api_Dof) (a1 : List Rat) : Option energy_account :=
  some (⟨(a0.length : Int), (F_energy_stored_1 a0 a1)⟩ : energy_account)
set_option maxRecDepth 100000 in
theorem ct_energy_stored {a0 : List api_Dof} {a1 : List Rat} {r : energy_account} (hF : F_energy_stored a0 a1 = some r) : Ct Tryz.prog 92 [.vc (pS api_Dof.cod a0), .vc (pS cQ a1)] (.va (energy_account.enc r)) := by
  unfold F_energy_stored at hF
  refine ctO_intro Tryz.func92 rfl (by kernel_rfl) Tryz.ntmps92 rfl (fun w0 M0 => ?_)
  refine r_seq (r_reg (r_box rfl rfl trivial (fun b1 => ?_)))
  refine r_box rfl rfl trivial (fun b2 => ?_)
  refine r_alloc rfl tyZ104q (fun b3 => ?_)
  refine r_nil (r_next (r_seq (r_reg (r_op (t_l 2 1 rfl rfl rfl rfl (.one tyO23)) ⟨rfl, trivial⟩ ?_))))
  refine r_op (t_ln rfl tyS23) ⟨rfl, trivial⟩ ?_
  refine r_fvL 2 [(2, 0)] rfl ⟨rfl, trivial⟩ rfl ?_
  refine r_fvL 1 [(3, 0)] rfl ⟨rfl, trivial⟩ rfl ?_
  refine r_op (t_fnF (φ := (F_energy_stored_1 a0 a1)) (pre := fun x : Int => [.vc (pI .i64 x)]) (post := fun r : Rat => .va (eQ r)) (xs := [.tmp 2, .tmp 3]) (cs := [pM ((cSl api_Dof.cod).e a0), pM ((cSl cQ).e a1)]) rfl rfl (fun x r h => ct_energy_stored_1 h)) ⟨rfl, rfl, trivial⟩ ?_
  refine r_op (t_bld (is := [0, 1]) (xs := [.tmp 6, .tmp 7]) (ps := [.vc (pI .i64 (a0.length : Int)), .vc (pFn Tryz.prog (fun x : Int => [.vc (pI .i64 x)]) (fun r : Rat => .va (eQ r)) (F_energy_stored_1 a0 a1))]) rfl tyB104q rfl rfl ⟨trivial, trivial, trivial⟩ rfl) ⟨rfl, rfl, trivial⟩ ?_
  refine r_op0 (t_s 0 rfl rfl rfl tyA104.s) ⟨rfl, rfl, trivial⟩ ?_
  refine r_nil (r_next (r_ret (r_toR ?_)))
  obtain rfl := sm1 hF
  exact r_done1 (.inl rfl) Tryz.results92 (rv_cell 0 2 rfl rfl rfl rfl (.agg tyA104) .nil) rfl rfl

abbrev N_energy_Stored : Nat := 31
def F_energy_Stored (K : Nat) (a0 : List api_Dof) (a1 : List Rat) : Option Rat :=
  (F_energy_stored a0 a1).bind fun v2 => (F_energy_sum K [v2]).bind fun v4 => some v4
set_option maxRecDepth 100000 in
theorem ct_energy_Stored {K : Nat} {a0 : List api_Dof} {a1 : List Rat} {r : Rat} (hF : F_energy_Stored K a0 a1 = some r) : Ct Tryz.prog 31 [.vc (pS api_Dof.cod a0), .vc (pS cQ a1)] (.va (eQ r)) := by
  unfold F_energy_Stored at hF
  refine ctO_intro Tryz.func31 rfl (by kernel_rfl) Tryz.ntmps31 rfl (fun w0 M0 => ?_)
  refine r_seq (r_reg (r_alloc rfl tyZ35q (fun b1 => ?_)))
  refine r_nil (r_next (r_seq (r_reg (r_mv ?_))))
  refine r_mv ?_
  obtain ⟨v2, h3, hF⟩ := bnd hF
  refine r_op (t_call rfl (ct_energy_stored h3) rfl) ⟨rfl, rfl, trivial⟩ ?_
  refine r_op (t_bs (C := energy_account.cod) (xs := [.tmp 7]) (ps := [.va (energy_account.enc v2)]) (zs := [v2]) rfl tyS155 rfl ⟨⟨trivial, rfl⟩, trivial⟩ rfl) ⟨rfl, trivial⟩ ?_
  obtain ⟨v4, h5, hF⟩ := bnd hF
  refine r_op (t_call rfl (ct_energy_sum h5) rfl) ⟨rfl, trivial⟩ ?_
  refine r_op0 (t_s 0 rfl rfl rfl tyA35.s) ⟨rfl, rfl, trivial⟩ ?_
  refine r_nil (r_next (r_ret (r_toR ?_)))
  obtain rfl := sm1 hF
  exact r_done1 (.inl rfl) Tryz.results31 (rv_cell 0 4 rfl rfl rfl rfl (.agg tyA35) .nil) rfl rfl

abbrev N_gantryref21_Terms : Nat := 80
def F_gantryref21_Terms_j24 (K : Nat) (x17 : List api_Term) : Option (List api_Term) :=
  some x17
def F_gantryref21_Terms_l23 (K : Nat) (a0 : List Rat) : Nat → (List api_Term) → Int → Option (List api_Term)
  | 0, _, _ => none
  | k + 1, x10, x16 => bif (decide (x16 < (a0.length : Int))) then ((rdL a0 x16).bind fun v26 => (apL x10 [(⟨x16, v26⟩ : api_Term)]).bind fun x28 => (chk (x16 + 1)).bind fun v35 => F_gantryref21_Terms_l23 K a0 k x28 v35) else (some x10)
def F_gantryref21_Terms (K : Nat) (a0 : List Rat) : Option (List api_Term) :=
  (F_gantryref21_Terms_l23 K a0 K ([] : List api_Term) 0).bind fun x17 => F_gantryref21_Terms_j24 K x17
set_option maxRecDepth 100000 in
theorem ct_gantryref21_Terms {K : Nat} {a0 : List Rat} {r : List api_Term} (hF : F_gantryref21_Terms K a0 = some r) : Ct Tryz.prog 80 [.vc (pS cQ a0)] (.vc (pS api_Term.cod r)) := by
  unfold F_gantryref21_Terms at hF
  refine ctO_intro Tryz.func80 rfl (by kernel_rfl) Tryz.ntmps80 rfl (fun w0 M0 => ?_)
  refine r_seq (r_reg (r_op (t_mv (.inr rfl)) ⟨k_nil api_Term.cod, trivial⟩ ?_))
  refine r_nil (r_next (r_seq (r_reg (r_nilO api_Term.cod 38 rfl ?_))))
  refine r_nil (r_next (r_seq (r_seq (r_reg (r_op (t_mv (.inr rfl)) ⟨k_I _ _, trivial⟩ ?_)))))
  refine r_nil (r_next (r_blk (r_cutN (fun H E => ∃ (x17 : List api_Term), ∃ (b18 : Option Nat), ∃ (c19 : Nat), ∃ (n20 : Nat), F_gantryref21_Terms_j24 K x17 = some r ∧ x17.length = n20 ∧ H = [hO api_Term.cod b18 c19 38 n20 x17] ∧ E = [(3, .vc (pO b18 n20 c19))]) ?_ (fun Jj24 => ?_))))
  · rintro _ _ ⟨x17, b18, c19, n20, hF, q21, rfl, rfl⟩
    unfold F_gantryref21_Terms_j24 at hF
    refine r_next (r_seq (r_reg (r_mv ?_)))
    refine r_as ?_
    refine r_nil (r_next (r_ret (r_toR (r_fzX 0 [2, 3, 20] rfl q21 ⟨rfl, rfl, rfl, trivial⟩ rfl ?_))))
    obtain rfl := sm1 hF
    exact r_done1 (.inl rfl) Tryz.results80 (.tmp rfl .nil) rfl rfl
  · skip
    obtain ⟨x17', hL, hRl23⟩ := bnd hF
    refine r_lp (fun k a w => ∃ (x10 : List api_Term), ∃ (x16 : Int), ∃ (b11 : Option Nat), ∃ (c12 : Nat), ∃ (n13 : Nat), F_gantryref21_Terms_l23 K a0 k x10 x16 = some x17' ∧ x10.length = n13 ∧ hs _ [hO api_Term.cod b11 c12 38 n13 x10] [(0, .vc (pS cQ a0)), (3, .vc (pO b11 n13 c12)), (4, .vc (pI .i64 x16))] a w) K (fun a w ⟨_, _, _, _, _, hF, _, _⟩ => by cases hF) (fun k a w ⟨x10, x16, b11, c12, n13, hF, q14, hh⟩ => r_at ?_ hh) (fun a w hh => ⟨([] : List api_Term), 0, none, 0, 0, hL, rfl, hs_back [0] rfl (by decide) (by exact ⟨rfl, rfl, rfl, trivial⟩) hh⟩)
    rw [F_gantryref21_Terms_l23.eq_2] at hF
    refine r_seq (r_seq (r_reg (r_mv ?_)))
    refine r_mv ?_
    refine r_op (t_ln rfl tyS24) ⟨rfl, trivial⟩ ?_
    refine r_op (t_lt rfl) ⟨rfl, rfl, trivial⟩ ?_
    refine r_nil (r_next (r_if rfl (fun h25 => ?_) (fun h25 => ?_)))
    · have hF := cnd_t h25 hF
      refine r_skip (r_next (r_seq (r_blk (r_reg (r_mv ?_)))))
      refine r_mv ?_
      refine r_mv ?_
      refine r_mv ?_
      obtain ⟨v26, h27, hF⟩ := bnd hF
      refine r_op (t_ix rfl tyS24 h27) ⟨rfl, rfl, trivial⟩ ?_
      refine r_op (t_lM 4 rfl rfl (.agg tyA35)) ⟨rfl, trivial⟩ ?_
      refine r_op (t_bld (is := [0, 1]) (xs := [.tmp 12, .tmp 16]) (ps := [.vc (pI .i64 x16), .va (eQ v26)]) rfl tyB38q rfl rfl ⟨trivial, trivial, trivial⟩ rfl) ⟨rfl, rfl, trivial⟩ ?_
      refine r_op (t_bs (C := api_Term.cod) (xs := [.tmp 17]) (ps := [.va ([pI .i64 x16] ++ (eQ v26))]) (zs := [(⟨x16, v26⟩ : api_Term)]) rfl tyS29 rfl ⟨⟨trivial, rfl⟩, trivial⟩ rfl) ⟨rfl, trivial⟩ ?_
      obtain ⟨x28, h29, hF⟩ := bnd hF
      refine r_app 0 rfl tyS29 rfl rfl q14 rfl rfl h29 (fun b30 c31 H32 e33 => ?_)
      cases e33
      refine r_as ?_
      refine r_nil (r_blkN (r_next (r_reg (r_mv ?_))))
      obtain ⟨v35, h36, hF⟩ := bnd hF
      refine r_op (t_add rfl h36) ⟨rfl, k_I _ _, trivial⟩ ?_
      refine r_as ?_
      refine r_nil ?_
      exact r_round (fun a w hh => ⟨x28, v35, b30, c31, (n13 + [(⟨x16, v26⟩ : api_Term)].length), hF, (apL_len h29 q14), hs_back [0] rfl (by decide) (by exact ⟨rfl, rfl, rfl, trivial⟩) hh⟩)
    · have hF := cnd_f h25 hF
      refine r_brk ?_
      obtain rfl := sm1 hF
      exact r_backJ Jj24 ⟨x10, b11, c12, n13, hRl23, q14, rfl, rfl⟩ [0] rfl ⟨rfl, trivial⟩

abbrev N_gantrylaw21_lives : Nat := 21
def F_gantrylaw21_lives (K : Nat) : Option Bool :=
  (qof 1 2).bind fun v1 => (qof 1 1).bind fun v3 => (qof (-3) 1).bind fun v5 => (qof 1 1).bind fun v7 => (qof 2 1).bind fun v9 => (qof 1 1).bind fun v11 => (qof (-1) 1).bind fun v13 => (F_energy_Kept K [(⟨v1, 0, false, 0, 0⟩ : api_Dof), (⟨v3, v5, false, 0, 0⟩ : api_Dof)] [(⟨0, 0, 0, 0, 0, [(⟨0, v11⟩ : api_Term), (⟨1, v13⟩ : api_Term)], ([] : List api_Term), 0, 0⟩ : api_Row)]).bind fun v16 => bif (v16.2 != 0) then (some false) else (bif ((v16.1.length : Int) != 1) then (some false) else ((rdL v16.1 0).bind fun v20 => (F_gantryref21_Terms K v20).bind fun v22 => (F_energy_Momentum K [(⟨v1, 0, false, 0, 0⟩ : api_Dof), (⟨v3, v5, false, 0, 0⟩ : api_Dof)] [v7, v9] v22).bind fun v24 => (F_energy_Momentum K [(⟨v1, 0, false, 0, 0⟩ : api_Dof), (⟨v3, v5, false, 0, 0⟩ : api_Dof)] [v7, v9] [(⟨2, 0⟩ : api_Term)]).bind fun v27 => (F_energy_Kinetic K [(⟨v1, 0, false, 0, 0⟩ : api_Dof), (⟨v3, v5, false, 0, 0⟩ : api_Dof)] [v7, v9]).bind fun v30 => (qof 6 1).bind fun v32 => (qsame v30 v32).bind fun v34 => bif v34 then ((qof 5 1).bind fun v37 => (qof 4 1).bind fun v39 => (F_energy_Stored K [(⟨v1, 0, false, 0, 0⟩ : api_Dof), (⟨v3, v5, false, 0, 0⟩ : api_Dof)] [v37, v39]).bind fun v41 => (qof 24 1).bind fun v43 => (qsame v41 v43).bind fun v45 => bif v45 then ((rdL v16.1 0).bind fun v50 => (qof 1 1).bind fun v52 => (qof 1 1).bind fun v54 => (F_gantryref09_SameRow K v50 [v52, v54]).bind fun v56 => bif v56 then (bif (v24.2 == 0) then ((qof 4 1).bind fun v60 => (qsame v24.1 v60).bind fun v62 => bif v62 then (some (v27.2 == 1)) else (some false)) else (some false)) else (some false)) else (some false)) else (some false)))
set_option maxRecDepth 100000 in
theorem ct_gantrylaw21_lives {K : Nat} {r : Bool} (hF : F_gantrylaw21_lives K = some r) : Ct Tryz.prog 21 [] (.vc (pB r)) := by
  unfold F_gantrylaw21_lives at hF
  refine ctO_intro Tryz.func21 rfl (by kernel_rfl) Tryz.ntmps21 rfl (fun w0 M0 => ?_)
  refine r_seq (r_reg (r_op (t_mv (.inr rfl)) ⟨k_B _, trivial⟩ ?_))
  refine r_nil (r_next (r_seq (r_reg (r_op (t_mv (.inr rfl)) ⟨k_F _, trivial⟩ ?_))))
  refine r_nil (r_next (r_seq (r_reg (r_mv ?_))))
  obtain ⟨v1, h2, hF⟩ := bnd hF
  refine r_op (t_callv (cs := []) (pre := [.vc (pI .i64 1), .vc (pI .i64 2)]) rfl (qc_gantryref05_Of h2) rfl) ⟨rfl, k_I _ _, k_I _ _, trivial⟩ ?_
  refine r_op (t_bld (is := [0]) (xs := [.tmp 13]) (ps := [.va (eQ v1)]) rfl tyB66q rfl rfl ⟨trivial, trivial⟩ rfl) ⟨rfl, trivial⟩ ?_
  refine r_mv ?_
  obtain ⟨v3, h4, hF⟩ := bnd hF
  refine r_op (t_callv (cs := []) (pre := [.vc (pI .i64 1), .vc (pI .i64 1)]) rfl (qc_gantryref05_Of h4) rfl) ⟨rfl, k_I _ _, k_I _ _, trivial⟩ ?_
  refine r_mv ?_
  obtain ⟨v5, h6, hF⟩ := bnd hF
  refine r_op (t_callv (cs := []) (pre := [.vc (pI .i64 (-3)), .vc (pI .i64 1)]) rfl (qc_gantryref05_Of h6) rfl) ⟨rfl, k_I _ _, k_I _ _, trivial⟩ ?_
  refine r_op (t_bld (is := [0, 1]) (xs := [.tmp 16, .tmp 18]) (ps := [.va (eQ v3), .va (eQ v5)]) rfl tyB66q rfl rfl ⟨trivial, trivial, trivial⟩ rfl) ⟨rfl, rfl, trivial⟩ ?_
  refine r_op (t_bs (C := api_Dof.cod) (xs := [.tmp 14, .tmp 19]) (ps := [.va ((eQ v1) ++ (eQ 0) ++ [pB false] ++ (eQ 0) ++ (eQ 0)), .va ((eQ v3) ++ (eQ v5) ++ [pB false] ++ (eQ 0) ++ (eQ 0))]) (zs := [(⟨v1, 0, false, 0, 0⟩ : api_Dof), (⟨v3, v5, false, 0, 0⟩ : api_Dof)]) rfl tyS23 rfl ⟨⟨trivial, rfl⟩, ⟨trivial, rfl⟩, trivial⟩ rfl) ⟨rfl, rfl, trivial⟩ ?_
  refine r_as ?_
  refine r_nil (r_next (r_seq (r_reg (r_mv ?_))))
  obtain ⟨v7, h8, hF⟩ := bnd hF
  refine r_op (t_callv (cs := []) (pre := [.vc (pI .i64 1), .vc (pI .i64 1)]) rfl (qc_gantryref05_Of h8) rfl) ⟨rfl, k_I _ _, k_I _ _, trivial⟩ ?_
  refine r_mv ?_
  obtain ⟨v9, h10, hF⟩ := bnd hF
  refine r_op (t_callv (cs := []) (pre := [.vc (pI .i64 2), .vc (pI .i64 1)]) rfl (qc_gantryref05_Of h10) rfl) ⟨rfl, k_I _ _, k_I _ _, trivial⟩ ?_
  refine r_op (t_bs (C := cQ) (xs := [.tmp 22, .tmp 24]) (ps := [.va (eQ v7), .va (eQ v9)]) (zs := [v7, v9]) rfl tyS24 rfl ⟨⟨trivial, rfl⟩, ⟨trivial, rfl⟩, trivial⟩ rfl) ⟨rfl, rfl, trivial⟩ ?_
  refine r_as ?_
  refine r_nil (r_next (r_seq (r_reg (r_mv ?_))))
  obtain ⟨v11, h12, hF⟩ := bnd hF
  refine r_op (t_callv (cs := []) (pre := [.vc (pI .i64 1), .vc (pI .i64 1)]) rfl (qc_gantryref05_Of h12) rfl) ⟨rfl, k_I _ _, k_I _ _, trivial⟩ ?_
  refine r_op (t_bld (is := [0, 1]) (xs := [.const (.int .i64 (0)), .tmp 27]) (ps := [.vc (pI .i64 0), .va (eQ v11)]) rfl tyB38q rfl rfl ⟨trivial, trivial, trivial⟩ rfl) ⟨k_I _ _, rfl, trivial⟩ ?_
  refine r_mv ?_
  obtain ⟨v13, h14, hF⟩ := bnd hF
  refine r_op (t_callv (cs := []) (pre := [.vc (pI .i64 (-1)), .vc (pI .i64 1)]) rfl (qc_gantryref05_Of h14) rfl) ⟨rfl, k_I _ _, k_I _ _, trivial⟩ ?_
  refine r_op (t_bld (is := [0, 1]) (xs := [.const (.int .i64 (1)), .tmp 30]) (ps := [.vc (pI .i64 1), .va (eQ v13)]) rfl tyB38q rfl rfl ⟨trivial, trivial, trivial⟩ rfl) ⟨k_I _ _, rfl, trivial⟩ ?_
  refine r_op (t_bs (C := api_Term.cod) (xs := [.tmp 28, .tmp 31]) (ps := [.va ([pI .i64 0] ++ (eQ v11)), .va ([pI .i64 1] ++ (eQ v13))]) (zs := [(⟨0, v11⟩ : api_Term), (⟨1, v13⟩ : api_Term)]) rfl tyS29 rfl ⟨⟨trivial, rfl⟩, ⟨trivial, rfl⟩, trivial⟩ rfl) ⟨rfl, rfl, trivial⟩ ?_
  refine r_op (t_bld (is := [5]) (xs := [.tmp 32]) (ps := [.vc (pS api_Term.cod [(⟨0, v11⟩ : api_Term), (⟨1, v13⟩ : api_Term)])]) rfl tyB40q rfl rfl ⟨trivial, trivial⟩ rfl) ⟨rfl, trivial⟩ ?_
  refine r_alloc rfl tyZ40q (fun b15 => ?_)
  refine r_op0 (t_s 0 rfl rfl rfl tyA40.s) ⟨rfl, rfl, trivial⟩ ?_
  refine r_nil (r_next (r_seq (r_reg (r_mv ?_))))
  refine r_op (t_l 0 18 rfl rfl rfl rfl (.agg tyA40)) ⟨rfl, trivial⟩ ?_
  refine r_op (t_bs (C := api_Row.cod) (xs := [.tmp 36]) (ps := [.va ([pI .i64 0] ++ [pI .i64 0] ++ [pI .i64 0] ++ [pI .i64 0] ++ (eQ 0) ++ [pS api_Term.cod [(⟨0, v11⟩ : api_Term), (⟨1, v13⟩ : api_Term)]] ++ [pS api_Term.cod ([] : List api_Term)] ++ (eQ 0) ++ (eQ 0))]) (zs := [(⟨0, 0, 0, 0, 0, [(⟨0, v11⟩ : api_Term), (⟨1, v13⟩ : api_Term)], ([] : List api_Term), 0, 0⟩ : api_Row)]) rfl tyS25 rfl ⟨⟨trivial, rfl⟩, trivial⟩ rfl) ⟨rfl, trivial⟩ ?_
  obtain ⟨v16, h17, hF⟩ := bnd hF
  refine r_op (t_call rfl (ct_energy_Kept h17) rfl) ⟨rfl, rfl, trivial⟩ ?_
  refine r_mv ?_
  refine r_op (t_ext2a rfl) ⟨rfl, trivial⟩ ?_
  refine r_op (t_ext2b rfl) ⟨rfl, trivial⟩ ?_
  refine r_as ?_
  refine r_as ?_
  refine r_nil (r_next (r_seq (r_seq (r_reg (r_mv ?_)))))
  refine r_op (t_ne rfl) ⟨rfl, k_I _ _, trivial⟩ ?_
  refine r_mv ?_
  refine r_bool (fun h18 => ?_) (fun h18 => ?_)
  · have hF := cnd_t h18 hF
    refine r_opn ?_
    refine r_opn ?_
    refine r_opn ?_
    refine r_op (t_pickT rfl) ⟨rfl, k_B _, trivial⟩ ?_
    refine r_nil (r_next (r_ifT rfl ?_))
    refine r_seq (r_reg (r_op (t_mv (.inr rfl)) ⟨k_B _, trivial⟩ ?_))
    refine r_nil (r_next (r_ret (r_toR ?_)))
    obtain rfl := sm1 hF
    exact r_done1 (.inl rfl) Tryz.results21 (.tmp rfl .nil) rfl rfl
  · have hF := cnd_f h18 hF
    refine r_opg (t_mv (.inl rfl)) ⟨rfl, trivial⟩ ?_
    refine r_opg (t_ln rfl tyS47) ⟨rfl, trivial⟩ ?_
    refine r_opg (t_ne rfl) ⟨rfl, k_I _ _, trivial⟩ ?_
    refine r_op (t_pickF rfl) ⟨rfl, rfl, trivial⟩ ?_
    refine r_nil (r_next (r_if rfl (fun h19 => ?_) (fun h19 => ?_)))
    · have hF := cnd_t h19 hF
      refine r_seq (r_reg (r_op (t_mv (.inr rfl)) ⟨k_B _, trivial⟩ ?_))
      refine r_nil (r_next (r_ret (r_toR ?_)))
      obtain rfl := sm1 hF
      exact r_done1 (.inl rfl) Tryz.results21 (.tmp rfl .nil) rfl rfl
    · have hF := cnd_f h19 hF
      refine r_skip (r_next (r_seq (r_reg (r_mv ?_))))
      refine r_mv ?_
      refine r_mv ?_
      obtain ⟨v20, h21, hF⟩ := bnd hF
      refine r_op (t_ix rfl tyS47 h21) ⟨rfl, k_I _ _, trivial⟩ ?_
      refine r_op (t_lM 1 rfl rfl (.one tyO24)) ⟨rfl, trivial⟩ ?_
      obtain ⟨v22, h23, hF⟩ := bnd hF
      refine r_op (t_call rfl (ct_gantryref21_Terms h23) rfl) ⟨rfl, trivial⟩ ?_
      obtain ⟨v24, h25, hF⟩ := bnd hF
      refine r_op (t_call rfl (ct_energy_Momentum h25) rfl) ⟨rfl, rfl, rfl, trivial⟩ ?_
      refine r_mv ?_
      refine r_op (t_ext2a rfl) ⟨rfl, trivial⟩ ?_
      refine r_op (t_ext2b rfl) ⟨rfl, trivial⟩ ?_
      refine r_alloc rfl tyZ35q (fun b26 => ?_)
      refine r_op0 (t_s 0 rfl rfl rfl tyA35.s) ⟨rfl, rfl, trivial⟩ ?_
      refine r_as ?_
      refine r_nil (r_next (r_seq (r_reg (r_mv ?_))))
      refine r_mv ?_
      refine r_op (t_bld (is := [0]) (xs := [.const (.int .i64 (2))]) (ps := [.vc (pI .i64 2)]) rfl tyB38q rfl rfl ⟨trivial, trivial⟩ rfl) ⟨k_I _ _, trivial⟩ ?_
      refine r_op (t_bs (C := api_Term.cod) (xs := [.tmp 61]) (ps := [.va ([pI .i64 2] ++ (eQ 0))]) (zs := [(⟨2, 0⟩ : api_Term)]) rfl tyS29 rfl ⟨⟨trivial, rfl⟩, trivial⟩ rfl) ⟨rfl, trivial⟩ ?_
      obtain ⟨v27, h28, hF⟩ := bnd hF
      refine r_op (t_call rfl (ct_energy_Momentum h28) rfl) ⟨rfl, rfl, rfl, trivial⟩ ?_
      refine r_mv ?_
      refine r_op (t_ext2a rfl) ⟨rfl, trivial⟩ ?_
      refine r_op (t_ext2b rfl) ⟨rfl, trivial⟩ ?_
      refine r_alloc rfl tyZ35q (fun b29 => ?_)
      refine r_op0 (t_s 0 rfl rfl rfl tyA35.s) ⟨rfl, rfl, trivial⟩ ?_
      refine r_as ?_
      refine r_nil (r_next (r_seq (r_reg (r_mv ?_))))
      refine r_mv ?_
      obtain ⟨v30, h31, hF⟩ := bnd hF
      refine r_op (t_call rfl (ct_energy_Kinetic h31) rfl) ⟨rfl, rfl, trivial⟩ ?_
      refine r_mv ?_
      obtain ⟨v32, h33, hF⟩ := bnd hF
      refine r_op (t_callv (cs := []) (pre := [.vc (pI .i64 6), .vc (pI .i64 1)]) rfl (qc_gantryref05_Of h33) rfl) ⟨rfl, k_I _ _, k_I _ _, trivial⟩ ?_
      obtain ⟨v34, h35, hF⟩ := bnd hF
      refine r_op (t_call rfl (qc_rat_Same h35) rfl) ⟨rfl, rfl, trivial⟩ ?_
      refine r_mv ?_
      refine r_bool (fun h36 => ?_) (fun h36 => ?_)
      · have hF := cnd_t h36 hF
        refine r_opg (t_mv (.inl rfl)) ⟨rfl, trivial⟩ ?_
        refine r_opg (t_mv (.inl rfl)) ⟨rfl, trivial⟩ ?_
        obtain ⟨v37, h38, hF⟩ := bnd hF
        refine r_opg (t_callv (cs := []) (pre := [.vc (pI .i64 5), .vc (pI .i64 1)]) rfl (qc_gantryref05_Of h38) rfl) ⟨rfl, k_I _ _, k_I _ _, trivial⟩ ?_
        refine r_opg (t_mv (.inl rfl)) ⟨rfl, trivial⟩ ?_
        obtain ⟨v39, h40, hF⟩ := bnd hF
        refine r_opg (t_callv (cs := []) (pre := [.vc (pI .i64 4), .vc (pI .i64 1)]) rfl (qc_gantryref05_Of h40) rfl) ⟨rfl, k_I _ _, k_I _ _, trivial⟩ ?_
        refine r_opg (t_bs (C := cQ) (xs := [.tmp 75, .tmp 77]) (ps := [.va (eQ v37), .va (eQ v39)]) (zs := [v37, v39]) rfl tyS24 rfl ⟨⟨trivial, rfl⟩, ⟨trivial, rfl⟩, trivial⟩ rfl) ⟨rfl, rfl, trivial⟩ ?_
        obtain ⟨v41, h42, hF⟩ := bnd hF
        refine r_opg (t_call rfl (ct_energy_Stored h42) rfl) ⟨rfl, rfl, trivial⟩ ?_
        refine r_opg (t_mv (.inl rfl)) ⟨rfl, trivial⟩ ?_
        obtain ⟨v43, h44, hF⟩ := bnd hF
        refine r_opg (t_callv (cs := []) (pre := [.vc (pI .i64 24), .vc (pI .i64 1)]) rfl (qc_gantryref05_Of h44) rfl) ⟨rfl, k_I _ _, k_I _ _, trivial⟩ ?_
        obtain ⟨v45, h46, hF⟩ := bnd hF
        refine r_opg (t_call rfl (qc_rat_Same h46) rfl) ⟨rfl, rfl, trivial⟩ ?_
        refine r_op (t_pickT rfl) ⟨rfl, rfl, trivial⟩ ?_
        refine r_as ?_
        refine r_nil (r_next (r_seq ?_))
        rcases Bool.eq_false_or_eq_true v45 with h49 | h49
        · have hF := cnd_t h49 hF
          obtain ⟨v50, h51, hF⟩ := bnd hF
          obtain ⟨v52, h53, hF⟩ := bnd hF
          obtain ⟨v54, h55, hF⟩ := bnd hF
          obtain ⟨v56, h57, hF⟩ := bnd hF
          rcases Bool.eq_false_or_eq_true v56 with h58 | h58
          · have hF := cnd_t h58 hF
            rcases Bool.eq_false_or_eq_true (v24.2 == 0) with h59 | h59
            · have hF := cnd_t h59 hF
              obtain ⟨v60, h61, hF⟩ := bnd hF
              obtain ⟨v62, h63, hF⟩ := bnd hF
              rcases Bool.eq_false_or_eq_true v62 with h64 | h64
              · have hF := cnd_t h64 hF
                refine r_draw (0 :: 1 :: 3 :: 7 :: 15 :: 3 :: 35 :: 3 :: 227 :: 483 :: 1023 :: 2047 :: 4095 :: 8191 :: 16383 :: 32767 :: 65535 :: 131071 :: 131071 :: 393215 :: 1048575 :: 2097151 :: 4194303 :: 8388607 :: 16777215 :: 33554431 :: 67108863 :: []) 27 0 (.v (.vc (pB v45)) :: .v (.vc (pB true)) :: .v (.vc (pS (cSl cQ) v16.1)) :: .v (.vc (pM ((cSl cQ).e v50))) :: .v (.vc (pS cQ v50)) :: .v (.vc (pF 14 [])) :: .v (.va (eQ v52)) :: .v (.vc (pF 14 [])) :: .v (.va (eQ v54)) :: .v (.vc (pS cQ [v52, v54])) :: .v (.vc (pB v56)) :: .v (.vc (pB v56)) :: .v (.vc (pB true)) :: .v (.vc (pI .i64 v24.2)) :: .v (.vc (pB (v24.2 == 0))) :: .v (.vc (pB (v24.2 == 0))) :: .v (.vc (pB true)) :: .v (.va (eQ v24.1)) :: .v (.vc (pF 14 [])) :: .v (.va (eQ v60)) :: .v (.vc (pB v62)) :: .v (.vc (pB v62)) :: .v (.vc (pB true)) :: .v (.vc (pI .i64 v27.2)) :: .v (.vc (pB (v27.2 == 1))) :: .v (.vc (pB (v27.2 == 1))) :: .v (.vc (pB (v27.2 == 1))) :: []) Tryz_mixed ⟨⟨rfl, .run (lo := 0) (n := 1) ⟨fun G47 A => t_mv (.inl rfl), trivial⟩ (fun G47 => ⟨rfl, trivial⟩)⟩, ⟨rfl, .run (lo := 0) (n := 1) ⟨fun G47 A => tr_bool (t_mv (.inl rfl)) h49, trivial⟩ (fun G47 => ⟨rfl, trivial⟩)⟩, ⟨rfl, .runG (lo := 0) (n := 1) ⟨fun G47 A => t_mv (.inl rfl), trivial⟩ (fun G47 => ⟨rfl, trivial⟩)⟩, ⟨rfl, .runG (lo := 0) (n := 1) ⟨fun G47 A => t_ix rfl tyS47 h51, trivial⟩ (fun G47 => ⟨rfl, k_I _ _, trivial⟩)⟩, ⟨rfl, .runG (lo := 0) (n := 1) ⟨fun G47 A => t_lM 1 rfl rfl (.one tyO24), trivial⟩ (fun G47 => ⟨rfl, trivial⟩)⟩, ⟨rfl, .runG (lo := 0) (n := 1) ⟨fun G47 A => t_mv (.inl rfl), trivial⟩ (fun G47 => ⟨rfl, trivial⟩)⟩, ⟨rfl, .runG (lo := 0) (n := 1) ⟨fun G47 A => t_callv (cs := []) (pre := [.vc (pI .i64 1), .vc (pI .i64 1)]) rfl (qc_gantryref05_Of h53) rfl, trivial⟩ (fun G47 => ⟨rfl, k_I _ _, k_I _ _, trivial⟩)⟩, ⟨rfl, .runG (lo := 0) (n := 1) ⟨fun G47 A => t_mv (.inl rfl), trivial⟩ (fun G47 => ⟨rfl, trivial⟩)⟩, ⟨rfl, .runG (lo := 0) (n := 1) ⟨fun G47 A => t_callv (cs := []) (pre := [.vc (pI .i64 1), .vc (pI .i64 1)]) rfl (qc_gantryref05_Of h55) rfl, trivial⟩ (fun G47 => ⟨rfl, k_I _ _, k_I _ _, trivial⟩)⟩, ⟨rfl, .runG (lo := 0) (n := 1) ⟨fun G47 A => t_bs (C := cQ) (xs := [.tmp 90, .tmp 92]) (ps := [.va (eQ v52), .va (eQ v54)]) (zs := [v52, v54]) rfl tyS24 rfl ⟨⟨trivial, rfl⟩, ⟨trivial, rfl⟩, trivial⟩ rfl, trivial⟩ (fun G47 => ⟨rfl, rfl, trivial⟩)⟩, ⟨rfl, .runG (lo := 0) (n := 1) ⟨fun G47 A => t_call rfl (ct_gantryref09_SameRow h57) rfl, trivial⟩ (fun G47 => ⟨rfl, rfl, trivial⟩)⟩, ⟨rfl, .run (lo := 0) (n := 1) ⟨fun G47 A => t_pickT rfl, trivial⟩ (fun G47 => ⟨rfl, rfl, trivial⟩)⟩, ⟨rfl, .run (lo := 0) (n := 1) ⟨fun G47 A => tr_bool (t_mv (.inl rfl)) h58, trivial⟩ (fun G47 => ⟨rfl, trivial⟩)⟩, ⟨rfl, .runG (lo := 0) (n := 1) ⟨fun G47 A => t_mv (.inl rfl), trivial⟩ (fun G47 => ⟨rfl, trivial⟩)⟩, ⟨rfl, .runG (lo := 0) (n := 1) ⟨fun G47 A => t_eq rfl, trivial⟩ (fun G47 => ⟨rfl, k_I _ _, trivial⟩)⟩, ⟨rfl, .run (lo := 0) (n := 1) ⟨fun G47 A => t_pickT rfl, trivial⟩ (fun G47 => ⟨rfl, rfl, trivial⟩)⟩, ⟨rfl, .run (lo := 0) (n := 1) ⟨fun G47 A => tr_bool (t_mv (.inl rfl)) h59, trivial⟩ (fun G47 => ⟨rfl, trivial⟩)⟩, ⟨rfl, .runG (lo := 0) (n := 1) ⟨fun G47 A => t_l 1 4 rfl rfl rfl rfl (.agg tyA35), trivial⟩ (fun G47 => ⟨rfl, trivial⟩)⟩, ⟨rfl, .runG (lo := 0) (n := 1) ⟨fun G47 A => t_mv (.inl rfl), trivial⟩ (fun G47 => ⟨rfl, trivial⟩)⟩, ⟨rfl, .runG (lo := 0) (n := 1) ⟨fun G47 A => t_callv (cs := []) (pre := [.vc (pI .i64 4), .vc (pI .i64 1)]) rfl (qc_gantryref05_Of h61) rfl, trivial⟩ (fun G47 => ⟨rfl, k_I _ _, k_I _ _, trivial⟩)⟩, ⟨rfl, .runG (lo := 0) (n := 1) ⟨fun G47 A => t_call rfl (qc_rat_Same h63) rfl, trivial⟩ (fun G47 => ⟨rfl, rfl, trivial⟩)⟩, ⟨rfl, .run (lo := 0) (n := 1) ⟨fun G47 A => t_pickT rfl, trivial⟩ (fun G47 => ⟨rfl, rfl, trivial⟩)⟩, ⟨rfl, .run (lo := 0) (n := 1) ⟨fun G47 A => tr_bool (t_mv (.inl rfl)) h64, trivial⟩ (fun G47 => ⟨rfl, trivial⟩)⟩, ⟨rfl, .runG (lo := 0) (n := 1) ⟨fun G47 A => t_mv (.inl rfl), trivial⟩ (fun G47 => ⟨rfl, trivial⟩)⟩, ⟨rfl, .runG (lo := 0) (n := 1) ⟨fun G47 A => t_eq rfl, trivial⟩ (fun G47 => ⟨rfl, k_I _ _, trivial⟩)⟩, ⟨rfl, .run (lo := 0) (n := 1) ⟨fun G47 A => t_pickT rfl, trivial⟩ (fun G47 => ⟨rfl, rfl, trivial⟩)⟩, ⟨rfl, .run (lo := 0) (n := 1) ⟨fun G47 A => t_mv (.inr rfl), trivial⟩ (fun G47 => ⟨rfl, trivial⟩)⟩, trivial⟩ (fun bs48 G47 => ?_)
                refine r_nil (r_next (r_ret (r_toR ?_)))
                obtain rfl := sm1 hF
                exact r_done1 (.inl rfl) Tryz.results21 (.tmp rfl .nil) rfl rfl
              · have hF := cnd_f h64 hF
                refine r_draw (0 :: 1 :: 3 :: 7 :: 15 :: 3 :: 35 :: 3 :: 227 :: 483 :: 1023 :: 2047 :: 4095 :: 8191 :: 16383 :: 32767 :: 65535 :: 131071 :: 131071 :: 393215 :: 1048575 :: 2097151 :: 4194303 :: 8388607 :: 16777215 :: 33554431 :: 67108863 :: []) 27 0 (.v (.vc (pB v45)) :: .v (.vc (pB true)) :: .v (.vc (pS (cSl cQ) v16.1)) :: .v (.vc (pM ((cSl cQ).e v50))) :: .v (.vc (pS cQ v50)) :: .v (.vc (pF 14 [])) :: .v (.va (eQ v52)) :: .v (.vc (pF 14 [])) :: .v (.va (eQ v54)) :: .v (.vc (pS cQ [v52, v54])) :: .v (.vc (pB v56)) :: .v (.vc (pB v56)) :: .v (.vc (pB true)) :: .v (.vc (pI .i64 v24.2)) :: .v (.vc (pB (v24.2 == 0))) :: .v (.vc (pB (v24.2 == 0))) :: .v (.vc (pB true)) :: .v (.va (eQ v24.1)) :: .v (.vc (pF 14 [])) :: .v (.va (eQ v60)) :: .v (.vc (pB v62)) :: .v (.vc (pB v62)) :: .v (.vc (pB false)) :: .v .any :: .v .any :: .v (.vc (pB false)) :: .v (.vc (pB false)) :: []) Tryz_mixed ⟨⟨rfl, .run (lo := 0) (n := 1) ⟨fun G47 A => t_mv (.inl rfl), trivial⟩ (fun G47 => ⟨rfl, trivial⟩)⟩, ⟨rfl, .run (lo := 0) (n := 1) ⟨fun G47 A => tr_bool (t_mv (.inl rfl)) h49, trivial⟩ (fun G47 => ⟨rfl, trivial⟩)⟩, ⟨rfl, .runG (lo := 0) (n := 1) ⟨fun G47 A => t_mv (.inl rfl), trivial⟩ (fun G47 => ⟨rfl, trivial⟩)⟩, ⟨rfl, .runG (lo := 0) (n := 1) ⟨fun G47 A => t_ix rfl tyS47 h51, trivial⟩ (fun G47 => ⟨rfl, k_I _ _, trivial⟩)⟩, ⟨rfl, .runG (lo := 0) (n := 1) ⟨fun G47 A => t_lM 1 rfl rfl (.one tyO24), trivial⟩ (fun G47 => ⟨rfl, trivial⟩)⟩, ⟨rfl, .runG (lo := 0) (n := 1) ⟨fun G47 A => t_mv (.inl rfl), trivial⟩ (fun G47 => ⟨rfl, trivial⟩)⟩, ⟨rfl, .runG (lo := 0) (n := 1) ⟨fun G47 A => t_callv (cs := []) (pre := [.vc (pI .i64 1), .vc (pI .i64 1)]) rfl (qc_gantryref05_Of h53) rfl, trivial⟩ (fun G47 => ⟨rfl, k_I _ _, k_I _ _, trivial⟩)⟩, ⟨rfl, .runG (lo := 0) (n := 1) ⟨fun G47 A => t_mv (.inl rfl), trivial⟩ (fun G47 => ⟨rfl, trivial⟩)⟩, ⟨rfl, .runG (lo := 0) (n := 1) ⟨fun G47 A => t_callv (cs := []) (pre := [.vc (pI .i64 1), .vc (pI .i64 1)]) rfl (qc_gantryref05_Of h55) rfl, trivial⟩ (fun G47 => ⟨rfl, k_I _ _, k_I _ _, trivial⟩)⟩, ⟨rfl, .runG (lo := 0) (n := 1) ⟨fun G47 A => t_bs (C := cQ) (xs := [.tmp 90, .tmp 92]) (ps := [.va (eQ v52), .va (eQ v54)]) (zs := [v52, v54]) rfl tyS24 rfl ⟨⟨trivial, rfl⟩, ⟨trivial, rfl⟩, trivial⟩ rfl, trivial⟩ (fun G47 => ⟨rfl, rfl, trivial⟩)⟩, ⟨rfl, .runG (lo := 0) (n := 1) ⟨fun G47 A => t_call rfl (ct_gantryref09_SameRow h57) rfl, trivial⟩ (fun G47 => ⟨rfl, rfl, trivial⟩)⟩, ⟨rfl, .run (lo := 0) (n := 1) ⟨fun G47 A => t_pickT rfl, trivial⟩ (fun G47 => ⟨rfl, rfl, trivial⟩)⟩, ⟨rfl, .run (lo := 0) (n := 1) ⟨fun G47 A => tr_bool (t_mv (.inl rfl)) h58, trivial⟩ (fun G47 => ⟨rfl, trivial⟩)⟩, ⟨rfl, .runG (lo := 0) (n := 1) ⟨fun G47 A => t_mv (.inl rfl), trivial⟩ (fun G47 => ⟨rfl, trivial⟩)⟩, ⟨rfl, .runG (lo := 0) (n := 1) ⟨fun G47 A => t_eq rfl, trivial⟩ (fun G47 => ⟨rfl, k_I _ _, trivial⟩)⟩, ⟨rfl, .run (lo := 0) (n := 1) ⟨fun G47 A => t_pickT rfl, trivial⟩ (fun G47 => ⟨rfl, rfl, trivial⟩)⟩, ⟨rfl, .run (lo := 0) (n := 1) ⟨fun G47 A => tr_bool (t_mv (.inl rfl)) h59, trivial⟩ (fun G47 => ⟨rfl, trivial⟩)⟩, ⟨rfl, .runG (lo := 0) (n := 1) ⟨fun G47 A => t_l 1 4 rfl rfl rfl rfl (.agg tyA35), trivial⟩ (fun G47 => ⟨rfl, trivial⟩)⟩, ⟨rfl, .runG (lo := 0) (n := 1) ⟨fun G47 A => t_mv (.inl rfl), trivial⟩ (fun G47 => ⟨rfl, trivial⟩)⟩, ⟨rfl, .runG (lo := 0) (n := 1) ⟨fun G47 A => t_callv (cs := []) (pre := [.vc (pI .i64 4), .vc (pI .i64 1)]) rfl (qc_gantryref05_Of h61) rfl, trivial⟩ (fun G47 => ⟨rfl, k_I _ _, k_I _ _, trivial⟩)⟩, ⟨rfl, .runG (lo := 0) (n := 1) ⟨fun G47 A => t_call rfl (qc_rat_Same h63) rfl, trivial⟩ (fun G47 => ⟨rfl, rfl, trivial⟩)⟩, ⟨rfl, .run (lo := 0) (n := 1) ⟨fun G47 A => t_pickT rfl, trivial⟩ (fun G47 => ⟨rfl, rfl, trivial⟩)⟩, ⟨rfl, .run (lo := 0) (n := 1) ⟨fun G47 A => tr_bool (t_mv (.inl rfl)) h64, trivial⟩ (fun G47 => ⟨rfl, trivial⟩)⟩, ⟨rfl, .skip⟩, ⟨rfl, .skip⟩, ⟨rfl, .run (lo := 0) (n := 1) ⟨fun G47 A => t_pickF rfl, trivial⟩ (fun G47 => ⟨rfl, k_B _, trivial⟩)⟩, ⟨rfl, .run (lo := 0) (n := 1) ⟨fun G47 A => t_mv (.inr rfl), trivial⟩ (fun G47 => ⟨rfl, trivial⟩)⟩, trivial⟩ (fun bs48 G47 => ?_)
                refine r_nil (r_next (r_ret (r_toR ?_)))
                obtain rfl := sm1 hF
                exact r_done1 (.inl rfl) Tryz.results21 (.tmp rfl .nil) rfl rfl
            · have hF := cnd_f h59 hF
              refine r_draw (0 :: 1 :: 3 :: 7 :: 15 :: 3 :: 35 :: 3 :: 227 :: 483 :: 1023 :: 2047 :: 4095 :: 8191 :: 16383 :: 32767 :: 65535 :: 131071 :: 131071 :: 393215 :: 1048575 :: 2097151 :: 4194303 :: 8388607 :: 16777215 :: 33554431 :: 67108863 :: []) 27 0 (.v (.vc (pB v45)) :: .v (.vc (pB true)) :: .v (.vc (pS (cSl cQ) v16.1)) :: .v (.vc (pM ((cSl cQ).e v50))) :: .v (.vc (pS cQ v50)) :: .v (.vc (pF 14 [])) :: .v (.va (eQ v52)) :: .v (.vc (pF 14 [])) :: .v (.va (eQ v54)) :: .v (.vc (pS cQ [v52, v54])) :: .v (.vc (pB v56)) :: .v (.vc (pB v56)) :: .v (.vc (pB true)) :: .v (.vc (pI .i64 v24.2)) :: .v (.vc (pB (v24.2 == 0))) :: .v (.vc (pB (v24.2 == 0))) :: .v (.vc (pB false)) :: .v .any :: .v .any :: .v .any :: .v .any :: .v (.vc (pB false)) :: .v (.vc (pB false)) :: .v .any :: .v .any :: .v (.vc (pB false)) :: .v (.vc (pB false)) :: []) Tryz_mixed ⟨⟨rfl, .run (lo := 0) (n := 1) ⟨fun G47 A => t_mv (.inl rfl), trivial⟩ (fun G47 => ⟨rfl, trivial⟩)⟩, ⟨rfl, .run (lo := 0) (n := 1) ⟨fun G47 A => tr_bool (t_mv (.inl rfl)) h49, trivial⟩ (fun G47 => ⟨rfl, trivial⟩)⟩, ⟨rfl, .runG (lo := 0) (n := 1) ⟨fun G47 A => t_mv (.inl rfl), trivial⟩ (fun G47 => ⟨rfl, trivial⟩)⟩, ⟨rfl, .runG (lo := 0) (n := 1) ⟨fun G47 A => t_ix rfl tyS47 h51, trivial⟩ (fun G47 => ⟨rfl, k_I _ _, trivial⟩)⟩, ⟨rfl, .runG (lo := 0) (n := 1) ⟨fun G47 A => t_lM 1 rfl rfl (.one tyO24), trivial⟩ (fun G47 => ⟨rfl, trivial⟩)⟩, ⟨rfl, .runG (lo := 0) (n := 1) ⟨fun G47 A => t_mv (.inl rfl), trivial⟩ (fun G47 => ⟨rfl, trivial⟩)⟩, ⟨rfl, .runG (lo := 0) (n := 1) ⟨fun G47 A => t_callv (cs := []) (pre := [.vc (pI .i64 1), .vc (pI .i64 1)]) rfl (qc_gantryref05_Of h53) rfl, trivial⟩ (fun G47 => ⟨rfl, k_I _ _, k_I _ _, trivial⟩)⟩, ⟨rfl, .runG (lo := 0) (n := 1) ⟨fun G47 A => t_mv (.inl rfl), trivial⟩ (fun G47 => ⟨rfl, trivial⟩)⟩, ⟨rfl, .runG (lo := 0) (n := 1) ⟨fun G47 A => t_callv (cs := []) (pre := [.vc (pI .i64 1), .vc (pI .i64 1)]) rfl (qc_gantryref05_Of h55) rfl, trivial⟩ (fun G47 => ⟨rfl, k_I _ _, k_I _ _, trivial⟩)⟩, ⟨rfl, .runG (lo := 0) (n := 1) ⟨fun G47 A => t_bs (C := cQ) (xs := [.tmp 90, .tmp 92]) (ps := [.va (eQ v52), .va (eQ v54)]) (zs := [v52, v54]) rfl tyS24 rfl ⟨⟨trivial, rfl⟩, ⟨trivial, rfl⟩, trivial⟩ rfl, trivial⟩ (fun G47 => ⟨rfl, rfl, trivial⟩)⟩, ⟨rfl, .runG (lo := 0) (n := 1) ⟨fun G47 A => t_call rfl (ct_gantryref09_SameRow h57) rfl, trivial⟩ (fun G47 => ⟨rfl, rfl, trivial⟩)⟩, ⟨rfl, .run (lo := 0) (n := 1) ⟨fun G47 A => t_pickT rfl, trivial⟩ (fun G47 => ⟨rfl, rfl, trivial⟩)⟩, ⟨rfl, .run (lo := 0) (n := 1) ⟨fun G47 A => tr_bool (t_mv (.inl rfl)) h58, trivial⟩ (fun G47 => ⟨rfl, trivial⟩)⟩, ⟨rfl, .runG (lo := 0) (n := 1) ⟨fun G47 A => t_mv (.inl rfl), trivial⟩ (fun G47 => ⟨rfl, trivial⟩)⟩, ⟨rfl, .runG (lo := 0) (n := 1) ⟨fun G47 A => t_eq rfl, trivial⟩ (fun G47 => ⟨rfl, k_I _ _, trivial⟩)⟩, ⟨rfl, .run (lo := 0) (n := 1) ⟨fun G47 A => t_pickT rfl, trivial⟩ (fun G47 => ⟨rfl, rfl, trivial⟩)⟩, ⟨rfl, .run (lo := 0) (n := 1) ⟨fun G47 A => tr_bool (t_mv (.inl rfl)) h59, trivial⟩ (fun G47 => ⟨rfl, trivial⟩)⟩, ⟨rfl, .skip⟩, ⟨rfl, .skip⟩, ⟨rfl, .skip⟩, ⟨rfl, .skip⟩, ⟨rfl, .run (lo := 0) (n := 1) ⟨fun G47 A => t_pickF rfl, trivial⟩ (fun G47 => ⟨rfl, k_B _, trivial⟩)⟩, ⟨rfl, .run (lo := 0) (n := 1) ⟨fun G47 A => t_mv (.inl rfl), trivial⟩ (fun G47 => ⟨rfl, trivial⟩)⟩, ⟨rfl, .skip⟩, ⟨rfl, .skip⟩, ⟨rfl, .run (lo := 0) (n := 1) ⟨fun G47 A => t_pickF rfl, trivial⟩ (fun G47 => ⟨rfl, k_B _, trivial⟩)⟩, ⟨rfl, .run (lo := 0) (n := 1) ⟨fun G47 A => t_mv (.inr rfl), trivial⟩ (fun G47 => ⟨rfl, trivial⟩)⟩, trivial⟩ (fun bs48 G47 => ?_)
              refine r_nil (r_next (r_ret (r_toR ?_)))
              obtain rfl := sm1 hF
              exact r_done1 (.inl rfl) Tryz.results21 (.tmp rfl .nil) rfl rfl
          · have hF := cnd_f h58 hF
            refine r_draw (0 :: 1 :: 3 :: 7 :: 15 :: 3 :: 35 :: 3 :: 227 :: 483 :: 1023 :: 2047 :: 4095 :: 8191 :: 16383 :: 32767 :: 65535 :: 131071 :: 131071 :: 393215 :: 1048575 :: 2097151 :: 4194303 :: 8388607 :: 16777215 :: 33554431 :: 67108863 :: []) 27 0 (.v (.vc (pB v45)) :: .v (.vc (pB true)) :: .v (.vc (pS (cSl cQ) v16.1)) :: .v (.vc (pM ((cSl cQ).e v50))) :: .v (.vc (pS cQ v50)) :: .v (.vc (pF 14 [])) :: .v (.va (eQ v52)) :: .v (.vc (pF 14 [])) :: .v (.va (eQ v54)) :: .v (.vc (pS cQ [v52, v54])) :: .v (.vc (pB v56)) :: .v (.vc (pB v56)) :: .v (.vc (pB false)) :: .v .any :: .v .any :: .v (.vc (pB false)) :: .v (.vc (pB false)) :: .v .any :: .v .any :: .v .any :: .v .any :: .v (.vc (pB false)) :: .v (.vc (pB false)) :: .v .any :: .v .any :: .v (.vc (pB false)) :: .v (.vc (pB false)) :: []) Tryz_mixed ⟨⟨rfl, .run (lo := 0) (n := 1) ⟨fun G47 A => t_mv (.inl rfl), trivial⟩ (fun G47 => ⟨rfl, trivial⟩)⟩, ⟨rfl, .run (lo := 0) (n := 1) ⟨fun G47 A => tr_bool (t_mv (.inl rfl)) h49, trivial⟩ (fun G47 => ⟨rfl, trivial⟩)⟩, ⟨rfl, .runG (lo := 0) (n := 1) ⟨fun G47 A => t_mv (.inl rfl), trivial⟩ (fun G47 => ⟨rfl, trivial⟩)⟩, ⟨rfl, .runG (lo := 0) (n := 1) ⟨fun G47 A => t_ix rfl tyS47 h51, trivial⟩ (fun G47 => ⟨rfl, k_I _ _, trivial⟩)⟩, ⟨rfl, .runG (lo := 0) (n := 1) ⟨fun G47 A => t_lM 1 rfl rfl (.one tyO24), trivial⟩ (fun G47 => ⟨rfl, trivial⟩)⟩, ⟨rfl, .runG (lo := 0) (n := 1) ⟨fun G47 A => t_mv (.inl rfl), trivial⟩ (fun G47 => ⟨rfl, trivial⟩)⟩, ⟨rfl, .runG (lo := 0) (n := 1) ⟨fun G47 A => t_callv (cs := []) (pre := [.vc (pI .i64 1), .vc (pI .i64 1)]) rfl (qc_gantryref05_Of h53) rfl, trivial⟩ (fun G47 => ⟨rfl, k_I _ _, k_I _ _, trivial⟩)⟩, ⟨rfl, .runG (lo := 0) (n := 1) ⟨fun G47 A => t_mv (.inl rfl), trivial⟩ (fun G47 => ⟨rfl, trivial⟩)⟩, ⟨rfl, .runG (lo := 0) (n := 1) ⟨fun G47 A => t_callv (cs := []) (pre := [.vc (pI .i64 1), .vc (pI .i64 1)]) rfl (qc_gantryref05_Of h55) rfl, trivial⟩ (fun G47 => ⟨rfl, k_I _ _, k_I _ _, trivial⟩)⟩, ⟨rfl, .runG (lo := 0) (n := 1) ⟨fun G47 A => t_bs (C := cQ) (xs := [.tmp 90, .tmp 92]) (ps := [.va (eQ v52), .va (eQ v54)]) (zs := [v52, v54]) rfl tyS24 rfl ⟨⟨trivial, rfl⟩, ⟨trivial, rfl⟩, trivial⟩ rfl, trivial⟩ (fun G47 => ⟨rfl, rfl, trivial⟩)⟩, ⟨rfl, .runG (lo := 0) (n := 1) ⟨fun G47 A => t_call rfl (ct_gantryref09_SameRow h57) rfl, trivial⟩ (fun G47 => ⟨rfl, rfl, trivial⟩)⟩, ⟨rfl, .run (lo := 0) (n := 1) ⟨fun G47 A => t_pickT rfl, trivial⟩ (fun G47 => ⟨rfl, rfl, trivial⟩)⟩, ⟨rfl, .run (lo := 0) (n := 1) ⟨fun G47 A => tr_bool (t_mv (.inl rfl)) h58, trivial⟩ (fun G47 => ⟨rfl, trivial⟩)⟩, ⟨rfl, .skip⟩, ⟨rfl, .skip⟩, ⟨rfl, .run (lo := 0) (n := 1) ⟨fun G47 A => t_pickF rfl, trivial⟩ (fun G47 => ⟨rfl, k_B _, trivial⟩)⟩, ⟨rfl, .run (lo := 0) (n := 1) ⟨fun G47 A => t_mv (.inl rfl), trivial⟩ (fun G47 => ⟨rfl, trivial⟩)⟩, ⟨rfl, .skip⟩, ⟨rfl, .skip⟩, ⟨rfl, .skip⟩, ⟨rfl, .skip⟩, ⟨rfl, .run (lo := 0) (n := 1) ⟨fun G47 A => t_pickF rfl, trivial⟩ (fun G47 => ⟨rfl, k_B _, trivial⟩)⟩, ⟨rfl, .run (lo := 0) (n := 1) ⟨fun G47 A => t_mv (.inl rfl), trivial⟩ (fun G47 => ⟨rfl, trivial⟩)⟩, ⟨rfl, .skip⟩, ⟨rfl, .skip⟩, ⟨rfl, .run (lo := 0) (n := 1) ⟨fun G47 A => t_pickF rfl, trivial⟩ (fun G47 => ⟨rfl, k_B _, trivial⟩)⟩, ⟨rfl, .run (lo := 0) (n := 1) ⟨fun G47 A => t_mv (.inr rfl), trivial⟩ (fun G47 => ⟨rfl, trivial⟩)⟩, trivial⟩ (fun bs48 G47 => ?_)
            refine r_nil (r_next (r_ret (r_toR ?_)))
            obtain rfl := sm1 hF
            exact r_done1 (.inl rfl) Tryz.results21 (.tmp rfl .nil) rfl rfl
        · have hF := cnd_f h49 hF
          refine r_draw (0 :: 1 :: 3 :: 7 :: 15 :: 3 :: 35 :: 3 :: 227 :: 483 :: 1023 :: 2047 :: 4095 :: 8191 :: 16383 :: 32767 :: 65535 :: 131071 :: 131071 :: 393215 :: 1048575 :: 2097151 :: 4194303 :: 8388607 :: 16777215 :: 33554431 :: 67108863 :: []) 27 0 (.v (.vc (pB v45)) :: .v (.vc (pB false)) :: .v .any :: .v .any :: .v .any :: .v .any :: .v .any :: .v .any :: .v .any :: .v .any :: .v .any :: .v (.vc (pB false)) :: .v (.vc (pB false)) :: .v .any :: .v .any :: .v (.vc (pB false)) :: .v (.vc (pB false)) :: .v .any :: .v .any :: .v .any :: .v .any :: .v (.vc (pB false)) :: .v (.vc (pB false)) :: .v .any :: .v .any :: .v (.vc (pB false)) :: .v (.vc (pB false)) :: []) Tryz_mixed ⟨⟨rfl, .run (lo := 0) (n := 1) ⟨fun G47 A => t_mv (.inl rfl), trivial⟩ (fun G47 => ⟨rfl, trivial⟩)⟩, ⟨rfl, .run (lo := 0) (n := 1) ⟨fun G47 A => tr_bool (t_mv (.inl rfl)) h49, trivial⟩ (fun G47 => ⟨rfl, trivial⟩)⟩, ⟨rfl, .skip⟩, ⟨rfl, .skip⟩, ⟨rfl, .skip⟩, ⟨rfl, .skip⟩, ⟨rfl, .skip⟩, ⟨rfl, .skip⟩, ⟨rfl, .skip⟩, ⟨rfl, .skip⟩, ⟨rfl, .skip⟩, ⟨rfl, .run (lo := 0) (n := 1) ⟨fun G47 A => t_pickF rfl, trivial⟩ (fun G47 => ⟨rfl, k_B _, trivial⟩)⟩, ⟨rfl, .run (lo := 0) (n := 1) ⟨fun G47 A => t_mv (.inl rfl), trivial⟩ (fun G47 => ⟨rfl, trivial⟩)⟩, ⟨rfl, .skip⟩, ⟨rfl, .skip⟩, ⟨rfl, .run (lo := 0) (n := 1) ⟨fun G47 A => t_pickF rfl, trivial⟩ (fun G47 => ⟨rfl, k_B _, trivial⟩)⟩, ⟨rfl, .run (lo := 0) (n := 1) ⟨fun G47 A => t_mv (.inl rfl), trivial⟩ (fun G47 => ⟨rfl, trivial⟩)⟩, ⟨rfl, .skip⟩, ⟨rfl, .skip⟩, ⟨rfl, .skip⟩, ⟨rfl, .skip⟩, ⟨rfl, .run (lo := 0) (n := 1) ⟨fun G47 A => t_pickF rfl, trivial⟩ (fun G47 => ⟨rfl, k_B _, trivial⟩)⟩, ⟨rfl, .run (lo := 0) (n := 1) ⟨fun G47 A => t_mv (.inl rfl), trivial⟩ (fun G47 => ⟨rfl, trivial⟩)⟩, ⟨rfl, .skip⟩, ⟨rfl, .skip⟩, ⟨rfl, .run (lo := 0) (n := 1) ⟨fun G47 A => t_pickF rfl, trivial⟩ (fun G47 => ⟨rfl, k_B _, trivial⟩)⟩, ⟨rfl, .run (lo := 0) (n := 1) ⟨fun G47 A => t_mv (.inr rfl), trivial⟩ (fun G47 => ⟨rfl, trivial⟩)⟩, trivial⟩ (fun bs48 G47 => ?_)
          refine r_nil (r_next (r_ret (r_toR ?_)))
          obtain rfl := sm1 hF
          exact r_done1 (.inl rfl) Tryz.results21 (.tmp rfl .nil) rfl rfl
      · have hF := cnd_f h36 hF
        refine r_opn ?_
        refine r_opn ?_
        refine r_opn ?_
        refine r_opn ?_
        refine r_opn ?_
        refine r_opn ?_
        refine r_opn ?_
        refine r_opn ?_
        refine r_opn ?_
        refine r_opn ?_
        refine r_op (t_pickF rfl) ⟨rfl, k_B _, trivial⟩ ?_
        refine r_as ?_
        refine r_nil (r_next (r_seq (r_draw (0 :: 1 :: 3 :: 7 :: 15 :: 3 :: 35 :: 3 :: 227 :: 483 :: 1023 :: 2047 :: 4095 :: 8191 :: 16383 :: 32767 :: 65535 :: 131071 :: 131071 :: 393215 :: 1048575 :: 2097151 :: 4194303 :: 8388607 :: 16777215 :: 33554431 :: 67108863 :: []) 27 0 (.v (.vc (pB false)) :: .v (.vc (pB false)) :: .v .any :: .v .any :: .v .any :: .v .any :: .v .any :: .v .any :: .v .any :: .v .any :: .v .any :: .v (.vc (pB false)) :: .v (.vc (pB false)) :: .v .any :: .v .any :: .v (.vc (pB false)) :: .v (.vc (pB false)) :: .v .any :: .v .any :: .v .any :: .v .any :: .v (.vc (pB false)) :: .v (.vc (pB false)) :: .v .any :: .v .any :: .v (.vc (pB false)) :: .v (.vc (pB false)) :: []) Tryz_mixed ⟨⟨rfl, .run (lo := 0) (n := 1) ⟨fun G65 A => t_mv (.inl rfl), trivial⟩ (fun G65 => ⟨rfl, trivial⟩)⟩, ⟨rfl, .run (lo := 0) (n := 1) ⟨fun G65 A => t_mv (.inl rfl), trivial⟩ (fun G65 => ⟨rfl, trivial⟩)⟩, ⟨rfl, .skip⟩, ⟨rfl, .skip⟩, ⟨rfl, .skip⟩, ⟨rfl, .skip⟩, ⟨rfl, .skip⟩, ⟨rfl, .skip⟩, ⟨rfl, .skip⟩, ⟨rfl, .skip⟩, ⟨rfl, .skip⟩, ⟨rfl, .run (lo := 0) (n := 1) ⟨fun G65 A => t_pickF rfl, trivial⟩ (fun G65 => ⟨rfl, k_B _, trivial⟩)⟩, ⟨rfl, .run (lo := 0) (n := 1) ⟨fun G65 A => t_mv (.inl rfl), trivial⟩ (fun G65 => ⟨rfl, trivial⟩)⟩, ⟨rfl, .skip⟩, ⟨rfl, .skip⟩, ⟨rfl, .run (lo := 0) (n := 1) ⟨fun G65 A => t_pickF rfl, trivial⟩ (fun G65 => ⟨rfl, k_B _, trivial⟩)⟩, ⟨rfl, .run (lo := 0) (n := 1) ⟨fun G65 A => t_mv (.inl rfl), trivial⟩ (fun G65 => ⟨rfl, trivial⟩)⟩, ⟨rfl, .skip⟩, ⟨rfl, .skip⟩, ⟨rfl, .skip⟩, ⟨rfl, .skip⟩, ⟨rfl, .run (lo := 0) (n := 1) ⟨fun G65 A => t_pickF rfl, trivial⟩ (fun G65 => ⟨rfl, k_B _, trivial⟩)⟩, ⟨rfl, .run (lo := 0) (n := 1) ⟨fun G65 A => t_mv (.inl rfl), trivial⟩ (fun G65 => ⟨rfl, trivial⟩)⟩, ⟨rfl, .skip⟩, ⟨rfl, .skip⟩, ⟨rfl, .run (lo := 0) (n := 1) ⟨fun G65 A => t_pickF rfl, trivial⟩ (fun G65 => ⟨rfl, k_B _, trivial⟩)⟩, ⟨rfl, .run (lo := 0) (n := 1) ⟨fun G65 A => t_mv (.inr rfl), trivial⟩ (fun G65 => ⟨rfl, trivial⟩)⟩, trivial⟩ (fun bs66 G65 => ?_))))
        refine r_nil (r_next (r_ret (r_toR ?_)))
        obtain rfl := sm1 hF
        exact r_done1 (.inl rfl) Tryz.results21 (.tmp rfl .nil) rfl rfl

abbrev N_gantrylaw21_EnergyMomenta : Nat := 3
def F_gantrylaw21_EnergyMomenta_j63 (K : Nat) : Option Bool :=
  (F_gantrylaw21_lives K ).bind fun v64 => some v64
def F_gantrylaw21_EnergyMomenta_l62 (K : Nat) (v1 : gantryref19_Scene) (x38 : List api_Row) (x47 : List api_Row) : Nat → Int → Option (LR Bool Unit)
  | 0, _ => none
  | k + 1, x61 => bif (decide (x61 < 4)) then ((rdL [v1.rows, x38, x47, []] x61).bind fun v69 => (F_energy_Kept K v1.dofs v69).bind fun v71 => (rdL [v1.rows, x38, x47, []] x61).bind fun v75 => (F_gantryref21_Kept K v1.dofs v75).bind fun v77 => bif (v71.2 != v77.2) then (some (.ret false)) else ((F_gantryref09_Same K v71.1 v77.1).bind fun v80 => bif (!v80) then (some (.ret false)) else ((chk (x61 + 1)).bind fun v83 => F_gantrylaw21_EnergyMomenta_l62 K v1 x38 x47 k v83))) else (some (.go ()))
def F_gantrylaw21_EnergyMomenta_j49 (K : Nat) (v1 : gantryref19_Scene) (x20 : List api_Term) (x38 : List api_Row) (x47 : List api_Row) : Option Bool :=
  (F_energy_Momentum K v1.dofs v1.v x20).bind fun v50 => (F_gantryref21_Momentum K v1.dofs v1.v x20).bind fun v53 => bif (v50.2 != v53.2) then (some false) else ((qsame v50.1 v53.1).bind fun v57 => bif (!v57) then (some false) else ((F_gantrylaw21_EnergyMomenta_l62 K v1 x38 x47 K 0).bind fun o => match o with | .ret r => some r | .go _ => F_gantrylaw21_EnergyMomenta_j63 K ))
def F_gantrylaw21_EnergyMomenta_l48 (K : Nat) (a3 : Int) : Nat → (List api_Row) → Option (List api_Row)
  | 0, _ => none
  | k + 1, x46 => (F_gantryref01_Around a3 4).bind fun v85 => (chk (62 + v85)).bind fun v87 => bif (decide ((x46.length : Int) < v87)) then ((apL ([] : List api_Row) x46).bind fun x93 => (qof 1 1).bind fun v100 => (apL x93 [(⟨0, 0, 0, 0, 0, [(⟨0, v100⟩ : api_Term)], ([] : List api_Term), 0, 0⟩ : api_Row)]).bind fun x102 => F_gantrylaw21_EnergyMomenta_l48 K a3 k x102) else (some x46)
def F_gantrylaw21_EnergyMomenta_j27 (K : Nat) (a3 : Int) (v1 : gantryref19_Scene) (x20 : List api_Term) : Option Bool :=
  (apL ([] : List api_Row) v1.rows).bind fun x31 => (apL x31 [(⟨0, 0, 0, 0, 0, x20, ([] : List api_Term), 0, 0⟩ : api_Row), (⟨0, 0, 0, 0, 0, ([] : List api_Term), x20, 0, 0⟩ : api_Row)]).bind fun x38 => (F_gantrylaw21_EnergyMomenta_l48 K a3 K v1.rows).bind fun x47 => F_gantrylaw21_EnergyMomenta_j49 K v1 x20 x38 x47
def F_gantrylaw21_EnergyMomenta_l26 (K : Nat) (a1 : List Int) (a2 : Int) : Nat → (List api_Term) → Int → Option (List api_Term)
  | 0, _, _ => none
  | k + 1, x13, x19 => (F_gantryref01_Around a2 6).bind fun v109 => bif (decide (x19 < v109)) then ((chk (2 * x19)).bind fun v112 => (F_gantryref01_At a1 v112 9).bind fun v114 => (chk (v114 - 1)).bind fun v116 => (chk (2 * x19)).bind fun v118 => (chk (v118 + 1)).bind fun v120 => (F_gantryref01_At a1 v120 1073741824).bind fun v122 => (F_gantryref05_Small v122).bind fun v124 => (apL x13 [(⟨v116, v124⟩ : api_Term)]).bind fun x126 => (chk (x19 + 1)).bind fun v133 => F_gantrylaw21_EnergyMomenta_l26 K a1 a2 k x126 v133) else (some x13)
def F_gantrylaw21_EnergyMomenta (K : Nat) (a0 : List Int) (a1 : List Int) (a2 : Int) (a3 : Int) : Option Bool :=
  (F_gantryref19_Make K a0 false).bind fun v1 => (F_gantrylaw21_EnergyMomenta_l26 K a1 a2 K ([] : List api_Term) 0).bind fun x20 => F_gantrylaw21_EnergyMomenta_j27 K a3 v1 x20
set_option maxRecDepth 100000 in
theorem ct_gantrylaw21_EnergyMomenta {K : Nat} {a0 : List Int} {a1 : List Int} {a2 : Int} {a3 : Int} {r : Bool} (hF : F_gantrylaw21_EnergyMomenta K a0 a1 a2 a3 = some r) : Ct Tryz.prog 3 [.vc (pS cI a0), .vc (pS cI a1), .vc (pI .i64 a2), .vc (pI .i64 a3)] (.vc (pB r)) := by
  unfold F_gantrylaw21_EnergyMomenta at hF
  refine ctO_intro Tryz.func3 rfl (by kernel_rfl) Tryz.ntmps3 rfl (fun w0 M0 => ?_)
  refine r_seq (r_reg (r_op (t_mv (.inr rfl)) ⟨k_B _, trivial⟩ ?_))
  refine r_nil (r_next (r_seq (r_reg (r_mv ?_))))
  obtain ⟨v1, h2, hF⟩ := bnd hF
  refine r_op (t_call rfl (ct_gantryref19_Make h2) rfl) ⟨rfl, k_B _, trivial⟩ ?_
  refine r_alloc rfl tyZ27q (fun b3 => ?_)
  refine r_op0 (t_s 0 rfl rfl rfl tyA27.s) ⟨rfl, rfl, trivial⟩ ?_
  refine r_nil (r_next (r_seq (r_reg (r_nilO api_Term.cod 38 rfl ?_))))
  refine r_nil (r_next (r_seq (r_seq (r_reg (r_op (t_mv (.inr rfl)) ⟨k_I _ _, trivial⟩ ?_)))))
  refine r_nil (r_next (r_blk (r_cutN (fun H E => ∃ (x20 : List api_Term), ∃ (b21 : Option Nat), ∃ (c22 : Nat), ∃ (n23 : Nat), F_gantrylaw21_EnergyMomenta_j27 K a3 v1 x20 = some r ∧ x20.length = n23 ∧ H = [hO api_Term.cod b21 c22 38 n23 x20, ⟨some b3, 1, 27, 4, 1, (gantryref19_Scene.enc v1)⟩] ∧ E = [(3, .vc (pI .i64 a3)), (9, .vc (pP (some b3) 0)), (10, .vc (pO b21 n23 c22))]) ?_ (fun Jj27 => ?_))))
  · rintro _ _ ⟨x20, b21, c22, n23, hF, q24, rfl, rfl⟩
    unfold F_gantrylaw21_EnergyMomenta_j27 at hF
    refine r_next (r_seq (r_reg (r_hv (hv_bs (C := api_Row.cod) (xs := []) (ps := []) (zs := ([] : List api_Row)) rfl tyS25 rfl trivial rfl) trivial (fun b28 _ => ?_))))
    refine r_op (t_fa (off := 0) (k := 3) rfl tyF27_3) ⟨rfl, trivial⟩ ?_
    refine r_op (t_l 2 1 rfl rfl rfl rfl (.one tyO25)) ⟨rfl, trivial⟩ ?_
    obtain ⟨x31, h32, hF⟩ := bnd hF
    refine r_app 0 rfl tyS25 rfl rfl rfl rfl rfl h32 (fun b33 c34 H35 e36 => ?_)
    cases e36
    refine r_mv ?_
    refine r_fzL 1 [10, 51] rfl q24 ⟨rfl, rfl, trivial⟩ rfl ?_
    refine r_op (t_bld (is := [5]) (xs := [.tmp 51]) (ps := [.vc (pS api_Term.cod x20)]) rfl tyB40q rfl rfl ⟨trivial, trivial⟩ rfl) ⟨rfl, trivial⟩ ?_
    refine r_mv ?_
    refine r_op (t_bld (is := [6]) (xs := [.tmp 53]) (ps := [.vc (pS api_Term.cod x20)]) rfl tyB40q rfl rfl ⟨trivial, trivial⟩ rfl) ⟨rfl, trivial⟩ ?_
    refine r_op (t_bs (C := api_Row.cod) (xs := [.tmp 52, .tmp 54]) (ps := [.va ([pI .i64 0] ++ [pI .i64 0] ++ [pI .i64 0] ++ [pI .i64 0] ++ (eQ 0) ++ [pS api_Term.cod x20] ++ [pS api_Term.cod ([] : List api_Term)] ++ (eQ 0) ++ (eQ 0)), .va ([pI .i64 0] ++ [pI .i64 0] ++ [pI .i64 0] ++ [pI .i64 0] ++ (eQ 0) ++ [pS api_Term.cod ([] : List api_Term)] ++ [pS api_Term.cod x20] ++ (eQ 0) ++ (eQ 0))]) (zs := [(⟨0, 0, 0, 0, 0, x20, ([] : List api_Term), 0, 0⟩ : api_Row), (⟨0, 0, 0, 0, 0, ([] : List api_Term), x20, 0, 0⟩ : api_Row)]) rfl tyS25 rfl ⟨⟨trivial, rfl⟩, ⟨trivial, rfl⟩, trivial⟩ rfl) ⟨rfl, rfl, trivial⟩ ?_
    obtain ⟨x38, h39, hF⟩ := bnd hF
    refine r_app 0 rfl tyS25 rfl rfl (apL_len h32 rfl) rfl rfl h39 (fun b40 c41 H42 e43 => ?_)
    cases e43
    refine r_as ?_
    refine r_nil (r_next (r_seq (r_reg (r_op (t_fa (off := 0) (k := 3) rfl tyF27_3) ⟨rfl, trivial⟩ ?_))))
    refine r_op (t_l 1 1 rfl rfl rfl rfl (.one tyO25)) ⟨rfl, trivial⟩ ?_
    refine r_as ?_
    refine r_nil (r_next (r_seq (r_blk (r_cutN (fun H E => ∃ (x47 : List api_Row), F_gantrylaw21_EnergyMomenta_j49 K v1 x20 x38 x47 = some r ∧ H = [hO api_Row.cod b40 c41 40 ((0 + v1.rows.length) + [(⟨0, 0, 0, 0, 0, x20, ([] : List api_Term), 0, 0⟩ : api_Row), (⟨0, 0, 0, 0, 0, ([] : List api_Term), x20, 0, 0⟩ : api_Row)].length) x38, ⟨some b3, 1, 27, 4, 1, (gantryref19_Scene.enc v1)⟩] ∧ E = [(9, .vc (pP (some b3) 0)), (10, .vc (pS api_Term.cod x20)), (12, .vc (pO b40 ((0 + v1.rows.length) + [(⟨0, 0, 0, 0, 0, x20, ([] : List api_Term), 0, 0⟩ : api_Row), (⟨0, 0, 0, 0, 0, ([] : List api_Term), x20, 0, 0⟩ : api_Row)].length) c41)), (13, .vc (pS api_Row.cod x47))]) ?_ (fun Jj49 => ?_)))))
    · rintro _ _ ⟨x47, hF, rfl, rfl⟩
      unfold F_gantrylaw21_EnergyMomenta_j49 at hF
      refine r_next (r_seq (r_reg (r_op (t_fa (off := 0) (k := 3) rfl tyF27_3) ⟨rfl, trivial⟩ ?_)))
      refine r_op (t_l 1 1 rfl rfl rfl rfl (.one tyO25)) ⟨rfl, trivial⟩ ?_
      refine r_mv ?_
      refine r_mv ?_
      refine r_fzL 0 [12, 76] rfl (apL_len h39 (apL_len h32 rfl)) ⟨rfl, rfl, trivial⟩ rfl ?_
      refine r_op (t_bs (C := (cSl api_Row.cod)) (xs := [.tmp 75, .tmp 76, .tmp 77, .const (.slice none 0 0)]) (ps := [.vc (pS api_Row.cod v1.rows), .vc (pS api_Row.cod x38), .vc (pS api_Row.cod x47), .vc (pS api_Row.cod [])]) (zs := [v1.rows, x38, x47, []]) rfl tyS42 rfl ⟨⟨trivial, rfl⟩, ⟨trivial, rfl⟩, ⟨trivial, rfl⟩, ⟨trivial, rfl⟩, trivial⟩ rfl) ⟨rfl, rfl, rfl, k_nil api_Row.cod, trivial⟩ ?_
      refine r_as ?_
      refine r_nil (r_next (r_seq (r_reg (r_op (t_fa (off := 0) (k := 0) rfl tyF27_0) ⟨rfl, trivial⟩ ?_))))
      refine r_op (t_l 0 1 rfl rfl rfl rfl (.one tyO23)) ⟨rfl, trivial⟩ ?_
      refine r_op (t_fa (off := 0) (k := 2) rfl tyF27_2) ⟨rfl, trivial⟩ ?_
      refine r_op (t_l 0 1 rfl rfl rfl rfl (.one tyO24)) ⟨rfl, trivial⟩ ?_
      refine r_mv ?_
      obtain ⟨v50, h51, hF⟩ := bnd hF
      refine r_op (t_call rfl (ct_energy_Momentum h51) rfl) ⟨rfl, rfl, rfl, trivial⟩ ?_
      refine r_mv ?_
      refine r_op (t_ext2a rfl) ⟨rfl, trivial⟩ ?_
      refine r_op (t_ext2b rfl) ⟨rfl, trivial⟩ ?_
      refine r_alloc rfl tyZ35q (fun b52 => ?_)
      refine r_op0 (t_s 0 rfl rfl rfl tyA35.s) ⟨rfl, rfl, trivial⟩ ?_
      refine r_as ?_
      refine r_nil (r_next (r_seq (r_reg (r_op (t_fa (off := 0) (k := 0) rfl tyF27_0) ⟨rfl, trivial⟩ ?_))))
      refine r_op (t_l 1 1 rfl rfl rfl rfl (.one tyO23)) ⟨rfl, trivial⟩ ?_
      refine r_op (t_fa (off := 0) (k := 2) rfl tyF27_2) ⟨rfl, trivial⟩ ?_
      refine r_op (t_l 1 1 rfl rfl rfl rfl (.one tyO24)) ⟨rfl, trivial⟩ ?_
      refine r_mv ?_
      obtain ⟨v53, h54, hF⟩ := bnd hF
      refine r_op (t_call rfl (ct_gantryref21_Momentum h54) rfl) ⟨rfl, rfl, rfl, trivial⟩ ?_
      refine r_mv ?_
      refine r_op (t_ext2a rfl) ⟨rfl, trivial⟩ ?_
      refine r_op (t_ext2b rfl) ⟨rfl, trivial⟩ ?_
      refine r_alloc rfl tyZ35q (fun b55 => ?_)
      refine r_op0 (t_s 0 rfl rfl rfl tyA35.s) ⟨rfl, rfl, trivial⟩ ?_
      refine r_as ?_
      refine r_nil (r_next (r_seq (r_seq (r_reg (r_mv ?_)))))
      refine r_mv ?_
      refine r_op (t_ne rfl) ⟨rfl, rfl, trivial⟩ ?_
      refine r_mv ?_
      refine r_bool (fun h56 => ?_) (fun h56 => ?_)
      · have hF := cnd_t h56 hF
        refine r_opn ?_
        refine r_opn ?_
        refine r_opn ?_
        refine r_opn ?_
        refine r_op (t_pickT rfl) ⟨rfl, k_B _, trivial⟩ ?_
        refine r_nil (r_next (r_ifT rfl ?_))
        refine r_seq (r_reg (r_op (t_mv (.inr rfl)) ⟨k_B _, trivial⟩ ?_))
        refine r_nil (r_next (r_ret (r_toR ?_)))
        obtain rfl := sm1 hF
        exact r_done1 (.inl rfl) Tryz.results3 (.tmp rfl .nil) rfl rfl
      · have hF := cnd_f h56 hF
        refine r_opg (t_l 1 4 rfl rfl rfl rfl (.agg tyA35)) ⟨rfl, trivial⟩ ?_
        refine r_opg (t_l 0 4 rfl rfl rfl rfl (.agg tyA35)) ⟨rfl, trivial⟩ ?_
        obtain ⟨v57, h58, hF⟩ := bnd hF
        refine r_opg (t_call rfl (qc_rat_Same h58) rfl) ⟨rfl, rfl, trivial⟩ ?_
        refine r_opg (t_not rfl) ⟨rfl, trivial⟩ ?_
        refine r_op (t_pickF rfl) ⟨rfl, rfl, trivial⟩ ?_
        refine r_nil (r_next (r_if rfl (fun h59 => ?_) (fun h59 => ?_)))
        · have hF := cnd_t h59 hF
          refine r_seq (r_reg (r_op (t_mv (.inr rfl)) ⟨k_B _, trivial⟩ ?_))
          refine r_nil (r_next (r_ret (r_toR ?_)))
          obtain rfl := sm1 hF
          exact r_done1 (.inl rfl) Tryz.results3 (.tmp rfl .nil) rfl rfl
        · have hF := cnd_f h59 hF
          refine r_skip (r_next (r_seq (r_seq (r_reg (r_op (t_mv (.inr rfl)) ⟨k_I _ _, trivial⟩ ?_)))))
          refine r_nil (r_next (r_blk (r_cutN (fun H E => F_gantrylaw21_EnergyMomenta_j63 K = some r ∧ H = [] ∧ E = []) ?_ (fun Jj63 => ?_))))
          · rintro _ _ ⟨hF, rfl, rfl⟩
            unfold F_gantrylaw21_EnergyMomenta_j63 at hF
            refine r_next (r_seq (r_reg ?_))
            obtain ⟨v64, h65, hF⟩ := bnd hF
            refine r_op (t_call rfl (ct_gantrylaw21_lives h65) rfl) trivial ?_
            refine r_as ?_
            refine r_nil (r_next (r_ret (r_toR ?_)))
            obtain rfl := sm1 hF
            exact r_done1 (.inl rfl) Tryz.results3 (.tmp rfl .nil) rfl rfl
          · skip
            obtain ⟨ol62, hL, hRl62⟩ := bnd hF
            refine r_lp (fun k a w => ∃ (x61 : Int), F_gantrylaw21_EnergyMomenta_l62 K v1 x38 x47 k x61 = some ol62 ∧ hs _ [⟨some b3, 1, 27, 4, 1, (gantryref19_Scene.enc v1)⟩] [(9, .vc (pP (some b3) 0)), (14, .vc (pS (cSl api_Row.cod) [v1.rows, x38, x47, []])), (19, .vc (pI .i64 x61))] a w) K (fun a w ⟨_, hF, _⟩ => by cases hF) (fun k a w ⟨x61, hF, hh⟩ => r_at ?_ hh) (fun a w hh => ⟨0, hL, hs_back [2] rfl (by decide) (by exact ⟨rfl, rfl, rfl, trivial⟩) hh⟩)
            rw [F_gantrylaw21_EnergyMomenta_l62.eq_2] at hF
            refine r_seq (r_seq (r_reg (r_mv ?_)))
            refine r_op (t_lt rfl) ⟨rfl, k_I _ _, trivial⟩ ?_
            refine r_nil (r_next (r_if rfl (fun h66 => ?_) (fun h66 => ?_)))
            · have hF := cnd_t h66 hF
              refine r_skip (r_next (r_seq (r_blk (r_seq ?_))))
              obtain ⟨v69, h70, hF⟩ := bnd hF
              obtain ⟨v71, h72, hF⟩ := bnd hF
              refine r_draw [0, 1, 0, 0, 12, 28, 63, 127, 255, 255, 511, 2047] 12 0 [.v (.vc (pP (some b3) 0)), .v (.vc (pS api_Dof.cod v1.dofs)), .v (.vc (pS (cSl api_Row.cod) [v1.rows, x38, x47, []])), .v (.vc (pI .i64 x61)), .v (.vc (pM ((cSl api_Row.cod).e v69))), .v (.vc (pS api_Row.cod v69)), .v ((.t2 (.vc (pS (cSl cQ) v71.1)) (.vc (pI .i64 v71.2)))), .v ((.t2 (.vc (pS (cSl cQ) v71.1)) (.vc (pI .i64 v71.2)))), .v (.vc (pS (cSl cQ) v71.1)), .v (.vc (pI .i64 v71.2)), .v (.vc (pS (cSl cQ) v71.1)), .v (.vc (pI .i64 v71.2))] Tryz_mixed ⟨⟨rfl, .run (lo := 0) (n := 1) ⟨fun G67 A => t_fa (off := 0) (k := 0) rfl tyF27_0, trivial⟩ (fun G67 => ⟨rfl, trivial⟩)⟩, ⟨rfl, .run (lo := 0) (n := 1) ⟨fun G67 A => t_l 0 1 rfl rfl rfl rfl (.one tyO23), trivial⟩ (fun G67 => ⟨rfl, trivial⟩)⟩, ⟨rfl, .run (lo := 0) (n := 1) ⟨fun G67 A => t_mv (.inl rfl), trivial⟩ (fun G67 => ⟨rfl, trivial⟩)⟩, ⟨rfl, .run (lo := 0) (n := 1) ⟨fun G67 A => t_mv (.inl rfl), trivial⟩ (fun G67 => ⟨rfl, trivial⟩)⟩, ⟨rfl, .run (lo := 0) (n := 1) ⟨fun G67 A => t_ix rfl tyS42 h70, trivial⟩ (fun G67 => ⟨rfl, rfl, trivial⟩)⟩, ⟨rfl, .run (lo := 0) (n := 1) ⟨fun G67 A => t_lM 1 rfl rfl (.one tyO25), trivial⟩ (fun G67 => ⟨rfl, trivial⟩)⟩, ⟨rfl, .run (lo := 0) (n := 1) ⟨fun G67 A => t_call rfl (ct_energy_Kept h72) rfl, trivial⟩ (fun G67 => ⟨rfl, rfl, trivial⟩)⟩, ⟨rfl, .run (lo := 0) (n := 1) ⟨fun G67 A => t_mv (.inl rfl), trivial⟩ (fun G67 => ⟨rfl, trivial⟩)⟩, ⟨rfl, .run (lo := 0) (n := 1) ⟨fun G67 A => t_ext2a rfl, trivial⟩ (fun G67 => ⟨rfl, trivial⟩)⟩, ⟨rfl, .run (lo := 0) (n := 1) ⟨fun G67 A => t_ext2b rfl, trivial⟩ (fun G67 => ⟨rfl, trivial⟩)⟩, ⟨rfl, .run (lo := 0) (n := 1) ⟨fun G67 A => t_mv (.inr rfl), trivial⟩ (fun G67 => ⟨rfl, trivial⟩)⟩, ⟨rfl, .run (lo := 0) (n := 1) ⟨fun G67 A => t_mv (.inr rfl), trivial⟩ (fun G67 => ⟨rfl, trivial⟩)⟩, trivial⟩ (fun bs68 G67 => ?_)
              refine r_nil (r_next (r_seq ?_))
              obtain ⟨v75, h76, hF⟩ := bnd hF
              obtain ⟨v77, h78, hF⟩ := bnd hF
              refine r_draw [0, 1, 0, 0, 12, 28, 63, 127, 255, 255, 511, 2047] 12 0 [.v (.vc (pP (some b3) 0)), .v (.vc (pS api_Dof.cod v1.dofs)), .v (.vc (pS (cSl api_Row.cod) [v1.rows, x38, x47, []])), .v (.vc (pI .i64 x61)), .v (.vc (pM ((cSl api_Row.cod).e v75))), .v (.vc (pS api_Row.cod v75)), .v ((.t2 (.vc (pS (cSl cQ) v77.1)) (.vc (pI .i64 v77.2)))), .v ((.t2 (.vc (pS (cSl cQ) v77.1)) (.vc (pI .i64 v77.2)))), .v (.vc (pS (cSl cQ) v77.1)), .v (.vc (pI .i64 v77.2)), .v (.vc (pS (cSl cQ) v77.1)), .v (.vc (pI .i64 v77.2))] Tryz_mixed ⟨⟨rfl, .run (lo := 0) (n := 1) ⟨fun G73 A => t_fa (off := 0) (k := 0) rfl tyF27_0, trivial⟩ (fun G73 => ⟨rfl, trivial⟩)⟩, ⟨rfl, .run (lo := 0) (n := 1) ⟨fun G73 A => t_l 0 1 rfl rfl rfl rfl (.one tyO23), trivial⟩ (fun G73 => ⟨rfl, trivial⟩)⟩, ⟨rfl, .run (lo := 0) (n := 1) ⟨fun G73 A => t_mv (.inl rfl), trivial⟩ (fun G73 => ⟨rfl, trivial⟩)⟩, ⟨rfl, .run (lo := 0) (n := 1) ⟨fun G73 A => t_mv (.inl rfl), trivial⟩ (fun G73 => ⟨rfl, trivial⟩)⟩, ⟨rfl, .run (lo := 0) (n := 1) ⟨fun G73 A => t_ix rfl tyS42 h76, trivial⟩ (fun G73 => ⟨rfl, rfl, trivial⟩)⟩, ⟨rfl, .run (lo := 0) (n := 1) ⟨fun G73 A => t_lM 1 rfl rfl (.one tyO25), trivial⟩ (fun G73 => ⟨rfl, trivial⟩)⟩, ⟨rfl, .run (lo := 0) (n := 1) ⟨fun G73 A => t_call rfl (ct_gantryref21_Kept h78) rfl, trivial⟩ (fun G73 => ⟨rfl, rfl, trivial⟩)⟩, ⟨rfl, .run (lo := 0) (n := 1) ⟨fun G73 A => t_mv (.inl rfl), trivial⟩ (fun G73 => ⟨rfl, trivial⟩)⟩, ⟨rfl, .run (lo := 0) (n := 1) ⟨fun G73 A => t_ext2a rfl, trivial⟩ (fun G73 => ⟨rfl, trivial⟩)⟩, ⟨rfl, .run (lo := 0) (n := 1) ⟨fun G73 A => t_ext2b rfl, trivial⟩ (fun G73 => ⟨rfl, trivial⟩)⟩, ⟨rfl, .run (lo := 0) (n := 1) ⟨fun G73 A => t_mv (.inr rfl), trivial⟩ (fun G73 => ⟨rfl, trivial⟩)⟩, ⟨rfl, .run (lo := 0) (n := 1) ⟨fun G73 A => t_mv (.inr rfl), trivial⟩ (fun G73 => ⟨rfl, trivial⟩)⟩, trivial⟩ (fun bs74 G73 => ?_)
              refine r_nil (r_next (r_seq (r_reg (r_mv ?_))))
              refine r_mv ?_
              refine r_op (t_ne rfl) ⟨rfl, rfl, trivial⟩ ?_
              refine r_mv ?_
              refine r_bool (fun h79 => ?_) (fun h79 => ?_)
              · have hF := cnd_t h79 hF
                refine r_opn ?_
                refine r_opn ?_
                refine r_opn ?_
                refine r_opn ?_
                refine r_op (t_pickT rfl) ⟨rfl, k_B _, trivial⟩ ?_
                refine r_nil (r_next (r_ifT rfl ?_))
                refine r_seq (r_reg (r_op (t_mv (.inr rfl)) ⟨k_B _, trivial⟩ ?_))
                refine r_nil (r_next (r_ret (r_toR ?_)))
                obtain rfl := sm1 hF
                obtain rfl := sm1 hRl62
                exact r_done1 (.inl rfl) Tryz.results3 (.tmp rfl .nil) rfl rfl
              · have hF := cnd_f h79 hF
                refine r_opg (t_mv (.inl rfl)) ⟨rfl, trivial⟩ ?_
                refine r_opg (t_mv (.inl rfl)) ⟨rfl, trivial⟩ ?_
                obtain ⟨v80, h81, hF⟩ := bnd hF
                refine r_opg (t_call rfl (ct_gantryref09_Same h81) rfl) ⟨rfl, rfl, trivial⟩ ?_
                refine r_opg (t_not rfl) ⟨rfl, trivial⟩ ?_
                refine r_op (t_pickF rfl) ⟨rfl, rfl, trivial⟩ ?_
                refine r_nil (r_next (r_if rfl (fun h82 => ?_) (fun h82 => ?_)))
                · have hF := cnd_t h82 hF
                  refine r_seq (r_reg (r_op (t_mv (.inr rfl)) ⟨k_B _, trivial⟩ ?_))
                  refine r_nil (r_next (r_ret (r_toR ?_)))
                  obtain rfl := sm1 hF
                  obtain rfl := sm1 hRl62
                  exact r_done1 (.inl rfl) Tryz.results3 (.tmp rfl .nil) rfl rfl
                · have hF := cnd_f h82 hF
                  refine r_skip (r_blkN (r_next (r_reg (r_mv ?_))))
                  obtain ⟨v83, h84, hF⟩ := bnd hF
                  refine r_op (t_add rfl h84) ⟨rfl, k_I _ _, trivial⟩ ?_
                  refine r_as ?_
                  refine r_nil ?_
                  exact r_round (fun a w hh => ⟨v83, hF, hs_back [0] rfl (by decide) (by exact ⟨rfl, rfl, rfl, trivial⟩) hh⟩)
            · have hF := cnd_f h66 hF
              refine r_brk ?_
              obtain rfl := sm1 hF
              exact r_backJ Jj63 ⟨hRl62, rfl, rfl⟩ [] rfl trivial
    · skip
      obtain ⟨x47', hL, hRl48⟩ := bnd hF
      refine r_lp (fun k a w => ∃ (x46 : List api_Row), F_gantrylaw21_EnergyMomenta_l48 K a3 k x46 = some x47' ∧ hs _ [hO api_Row.cod b40 c41 40 ((0 + v1.rows.length) + [(⟨0, 0, 0, 0, 0, x20, ([] : List api_Term), 0, 0⟩ : api_Row), (⟨0, 0, 0, 0, 0, ([] : List api_Term), x20, 0, 0⟩ : api_Row)].length) x38, ⟨some b3, 1, 27, 4, 1, (gantryref19_Scene.enc v1)⟩] [(3, .vc (pI .i64 a3)), (9, .vc (pP (some b3) 0)), (10, .vc (pS api_Term.cod x20)), (12, .vc (pO b40 ((0 + v1.rows.length) + [(⟨0, 0, 0, 0, 0, x20, ([] : List api_Term), 0, 0⟩ : api_Row), (⟨0, 0, 0, 0, 0, ([] : List api_Term), x20, 0, 0⟩ : api_Row)].length) c41)), (13, .vc (pS api_Row.cod x46))] a w) K (fun a w ⟨_, hF, _⟩ => by cases hF) (fun k a w ⟨x46, hF, hh⟩ => r_at ?_ hh) (fun a w hh => ⟨v1.rows, hL, hs_back [0, 1] rfl (by decide) (by exact ⟨rfl, rfl, rfl, rfl, rfl, trivial⟩) hh⟩)
      rw [F_gantrylaw21_EnergyMomenta_l48.eq_2] at hF
      refine r_seq (r_seq (r_reg (r_mv ?_)))
      refine r_op (t_ln rfl tyS25) ⟨rfl, trivial⟩ ?_
      refine r_mv ?_
      obtain ⟨v85, h86, hF⟩ := bnd hF
      refine r_op (t_call rfl (ct_gantryref01_Around h86) rfl) ⟨rfl, k_I _ _, trivial⟩ ?_
      obtain ⟨v87, h88, hF⟩ := bnd hF
      refine r_op (t_add rfl h88) ⟨k_I _ _, rfl, trivial⟩ ?_
      refine r_op (t_lt rfl) ⟨rfl, rfl, trivial⟩ ?_
      refine r_nil (r_next (r_if rfl (fun h89 => ?_) (fun h89 => ?_)))
      · have hF := cnd_t h89 hF
        refine r_skip (r_next (r_blk (r_reg (r_hv (hv_bs (C := api_Row.cod) (xs := []) (ps := []) (zs := ([] : List api_Row)) rfl tyS25 rfl trivial rfl) trivial (fun b90 _ => ?_)))))
        refine r_mv ?_
        obtain ⟨x93, h94, hF⟩ := bnd hF
        refine r_app 0 rfl tyS25 rfl rfl rfl rfl rfl h94 (fun b95 c96 H97 e98 => ?_)
        cases e98
        obtain ⟨v100, h101, hF⟩ := bnd hF
        refine r_op (t_call rfl (qc_gantryref05_Of h101) rfl) ⟨k_I _ _, k_I _ _, trivial⟩ ?_
        refine r_op (t_bld (is := [0, 1]) (xs := [.const (.int .i64 (0)), .tmp 68]) (ps := [.vc (pI .i64 0), .va (eQ v100)]) rfl tyB38q rfl rfl ⟨trivial, trivial, trivial⟩ rfl) ⟨k_I _ _, rfl, trivial⟩ ?_
        refine r_op (t_bs (C := api_Term.cod) (xs := [.tmp 69]) (ps := [.va ([pI .i64 0] ++ (eQ v100))]) (zs := [(⟨0, v100⟩ : api_Term)]) rfl tyS29 rfl ⟨⟨trivial, rfl⟩, trivial⟩ rfl) ⟨rfl, trivial⟩ ?_
        refine r_op (t_bld (is := [5]) (xs := [.tmp 70]) (ps := [.vc (pS api_Term.cod [(⟨0, v100⟩ : api_Term)])]) rfl tyB40q rfl rfl ⟨trivial, trivial⟩ rfl) ⟨rfl, trivial⟩ ?_
        refine r_op (t_bs (C := api_Row.cod) (xs := [.tmp 71]) (ps := [.va ([pI .i64 0] ++ [pI .i64 0] ++ [pI .i64 0] ++ [pI .i64 0] ++ (eQ 0) ++ [pS api_Term.cod [(⟨0, v100⟩ : api_Term)]] ++ [pS api_Term.cod ([] : List api_Term)] ++ (eQ 0) ++ (eQ 0))]) (zs := [(⟨0, 0, 0, 0, 0, [(⟨0, v100⟩ : api_Term)], ([] : List api_Term), 0, 0⟩ : api_Row)]) rfl tyS25 rfl ⟨⟨trivial, rfl⟩, trivial⟩ rfl) ⟨rfl, trivial⟩ ?_
        obtain ⟨x102, h103, hF⟩ := bnd hF
        refine r_app 0 rfl tyS25 rfl rfl (apL_len h94 rfl) rfl rfl h103 (fun b104 c105 H106 e107 => ?_)
        cases e107
        refine r_as ?_
        refine r_nil (r_blkN (r_fzX 0 [13, 73] rfl (apL_len h103 (apL_len h94 rfl)) ⟨rfl, rfl, trivial⟩ rfl ?_))
        exact r_round (fun a w hh => ⟨x102, hF, hs_back [0, 1] rfl (by decide) (by exact ⟨rfl, rfl, rfl, rfl, rfl, trivial⟩) hh⟩)
      · have hF := cnd_f h89 hF
        refine r_brk ?_
        obtain rfl := sm1 hF
        exact r_backJ Jj49 ⟨x46, hRl48, rfl, rfl⟩ [0, 1] rfl ⟨rfl, rfl, rfl, rfl, trivial⟩
  · skip
    obtain ⟨x20', hL, hRl26⟩ := bnd hF
    refine r_lp (fun k a w => ∃ (x13 : List api_Term), ∃ (x19 : Int), ∃ (b14 : Option Nat), ∃ (c15 : Nat), ∃ (n16 : Nat), F_gantrylaw21_EnergyMomenta_l26 K a1 a2 k x13 x19 = some x20' ∧ x13.length = n16 ∧ hs _ [hO api_Term.cod b14 c15 38 n16 x13, ⟨some b3, 1, 27, 4, 1, (gantryref19_Scene.enc v1)⟩] [(1, .vc (pS cI a1)), (2, .vc (pI .i64 a2)), (3, .vc (pI .i64 a3)), (9, .vc (pP (some b3) 0)), (10, .vc (pO b14 n16 c15)), (11, .vc (pI .i64 x19))] a w) K (fun a w ⟨_, _, _, _, _, hF, _, _⟩ => by cases hF) (fun k a w ⟨x13, x19, b14, c15, n16, hF, q17, hh⟩ => r_at ?_ hh) (fun a w hh => ⟨([] : List api_Term), 0, none, 0, 0, hL, rfl, hs_back [0, 1] rfl (by decide) (by exact ⟨rfl, rfl, rfl, rfl, rfl, rfl, trivial⟩) hh⟩)
    rw [F_gantrylaw21_EnergyMomenta_l26.eq_2] at hF
    refine r_seq (r_seq (r_reg (r_mv ?_)))
    refine r_mv ?_
    obtain ⟨v109, h110, hF⟩ := bnd hF
    refine r_op (t_call rfl (ct_gantryref01_Around h110) rfl) ⟨rfl, k_I _ _, trivial⟩ ?_
    refine r_op (t_lt rfl) ⟨rfl, rfl, trivial⟩ ?_
    refine r_nil (r_next (r_if rfl (fun h111 => ?_) (fun h111 => ?_)))
    · have hF := cnd_t h111 hF
      refine r_skip (r_next (r_seq (r_blk (r_reg (r_mv ?_)))))
      refine r_mv ?_
      refine r_mv ?_
      obtain ⟨v112, h113, hF⟩ := bnd hF
      refine r_op (t_mul rfl h113) ⟨k_I _ _, rfl, trivial⟩ ?_
      obtain ⟨v114, h115, hF⟩ := bnd hF
      refine r_op (t_call rfl (ct_gantryref01_At h115) rfl) ⟨rfl, rfl, k_I _ _, trivial⟩ ?_
      obtain ⟨v116, h117, hF⟩ := bnd hF
      refine r_op (t_sub rfl h117) ⟨rfl, k_I _ _, trivial⟩ ?_
      refine r_mv ?_
      refine r_mv ?_
      obtain ⟨v118, h119, hF⟩ := bnd hF
      refine r_op (t_mul rfl h119) ⟨k_I _ _, rfl, trivial⟩ ?_
      obtain ⟨v120, h121, hF⟩ := bnd hF
      refine r_op (t_add rfl h121) ⟨rfl, k_I _ _, trivial⟩ ?_
      obtain ⟨v122, h123, hF⟩ := bnd hF
      refine r_op (t_call rfl (ct_gantryref01_At h123) rfl) ⟨rfl, rfl, k_I _ _, trivial⟩ ?_
      obtain ⟨v124, h125, hF⟩ := bnd hF
      refine r_op (t_call rfl (ct_gantryref05_Small h125) rfl) ⟨rfl, trivial⟩ ?_
      refine r_op (t_bld (is := [0, 1]) (xs := [.tmp 37, .tmp 43]) (ps := [.vc (pI .i64 v116), .va (eQ v124)]) rfl tyB38q rfl rfl ⟨trivial, trivial, trivial⟩ rfl) ⟨rfl, rfl, trivial⟩ ?_
      refine r_op (t_bs (C := api_Term.cod) (xs := [.tmp 44]) (ps := [.va ([pI .i64 v116] ++ (eQ v124))]) (zs := [(⟨v116, v124⟩ : api_Term)]) rfl tyS29 rfl ⟨⟨trivial, rfl⟩, trivial⟩ rfl) ⟨rfl, trivial⟩ ?_
      obtain ⟨x126, h127, hF⟩ := bnd hF
      refine r_app 0 rfl tyS29 rfl rfl q17 rfl rfl h127 (fun b128 c129 H130 e131 => ?_)
      cases e131
      refine r_as ?_
      refine r_nil (r_blkN (r_next (r_reg (r_mv ?_))))
      obtain ⟨v133, h134, hF⟩ := bnd hF
      refine r_op (t_add rfl h134) ⟨rfl, k_I _ _, trivial⟩ ?_
      refine r_as ?_
      refine r_nil ?_
      exact r_round (fun a w hh => ⟨x126, v133, b128, c129, (n16 + [(⟨v116, v124⟩ : api_Term)].length), hF, (apL_len h127 q17), hs_back [0, 1] rfl (by decide) (by exact ⟨rfl, rfl, rfl, rfl, rfl, rfl, trivial⟩) hh⟩)
    · have hF := cnd_f h111 hF
      refine r_brk ?_
      obtain rfl := sm1 hF
      exact r_backJ Jj27 ⟨x13, b14, c15, n16, hRl26, q17, rfl, rfl⟩ [0, 1] rfl ⟨rfl, rfl, rfl, trivial⟩

end Go.Proofs.YtkjnngaceacmdaaGreat
