import Derived.Test.YtkjnngaceacmdaaI1
set_option linter.unusedVariables false
namespace Go.Proofs.Ytkjnngaceacmdaa
def F_gantryref04_divided_j54 (K : Nat) (x46 : List Int) (x52 : List Int) : Option ((List Int) × (List Int)) :=
  some (x46, x52)
def F_gantryref04_divided_j80 (K : Nat) (a1 : List Int) (x38 : List Int) (x45 : Int) (v68 : GInt) (recl53 : (List Int) → (List Int) → Int → Option ((List Int) × (List Int))) (x78 : Int) : Option ((List Int) × (List Int)) :=
  (F_gantryref04_times K a1 x78).bind fun v81 => (F_gantryref04_minus K v68.d v81).bind fun v83 => (F_gantryref04_normal K false v83).bind fun v85 => (rdL x38 x45).bind fun v88 => (stL x38 x45 x78).bind fun x90 => (chk (x45 - 1)).bind fun v93 => recl53 x90 v85.d v93
def F_gantryref04_divided_l79 (K : Nat) (a1 : List Int) (v68 : GInt) : Nat → Int → Int → Option Int
  | 0, _, _ => none
  | k + 1, x76, x77 => bif (decide (x76 < x77)) then ((chk (x76 + x77)).bind fun v96 => (chk (v96 + 1)).bind fun v98 => (chq v98 2).bind fun v100 => (F_gantryref04_times K a1 v100).bind fun v102 => (F_gantryref04_compared K v102 v68.d).bind fun v104 => bif (decide (v104 ≤ 0)) then (F_gantryref04_divided_l79 K a1 v68 k v100 x77) else ((chk (v100 - 1)).bind fun v107 => F_gantryref04_divided_l79 K a1 v68 k x76 v107)) else (some x76)
def F_gantryref04_divided_j73 (K : Nat) (a1 : List Int) (x38 : List Int) (x45 : Int) (v68 : GInt) (recl53 : (List Int) → (List Int) → Int → Option ((List Int) × (List Int))) (x72 : Int) : Option ((List Int) × (List Int)) :=
  (F_gantryref04_divided_l79 K a1 v68 K 0 x72).bind fun x78 => F_gantryref04_divided_j80 K a1 x38 x45 v68 recl53 x78
def F_gantryref04_divided_l53 (K : Nat) (a0 : List Int) (a1 : List Int) : Nat → (List Int) → (List Int) → Int → Option ((List Int) × (List Int))
  | 0, _, _, _ => none
  | k + 1, x38, x44, x45 => bif (decide (0 ≤ x45)) then ((rdL a0 x45).bind fun v56 => (apL [v56] x44).bind fun x61 => (F_gantryref04_normal K false x61).bind fun v68 => (F_gantryref04_compared K v68.d a1).bind fun v109 => bif (decide (v109 < 0)) then (F_gantryref04_divided_j73 K a1 x38 x45 v68 (F_gantryref04_divided_l53 K a0 a1 k) 0) else (F_gantryref04_divided_j73 K a1 x38 x45 v68 (F_gantryref04_divided_l53 K a0 a1 k) 999999999)) else (some (x38, x44))
def F_gantryref04_divided_j143 (K : Nat) (x135 : List Int) (x141 : List Int) : Option ((List Int) × (List Int)) :=
  some (x135, x141)
def F_gantryref04_divided_j169 (K : Nat) (a1 : List Int) (x127 : List Int) (x134 : Int) (v157 : GInt) (recl142 : (List Int) → (List Int) → Int → Option ((List Int) × (List Int))) (x167 : Int) : Option ((List Int) × (List Int)) :=
  (F_gantryref04_times K a1 x167).bind fun v170 => (F_gantryref04_minus K v157.d v170).bind fun v172 => (F_gantryref04_normal K false v172).bind fun v174 => (rdL x127 x134).bind fun v177 => (stL x127 x134 x167).bind fun x179 => (chk (x134 - 1)).bind fun v182 => recl142 x179 v174.d v182
def F_gantryref04_divided_l168 (K : Nat) (a1 : List Int) (v157 : GInt) : Nat → Int → Int → Option Int
  | 0, _, _ => none
  | k + 1, x165, x166 => bif (decide (x165 < x166)) then ((chk (x165 + x166)).bind fun v185 => (chk (v185 + 1)).bind fun v187 => (chq v187 2).bind fun v189 => (F_gantryref04_times K a1 v189).bind fun v191 => (F_gantryref04_compared K v191 v157.d).bind fun v193 => bif (decide (v193 ≤ 0)) then (F_gantryref04_divided_l168 K a1 v157 k v189 x166) else ((chk (v189 - 1)).bind fun v196 => F_gantryref04_divided_l168 K a1 v157 k x165 v196)) else (some x165)
def F_gantryref04_divided_j162 (K : Nat) (a1 : List Int) (x127 : List Int) (x134 : Int) (v157 : GInt) (recl142 : (List Int) → (List Int) → Int → Option ((List Int) × (List Int))) (x161 : Int) : Option ((List Int) × (List Int)) :=
  (F_gantryref04_divided_l168 K a1 v157 K 0 x161).bind fun x167 => F_gantryref04_divided_j169 K a1 x127 x134 v157 recl142 x167
def F_gantryref04_divided_l142 (K : Nat) (a0 : List Int) (a1 : List Int) : Nat → (List Int) → (List Int) → Int → Option ((List Int) × (List Int))
  | 0, _, _, _ => none
  | k + 1, x127, x133, x134 => bif (decide (0 ≤ x134)) then ((rdL a0 x134).bind fun v145 => (apL [v145] x133).bind fun x150 => (F_gantryref04_normal K false x150).bind fun v157 => (F_gantryref04_compared K v157.d a1).bind fun v198 => bif (decide (v198 < 0)) then (F_gantryref04_divided_j162 K a1 x127 x134 v157 (F_gantryref04_divided_l142 K a0 a1 k) 0) else (F_gantryref04_divided_j162 K a1 x127 x134 v157 (F_gantryref04_divided_l142 K a0 a1 k) 999999999)) else (some (x127, x133))
def F_gantryref04_divided (K : Nat) (a0 : List Int) (a1 : List Int) : Option ((List Int) × (List Int)) :=
  bif (decide ((a0.length : Int) ≤ 2)) then (bif (decide ((a1.length : Int) ≤ 2)) then ((F_gantryref04_tiny a0).bind fun v3 => (F_gantryref04_tiny a1).bind fun v5 => (chq v3 v5).bind fun v7 => (F_gantryref04_Of K v7).bind fun v9 => (F_gantryref04_tiny a0).bind fun v12 => (F_gantryref04_tiny a1).bind fun v14 => (chr v12 v14).bind fun v16 => (F_gantryref04_Of K v16).bind fun v18 => some (v9.d, v18.d)) else ((mkL (a0.length : Int) 0).bind fun x23 => (chk ((a0.length : Int) - 1)).bind fun v28 => (F_gantryref04_divided_l53 K a0 a1 K x23 [] v28).bind fun (x46, x52) => F_gantryref04_divided_j54 K x46 x52)) else ((mkL (a0.length : Int) 0).bind fun x112 => (chk ((a0.length : Int) - 1)).bind fun v117 => (F_gantryref04_divided_l142 K a0 a1 K x112 [] v117).bind fun (x135, x141) => F_gantryref04_divided_j143 K x135 x141)
set_option maxRecDepth 100000 in
theorem ct_gantryref04_divided {K : Nat} {a0 : List Int} {a1 : List Int} {r : (List Int) × (List Int)} (hF : F_gantryref04_divided K a0 a1 = some r) : Ct Try.prog 96 [.vc (pS cI a0), .vc (pS cI a1)] (.t2 (.vc (pS cI r.1)) (.vc (pS cI r.2))) := by
  unfold F_gantryref04_divided at hF
  refine ctO_intro Try.func96 rfl (by kernel_rfl) Try.ntmps96 rfl (fun w0 M0 => ?_)
  refine r_seq (r_reg (r_op (t_mv (.inr rfl)) ⟨k_nil cI, trivial⟩ ?_))
  refine r_op (t_mv (.inr rfl)) ⟨k_nil cI, trivial⟩ ?_
  refine r_nil (r_next (r_seq (r_seq (r_reg (r_mv ?_)))))
  refine r_op (t_ln rfl tyS22) ⟨rfl, trivial⟩ ?_
  refine r_op (t_le rfl) ⟨rfl, k_I _ _, trivial⟩ ?_
  refine r_mv ?_
  refine r_bool (fun h1 => ?_) (fun h1 => ?_)
  · have hF := cnd_t h1 hF
    refine r_opg (t_mv (.inl rfl)) ⟨rfl, trivial⟩ ?_
    refine r_opg (t_ln rfl tyS22) ⟨rfl, trivial⟩ ?_
    refine r_opg (t_le rfl) ⟨rfl, k_I _ _, trivial⟩ ?_
    refine r_op (t_pickT rfl) ⟨rfl, rfl, trivial⟩ ?_
    refine r_nil (r_next (r_if rfl (fun h2 => ?_) (fun h2 => ?_)))
    · have hF := cnd_t h2 hF
      refine r_seq (r_reg (r_mv ?_))
      obtain ⟨v3, h4, hF⟩ := bnd hF
      refine r_op (t_call rfl (ct_gantryref04_tiny h4) rfl) ⟨rfl, trivial⟩ ?_
      refine r_mv ?_
      obtain ⟨v5, h6, hF⟩ := bnd hF
      refine r_op (t_call rfl (ct_gantryref04_tiny h6) rfl) ⟨rfl, trivial⟩ ?_
      obtain ⟨v7, h8, hF⟩ := bnd hF
      refine r_op (t_quo rfl h8) ⟨rfl, rfl, trivial⟩ ?_
      obtain ⟨v9, h10, hF⟩ := bnd hF
      refine r_op (t_call rfl (ct_gantryref04_Of h10) rfl) ⟨rfl, trivial⟩ ?_
      refine r_alloc rfl tyZ37 (fun b11 => ?_)
      refine r_op0 (t_s 0 rfl rfl rfl tyA37.s) ⟨rfl, rfl, trivial⟩ ?_
      refine r_nil (r_next (r_seq (r_reg (r_mv ?_))))
      obtain ⟨v12, h13, hF⟩ := bnd hF
      refine r_op (t_call rfl (ct_gantryref04_tiny h13) rfl) ⟨rfl, trivial⟩ ?_
      refine r_mv ?_
      obtain ⟨v14, h15, hF⟩ := bnd hF
      refine r_op (t_call rfl (ct_gantryref04_tiny h15) rfl) ⟨rfl, trivial⟩ ?_
      obtain ⟨v16, h17, hF⟩ := bnd hF
      refine r_op (t_rem rfl h17) ⟨rfl, rfl, trivial⟩ ?_
      obtain ⟨v18, h19, hF⟩ := bnd hF
      refine r_op (t_call rfl (ct_gantryref04_Of h19) rfl) ⟨rfl, trivial⟩ ?_
      refine r_alloc rfl tyZ37 (fun b20 => ?_)
      refine r_op0 (t_s 0 rfl rfl rfl tyA37.s) ⟨rfl, rfl, trivial⟩ ?_
      refine r_nil (r_next (r_seq (r_draw [0, 1, 0, 4, 3, 31] 6 0 [.v (.vc (pP (some b11) 1)), .v (.vc (pS cI v9.d)), .v (.vc (pP (some b20) 1)), .v (.vc (pS cI v18.d)), .v (.vc (pS cI v9.d)), .v (.vc (pS cI v18.d))] Try_mixed ⟨⟨rfl, .run (lo := 0) (n := 1) ⟨fun G21 A => t_fa (off := 0) (k := 1) rfl tyF37_1, trivial⟩ (fun G21 => ⟨rfl, trivial⟩)⟩, ⟨rfl, .run (lo := 0) (n := 1) ⟨fun G21 A => t_l 1 1 rfl rfl rfl rfl (.one tyO22), trivial⟩ (fun G21 => ⟨rfl, trivial⟩)⟩, ⟨rfl, .run (lo := 0) (n := 1) ⟨fun G21 A => t_fa (off := 0) (k := 1) rfl tyF37_1, trivial⟩ (fun G21 => ⟨rfl, trivial⟩)⟩, ⟨rfl, .run (lo := 0) (n := 1) ⟨fun G21 A => t_l 0 1 rfl rfl rfl rfl (.one tyO22), trivial⟩ (fun G21 => ⟨rfl, trivial⟩)⟩, ⟨rfl, .run (lo := 0) (n := 1) ⟨fun G21 A => t_mv (.inr rfl), trivial⟩ (fun G21 => ⟨rfl, trivial⟩)⟩, ⟨rfl, .run (lo := 0) (n := 1) ⟨fun G21 A => t_mv (.inr rfl), trivial⟩ (fun G21 => ⟨rfl, trivial⟩)⟩, trivial⟩ (fun bs22 G21 => ?_))))
      refine r_nil (r_next (r_ret (r_toR ?_)))
      obtain rfl := sm1 hF
      exact r_done1 (.inl rfl) Try.results96 (.tmp rfl (.tmp rfl .nil)) rfl rfl
    · have hF := cnd_f h2 hF
      refine r_skip (r_next (r_seq (r_reg (r_mv ?_))))
      refine r_op (t_ln rfl tyS22) ⟨rfl, trivial⟩ ?_
      obtain ⟨x23, h24, hF⟩ := bnd hF
      refine r_make (C := cI) rfl tyS22 rfl tyZ3 rfl h24 (fun b25 => ?_)
      refine r_as ?_
      refine r_nil (r_next (r_seq (r_reg (r_op (t_mv (.inr rfl)) ⟨k_nil cI, trivial⟩ ?_))))
      refine r_nil (r_next (r_seq (r_seq (r_reg (r_mv ?_)))))
      refine r_op (t_ln rfl tyS22) ⟨rfl, trivial⟩ ?_
      obtain ⟨v28, h29, hF⟩ := bnd hF
      refine r_op (t_sub rfl h29) ⟨rfl, k_I _ _, trivial⟩ ?_
      refine r_as ?_
      refine r_nil (r_next (r_blk (r_cutN (fun H E => ∃ (x46 : List Int), ∃ (x52 : List Int), ∃ (b47 : Option Nat), ∃ (c48 : Nat), ∃ (n49 : Nat), F_gantryref04_divided_j54 K x46 x52 = some r ∧ x46.length = n49 ∧ H = [hO cI b47 c48 3 n49 x46] ∧ E = [(8, .vc (pO b47 n49 c48)), (9, .vc (pS cI x52))]) ?_ (fun Jj54 => ?_))))
      · rintro _ _ ⟨x46, x52, b47, c48, n49, hF, q50, rfl, rfl⟩
        unfold F_gantryref04_divided_j54 at hF
        refine r_next (r_seq (r_reg (r_mv ?_)))
        refine r_mv ?_
        refine r_as ?_
        refine r_as ?_
        refine r_nil (r_next (r_ret (r_toR (r_fzX 0 [4, 8, 93] rfl q50 ⟨rfl, rfl, rfl, trivial⟩ rfl ?_))))
        obtain rfl := sm1 hF
        exact r_done1 (.inl rfl) Try.results96 (.tmp rfl (.tmp rfl .nil)) rfl rfl
      · skip
        obtain ⟨⟨x46', x52'⟩, hL, hRl53⟩ := bnd hF
        refine r_lp (fun k a w => ∃ (x38 : List Int), ∃ (x44 : List Int), ∃ (x45 : Int), ∃ (b39 : Option Nat), ∃ (c40 : Nat), ∃ (n41 : Nat), F_gantryref04_divided_l53 K a0 a1 k x38 x44 x45 = some (x46', x52') ∧ x38.length = n41 ∧ hs _ [hO cI b39 c40 3 n41 x38] [(0, .vc (pS cI a0)), (1, .vc (pS cI a1)), (8, .vc (pO b39 n41 c40)), (9, .vc (pS cI x44)), (10, .vc (pI .i64 x45))] a w) K (fun a w ⟨_, _, _, _, _, _, hF, _, _⟩ => by cases hF) (fun k a w ⟨x38, x44, x45, b39, c40, n41, hF, q42, hh⟩ => r_at ?_ hh) (fun a w hh => ⟨x23, [], v28, b25, x23.length, x23.length, hL, rfl, hs_back [0] rfl (by decide) (by exact ⟨rfl, rfl, rfl, rfl, rfl, trivial⟩) hh⟩)
        rw [F_gantryref04_divided_l53.eq_2] at hF
        refine r_seq (r_seq (r_reg (r_mv ?_)))
        refine r_op (t_ge rfl) ⟨rfl, k_I _ _, trivial⟩ ?_
        refine r_nil (r_next (r_if rfl (fun h55 => ?_) (fun h55 => ?_)))
        · have hF := cnd_t h55 hF
          refine r_skip (r_next (r_seq (r_blk (r_seq (r_reg (r_mv ?_))))))
          refine r_mv ?_
          obtain ⟨v56, h57, hF⟩ := bnd hF
          refine r_op (t_ix rfl tyS22 h57) ⟨rfl, rfl, trivial⟩ ?_
          refine r_op (t_lM 1 rfl rfl (.one tyO3)) ⟨rfl, trivial⟩ ?_
          refine r_hv (hv_bs (C := cI) (xs := [.tmp 53]) (ps := [.vc (pI .i64 v56)]) (zs := [v56]) rfl tyS22 rfl ⟨⟨trivial, rfl⟩, trivial⟩ rfl) ⟨rfl, trivial⟩ (fun b58 _ => ?_)
          refine r_mv ?_
          obtain ⟨x61, h62, hF⟩ := bnd hF
          refine r_app 0 rfl tyS22 rfl rfl rfl rfl rfl h62 (fun b63 c64 H65 e66 => ?_)
          cases e66
          refine r_fzL 0 [56] rfl (apL_len h62 rfl) ⟨rfl, trivial⟩ rfl ?_
          obtain ⟨v68, h69, hF⟩ := bnd hF
          refine r_op (t_call rfl (ct_gantryref04_normal h69) rfl) ⟨k_B _, rfl, trivial⟩ ?_
          refine r_alloc rfl tyZ37 (fun b70 => ?_)
          refine r_op0 (t_s 0 rfl rfl rfl tyA37.s) ⟨rfl, rfl, trivial⟩ ?_
          refine r_nil (r_next (r_seq (r_reg (r_op (t_fa (off := 0) (k := 1) rfl tyF37_1) ⟨rfl, trivial⟩ ?_))))
          refine r_op (t_l 0 1 rfl rfl rfl rfl (.one tyO22)) ⟨rfl, trivial⟩ ?_
          refine r_as ?_
          refine r_nil (r_next (r_seq (r_reg (r_op (t_mv (.inr rfl)) ⟨k_I _ _, trivial⟩ ?_))))
          refine r_nil (r_next (r_seq (r_reg (r_op (t_mv (.inr rfl)) ⟨k_I _ _, trivial⟩ ?_))))
          refine r_nil (r_next (r_seq (r_cutS (fun H E => ∃ (x72 : Int), F_gantryref04_divided_j73 K a1 x38 x45 v68 (F_gantryref04_divided_l53 K a0 a1 k) x72 = some (x46', x52') ∧ H = [hO cI b39 c40 3 n41 x38] ∧ E = [(0, .vc (pS cI a0)), (1, .vc (pS cI a1)), (8, .vc (pO b39 n41 c40)), (9, .vc (pS cI v68.d)), (10, .vc (pI .i64 x45)), (12, .vc (pI .i64 0)), (13, .vc (pI .i64 x72))]) ?_ (fun Jj73 => ?_))))
          · rintro _ _ ⟨x72, hF, rfl, rfl⟩
            unfold F_gantryref04_divided_j73 at hF
            refine r_seq (r_blk (r_cutN (fun H E => ∃ (x78 : Int), F_gantryref04_divided_j80 K a1 x38 x45 v68 (F_gantryref04_divided_l53 K a0 a1 k) x78 = some (x46', x52') ∧ H = [hO cI b39 c40 3 n41 x38] ∧ E = [(0, .vc (pS cI a0)), (1, .vc (pS cI a1)), (8, .vc (pO b39 n41 c40)), (9, .vc (pS cI v68.d)), (10, .vc (pI .i64 x45)), (12, .vc (pI .i64 x78))]) ?_ (fun Jj80 => ?_)))
            · rintro _ _ ⟨x78, hF, rfl, rfl⟩
              unfold F_gantryref04_divided_j80 at hF
              refine r_next (r_seq (r_reg (r_mv ?_)))
              refine r_mv ?_
              refine r_mv ?_
              obtain ⟨v81, h82, hF⟩ := bnd hF
              refine r_op (t_call rfl (ct_gantryref04_times h82) rfl) ⟨rfl, rfl, trivial⟩ ?_
              obtain ⟨v83, h84, hF⟩ := bnd hF
              refine r_op (t_call rfl (ct_gantryref04_minus h84) rfl) ⟨rfl, rfl, trivial⟩ ?_
              obtain ⟨v85, h86, hF⟩ := bnd hF
              refine r_op (t_call rfl (ct_gantryref04_normal h86) rfl) ⟨k_B _, rfl, trivial⟩ ?_
              refine r_alloc rfl tyZ37 (fun b87 => ?_)
              refine r_op0 (t_s 0 rfl rfl rfl tyA37.s) ⟨rfl, rfl, trivial⟩ ?_
              refine r_nil (r_next (r_seq (r_reg (r_mv ?_))))
              refine r_mv ?_
              refine r_mv ?_
              obtain ⟨v88, h89, hF⟩ := bnd hF
              refine r_op (t_ixE (C := cI) 1 rfl tyS22 rfl q42 (rdL_some h89).1 (rdL_some h89).2.1) ⟨rfl, rfl, trivial⟩ ?_
              obtain ⟨x90, h91, hF⟩ := bnd hF
              refine r_op0 (t_stE 1 rfl rfl h89 h91 tyO3.s) ⟨rfl, rfl, trivial⟩ ?_
              refine r_nil (r_next (r_reg (r_op (t_fa (off := 0) (k := 1) rfl tyF37_1) ⟨rfl, trivial⟩ ?_)))
              refine r_op (t_l 0 1 rfl rfl rfl rfl (.one tyO22)) ⟨rfl, trivial⟩ ?_
              refine r_as ?_
              refine r_nil (r_blkN (r_next (r_reg (r_mv ?_))))
              obtain ⟨v93, h94, hF⟩ := bnd hF
              refine r_op (t_sub rfl h94) ⟨rfl, k_I _ _, trivial⟩ ?_
              refine r_as ?_
              refine r_nil ?_
              exact r_round (fun a w hh => ⟨x90, v85.d, v93, b39, c40, n41, hF, (stL_len h91 q42), hs_back [1] rfl (by decide) (by exact ⟨rfl, rfl, rfl, rfl, rfl, trivial⟩) hh⟩)
            · skip
              obtain ⟨x78', hL, hRl79⟩ := bnd hF
              refine r_lp (fun k a w => ∃ (x76 : Int), ∃ (x77 : Int), F_gantryref04_divided_l79 K a1 v68 k x76 x77 = some x78' ∧ hs _ [hO cI b39 c40 3 n41 x38] [(0, .vc (pS cI a0)), (1, .vc (pS cI a1)), (8, .vc (pO b39 n41 c40)), (9, .vc (pS cI v68.d)), (10, .vc (pI .i64 x45)), (12, .vc (pI .i64 x76)), (13, .vc (pI .i64 x77))] a w) K (fun a w ⟨_, _, hF, _⟩ => by cases hF) (fun k a w ⟨x76, x77, hF, hh⟩ => r_at ?_ hh) (fun a w hh => ⟨0, x72, hL, hs_back [0] rfl (by decide) (by exact ⟨rfl, rfl, rfl, rfl, rfl, rfl, rfl, trivial⟩) hh⟩)
              rw [F_gantryref04_divided_l79.eq_2] at hF
              refine r_seq (r_seq (r_reg (r_mv ?_)))
              refine r_mv ?_
              refine r_op (t_lt rfl) ⟨rfl, rfl, trivial⟩ ?_
              refine r_nil (r_next (r_if rfl (fun h95 => ?_) (fun h95 => ?_)))
              · have hF := cnd_t h95 hF
                refine r_skip (r_next (r_blk (r_seq (r_reg (r_mv ?_)))))
                refine r_mv ?_
                obtain ⟨v96, h97, hF⟩ := bnd hF
                refine r_op (t_add rfl h97) ⟨rfl, rfl, trivial⟩ ?_
                obtain ⟨v98, h99, hF⟩ := bnd hF
                refine r_op (t_add rfl h99) ⟨rfl, k_I _ _, trivial⟩ ?_
                obtain ⟨v100, h101, hF⟩ := bnd hF
                refine r_op (t_quo rfl h101) ⟨rfl, k_I _ _, trivial⟩ ?_
                refine r_as ?_
                refine r_nil (r_next (r_seq (r_reg (r_mv ?_))))
                refine r_mv ?_
                obtain ⟨v102, h103, hF⟩ := bnd hF
                refine r_op (t_call rfl (ct_gantryref04_times h103) rfl) ⟨rfl, rfl, trivial⟩ ?_
                refine r_mv ?_
                obtain ⟨v104, h105, hF⟩ := bnd hF
                refine r_op (t_call rfl (ct_gantryref04_compared h105) rfl) ⟨rfl, rfl, trivial⟩ ?_
                refine r_op (t_le rfl) ⟨rfl, k_I _ _, trivial⟩ ?_
                refine r_nil (r_next (r_if rfl (fun h106 => ?_) (fun h106 => ?_)))
                · have hF := cnd_t h106 hF
                  refine r_reg (r_mv ?_)
                  refine r_as ?_
                  refine r_nil (r_blkN ?_)
                  exact r_round (fun a w hh => ⟨v100, x77, hF, hs_back [0] rfl (by decide) (by exact ⟨rfl, rfl, rfl, rfl, rfl, rfl, rfl, trivial⟩) hh⟩)
                · have hF := cnd_f h106 hF
                  refine r_reg (r_mv ?_)
                  obtain ⟨v107, h108, hF⟩ := bnd hF
                  refine r_op (t_sub rfl h108) ⟨rfl, k_I _ _, trivial⟩ ?_
                  refine r_as ?_
                  refine r_nil (r_blkN ?_)
                  exact r_round (fun a w hh => ⟨x76, v107, hF, hs_back [0] rfl (by decide) (by exact ⟨rfl, rfl, rfl, rfl, rfl, rfl, rfl, trivial⟩) hh⟩)
              · have hF := cnd_f h95 hF
                refine r_brk ?_
                obtain rfl := sm1 hF
                exact r_backJ Jj80 ⟨x76, hRl79, rfl, rfl⟩ [0] rfl ⟨rfl, rfl, rfl, rfl, rfl, rfl, trivial⟩
          · skip
            refine r_seq (r_reg (r_mv ?_))
            refine r_mv ?_
            obtain ⟨v109, h110, hF⟩ := bnd hF
            refine r_op (t_call rfl (ct_gantryref04_compared h110) rfl) ⟨rfl, rfl, trivial⟩ ?_
            refine r_op (t_lt rfl) ⟨rfl, k_I _ _, trivial⟩ ?_
            refine r_nil (r_next (r_if rfl (fun h111 => ?_) (fun h111 => ?_)))
            · have hF := cnd_t h111 hF
              refine r_reg (r_op (t_mv (.inr rfl)) ⟨k_I _ _, trivial⟩ ?_)
              refine r_nil ?_
              exact r_backJ Jj73 ⟨0, hF, rfl, rfl⟩ [1] rfl ⟨rfl, rfl, rfl, rfl, rfl, rfl, rfl, trivial⟩
            · have hF := cnd_f h111 hF
              refine r_skip ?_
              exact r_backJ Jj73 ⟨999999999, hF, rfl, rfl⟩ [1] rfl ⟨rfl, rfl, rfl, rfl, rfl, rfl, rfl, trivial⟩
        · have hF := cnd_f h55 hF
          refine r_brk ?_
          obtain ⟨rfl, rfl⟩ := sm2 hF
          exact r_backJ Jj54 ⟨x38, x44, b39, c40, n41, hRl53, q42, rfl, rfl⟩ [0] rfl ⟨rfl, rfl, trivial⟩
  · have hF := cnd_f h1 hF
    refine r_opn ?_
    refine r_opn ?_
    refine r_opn ?_
    refine r_op (t_pickF rfl) ⟨rfl, k_B _, trivial⟩ ?_
    refine r_nil (r_next (r_ifF rfl ?_))
    refine r_skip (r_next (r_seq (r_reg (r_mv ?_))))
    refine r_op (t_ln rfl tyS22) ⟨rfl, trivial⟩ ?_
    obtain ⟨x112, h113, hF⟩ := bnd hF
    refine r_make (C := cI) rfl tyS22 rfl tyZ3 rfl h113 (fun b114 => ?_)
    refine r_as ?_
    refine r_nil (r_next (r_seq (r_reg (r_op (t_mv (.inr rfl)) ⟨k_nil cI, trivial⟩ ?_))))
    refine r_nil (r_next (r_seq (r_seq (r_reg (r_mv ?_)))))
    refine r_op (t_ln rfl tyS22) ⟨rfl, trivial⟩ ?_
    obtain ⟨v117, h118, hF⟩ := bnd hF
    refine r_op (t_sub rfl h118) ⟨rfl, k_I _ _, trivial⟩ ?_
    refine r_as ?_
    refine r_nil (r_next (r_blk (r_cutN (fun H E => ∃ (x135 : List Int), ∃ (x141 : List Int), ∃ (b136 : Option Nat), ∃ (c137 : Nat), ∃ (n138 : Nat), F_gantryref04_divided_j143 K x135 x141 = some r ∧ x135.length = n138 ∧ H = [hO cI b136 c137 3 n138 x135] ∧ E = [(8, .vc (pO b136 n138 c137)), (9, .vc (pS cI x141))]) ?_ (fun Jj143 => ?_))))
    · rintro _ _ ⟨x135, x141, b136, c137, n138, hF, q139, rfl, rfl⟩
      unfold F_gantryref04_divided_j143 at hF
      refine r_next (r_seq (r_reg (r_mv ?_)))
      refine r_mv ?_
      refine r_as ?_
      refine r_as ?_
      refine r_nil (r_next (r_ret (r_toR (r_fzX 0 [4, 8, 93] rfl q139 ⟨rfl, rfl, rfl, trivial⟩ rfl ?_))))
      obtain rfl := sm1 hF
      exact r_done1 (.inl rfl) Try.results96 (.tmp rfl (.tmp rfl .nil)) rfl rfl
    · skip
      obtain ⟨⟨x135', x141'⟩, hL, hRl142⟩ := bnd hF
      refine r_lp (fun k a w => ∃ (x127 : List Int), ∃ (x133 : List Int), ∃ (x134 : Int), ∃ (b128 : Option Nat), ∃ (c129 : Nat), ∃ (n130 : Nat), F_gantryref04_divided_l142 K a0 a1 k x127 x133 x134 = some (x135', x141') ∧ x127.length = n130 ∧ hs _ [hO cI b128 c129 3 n130 x127] [(0, .vc (pS cI a0)), (1, .vc (pS cI a1)), (8, .vc (pO b128 n130 c129)), (9, .vc (pS cI x133)), (10, .vc (pI .i64 x134))] a w) K (fun a w ⟨_, _, _, _, _, _, hF, _, _⟩ => by cases hF) (fun k a w ⟨x127, x133, x134, b128, c129, n130, hF, q131, hh⟩ => r_at ?_ hh) (fun a w hh => ⟨x112, [], v117, b114, x112.length, x112.length, hL, rfl, hs_back [0] rfl (by decide) (by exact ⟨rfl, rfl, rfl, rfl, rfl, trivial⟩) hh⟩)
      rw [F_gantryref04_divided_l142.eq_2] at hF
      refine r_seq (r_seq (r_reg (r_mv ?_)))
      refine r_op (t_ge rfl) ⟨rfl, k_I _ _, trivial⟩ ?_
      refine r_nil (r_next (r_if rfl (fun h144 => ?_) (fun h144 => ?_)))
      · have hF := cnd_t h144 hF
        refine r_skip (r_next (r_seq (r_blk (r_seq (r_reg (r_mv ?_))))))
        refine r_mv ?_
        obtain ⟨v145, h146, hF⟩ := bnd hF
        refine r_op (t_ix rfl tyS22 h146) ⟨rfl, rfl, trivial⟩ ?_
        refine r_op (t_lM 1 rfl rfl (.one tyO3)) ⟨rfl, trivial⟩ ?_
        refine r_hv (hv_bs (C := cI) (xs := [.tmp 53]) (ps := [.vc (pI .i64 v145)]) (zs := [v145]) rfl tyS22 rfl ⟨⟨trivial, rfl⟩, trivial⟩ rfl) ⟨rfl, trivial⟩ (fun b147 _ => ?_)
        refine r_mv ?_
        obtain ⟨x150, h151, hF⟩ := bnd hF
        refine r_app 0 rfl tyS22 rfl rfl rfl rfl rfl h151 (fun b152 c153 H154 e155 => ?_)
        cases e155
        refine r_fzL 0 [56] rfl (apL_len h151 rfl) ⟨rfl, trivial⟩ rfl ?_
        obtain ⟨v157, h158, hF⟩ := bnd hF
        refine r_op (t_call rfl (ct_gantryref04_normal h158) rfl) ⟨k_B _, rfl, trivial⟩ ?_
        refine r_alloc rfl tyZ37 (fun b159 => ?_)
        refine r_op0 (t_s 0 rfl rfl rfl tyA37.s) ⟨rfl, rfl, trivial⟩ ?_
        refine r_nil (r_next (r_seq (r_reg (r_op (t_fa (off := 0) (k := 1) rfl tyF37_1) ⟨rfl, trivial⟩ ?_))))
        refine r_op (t_l 0 1 rfl rfl rfl rfl (.one tyO22)) ⟨rfl, trivial⟩ ?_
        refine r_as ?_
        refine r_nil (r_next (r_seq (r_reg (r_op (t_mv (.inr rfl)) ⟨k_I _ _, trivial⟩ ?_))))
        refine r_nil (r_next (r_seq (r_reg (r_op (t_mv (.inr rfl)) ⟨k_I _ _, trivial⟩ ?_))))
        refine r_nil (r_next (r_seq (r_cutS (fun H E => ∃ (x161 : Int), F_gantryref04_divided_j162 K a1 x127 x134 v157 (F_gantryref04_divided_l142 K a0 a1 k) x161 = some (x135', x141') ∧ H = [hO cI b128 c129 3 n130 x127] ∧ E = [(0, .vc (pS cI a0)), (1, .vc (pS cI a1)), (8, .vc (pO b128 n130 c129)), (9, .vc (pS cI v157.d)), (10, .vc (pI .i64 x134)), (12, .vc (pI .i64 0)), (13, .vc (pI .i64 x161))]) ?_ (fun Jj162 => ?_))))
        · rintro _ _ ⟨x161, hF, rfl, rfl⟩
          unfold F_gantryref04_divided_j162 at hF
          refine r_seq (r_blk (r_cutN (fun H E => ∃ (x167 : Int), F_gantryref04_divided_j169 K a1 x127 x134 v157 (F_gantryref04_divided_l142 K a0 a1 k) x167 = some (x135', x141') ∧ H = [hO cI b128 c129 3 n130 x127] ∧ E = [(0, .vc (pS cI a0)), (1, .vc (pS cI a1)), (8, .vc (pO b128 n130 c129)), (9, .vc (pS cI v157.d)), (10, .vc (pI .i64 x134)), (12, .vc (pI .i64 x167))]) ?_ (fun Jj169 => ?_)))
          · rintro _ _ ⟨x167, hF, rfl, rfl⟩
            unfold F_gantryref04_divided_j169 at hF
            refine r_next (r_seq (r_reg (r_mv ?_)))
            refine r_mv ?_
            refine r_mv ?_
            obtain ⟨v170, h171, hF⟩ := bnd hF
            refine r_op (t_call rfl (ct_gantryref04_times h171) rfl) ⟨rfl, rfl, trivial⟩ ?_
            obtain ⟨v172, h173, hF⟩ := bnd hF
            refine r_op (t_call rfl (ct_gantryref04_minus h173) rfl) ⟨rfl, rfl, trivial⟩ ?_
            obtain ⟨v174, h175, hF⟩ := bnd hF
            refine r_op (t_call rfl (ct_gantryref04_normal h175) rfl) ⟨k_B _, rfl, trivial⟩ ?_
            refine r_alloc rfl tyZ37 (fun b176 => ?_)
            refine r_op0 (t_s 0 rfl rfl rfl tyA37.s) ⟨rfl, rfl, trivial⟩ ?_
            refine r_nil (r_next (r_seq (r_reg (r_mv ?_))))
            refine r_mv ?_
            refine r_mv ?_
            obtain ⟨v177, h178, hF⟩ := bnd hF
            refine r_op (t_ixE (C := cI) 1 rfl tyS22 rfl q131 (rdL_some h178).1 (rdL_some h178).2.1) ⟨rfl, rfl, trivial⟩ ?_
            obtain ⟨x179, h180, hF⟩ := bnd hF
            refine r_op0 (t_stE 1 rfl rfl h178 h180 tyO3.s) ⟨rfl, rfl, trivial⟩ ?_
            refine r_nil (r_next (r_reg (r_op (t_fa (off := 0) (k := 1) rfl tyF37_1) ⟨rfl, trivial⟩ ?_)))
            refine r_op (t_l 0 1 rfl rfl rfl rfl (.one tyO22)) ⟨rfl, trivial⟩ ?_
            refine r_as ?_
            refine r_nil (r_blkN (r_next (r_reg (r_mv ?_))))
            obtain ⟨v182, h183, hF⟩ := bnd hF
            refine r_op (t_sub rfl h183) ⟨rfl, k_I _ _, trivial⟩ ?_
            refine r_as ?_
            refine r_nil ?_
            exact r_round (fun a w hh => ⟨x179, v174.d, v182, b128, c129, n130, hF, (stL_len h180 q131), hs_back [1] rfl (by decide) (by exact ⟨rfl, rfl, rfl, rfl, rfl, trivial⟩) hh⟩)
          · skip
            obtain ⟨x167', hL, hRl168⟩ := bnd hF
            refine r_lp (fun k a w => ∃ (x165 : Int), ∃ (x166 : Int), F_gantryref04_divided_l168 K a1 v157 k x165 x166 = some x167' ∧ hs _ [hO cI b128 c129 3 n130 x127] [(0, .vc (pS cI a0)), (1, .vc (pS cI a1)), (8, .vc (pO b128 n130 c129)), (9, .vc (pS cI v157.d)), (10, .vc (pI .i64 x134)), (12, .vc (pI .i64 x165)), (13, .vc (pI .i64 x166))] a w) K (fun a w ⟨_, _, hF, _⟩ => by cases hF) (fun k a w ⟨x165, x166, hF, hh⟩ => r_at ?_ hh) (fun a w hh => ⟨0, x161, hL, hs_back [0] rfl (by decide) (by exact ⟨rfl, rfl, rfl, rfl, rfl, rfl, rfl, trivial⟩) hh⟩)
            rw [F_gantryref04_divided_l168.eq_2] at hF
            refine r_seq (r_seq (r_reg (r_mv ?_)))
            refine r_mv ?_
            refine r_op (t_lt rfl) ⟨rfl, rfl, trivial⟩ ?_
            refine r_nil (r_next (r_if rfl (fun h184 => ?_) (fun h184 => ?_)))
            · have hF := cnd_t h184 hF
              refine r_skip (r_next (r_blk (r_seq (r_reg (r_mv ?_)))))
              refine r_mv ?_
              obtain ⟨v185, h186, hF⟩ := bnd hF
              refine r_op (t_add rfl h186) ⟨rfl, rfl, trivial⟩ ?_
              obtain ⟨v187, h188, hF⟩ := bnd hF
              refine r_op (t_add rfl h188) ⟨rfl, k_I _ _, trivial⟩ ?_
              obtain ⟨v189, h190, hF⟩ := bnd hF
              refine r_op (t_quo rfl h190) ⟨rfl, k_I _ _, trivial⟩ ?_
              refine r_as ?_
              refine r_nil (r_next (r_seq (r_reg (r_mv ?_))))
              refine r_mv ?_
              obtain ⟨v191, h192, hF⟩ := bnd hF
              refine r_op (t_call rfl (ct_gantryref04_times h192) rfl) ⟨rfl, rfl, trivial⟩ ?_
              refine r_mv ?_
              obtain ⟨v193, h194, hF⟩ := bnd hF
              refine r_op (t_call rfl (ct_gantryref04_compared h194) rfl) ⟨rfl, rfl, trivial⟩ ?_
              refine r_op (t_le rfl) ⟨rfl, k_I _ _, trivial⟩ ?_
              refine r_nil (r_next (r_if rfl (fun h195 => ?_) (fun h195 => ?_)))
              · have hF := cnd_t h195 hF
                refine r_reg (r_mv ?_)
                refine r_as ?_
                refine r_nil (r_blkN ?_)
                exact r_round (fun a w hh => ⟨v189, x166, hF, hs_back [0] rfl (by decide) (by exact ⟨rfl, rfl, rfl, rfl, rfl, rfl, rfl, trivial⟩) hh⟩)
              · have hF := cnd_f h195 hF
                refine r_reg (r_mv ?_)
                obtain ⟨v196, h197, hF⟩ := bnd hF
                refine r_op (t_sub rfl h197) ⟨rfl, k_I _ _, trivial⟩ ?_
                refine r_as ?_
                refine r_nil (r_blkN ?_)
                exact r_round (fun a w hh => ⟨x165, v196, hF, hs_back [0] rfl (by decide) (by exact ⟨rfl, rfl, rfl, rfl, rfl, rfl, rfl, trivial⟩) hh⟩)
            · have hF := cnd_f h184 hF
              refine r_brk ?_
              obtain rfl := sm1 hF
              exact r_backJ Jj169 ⟨x165, hRl168, rfl, rfl⟩ [0] rfl ⟨rfl, rfl, rfl, rfl, rfl, rfl, trivial⟩
        · skip
          refine r_seq (r_reg (r_mv ?_))
          refine r_mv ?_
          obtain ⟨v198, h199, hF⟩ := bnd hF
          refine r_op (t_call rfl (ct_gantryref04_compared h199) rfl) ⟨rfl, rfl, trivial⟩ ?_
          refine r_op (t_lt rfl) ⟨rfl, k_I _ _, trivial⟩ ?_
          refine r_nil (r_next (r_if rfl (fun h200 => ?_) (fun h200 => ?_)))
          · have hF := cnd_t h200 hF
            refine r_reg (r_op (t_mv (.inr rfl)) ⟨k_I _ _, trivial⟩ ?_)
            refine r_nil ?_
            exact r_backJ Jj162 ⟨0, hF, rfl, rfl⟩ [1] rfl ⟨rfl, rfl, rfl, rfl, rfl, rfl, rfl, trivial⟩
          · have hF := cnd_f h200 hF
            refine r_skip ?_
            exact r_backJ Jj162 ⟨999999999, hF, rfl, rfl⟩ [1] rfl ⟨rfl, rfl, rfl, rfl, rfl, rfl, rfl, trivial⟩
      · have hF := cnd_f h144 hF
        refine r_brk ?_
        obtain ⟨rfl, rfl⟩ := sm2 hF
        exact r_backJ Jj143 ⟨x127, x133, b128, c129, n130, hRl142, q131, rfl, rfl⟩ [0] rfl ⟨rfl, rfl, trivial⟩
def F_gantryref04_Div (K : Nat) (a0 : GInt) (a1 : GInt) : Option (GInt × GInt) :=
  bif ((a1.d.length : Int) == 0) then (some ((⟨false, ([] : List Int)⟩ : GInt), (⟨false, ([] : List Int)⟩ : GInt))) else ((F_gantryref04_divided K a0.d a1.d).bind fun v6 => (F_gantryref04_normal K (a0.neg != a1.neg) v6.1).bind fun v8 => (F_gantryref04_normal K false v6.2).bind fun v11 => bif a0.neg then (bif (decide (0 < (v11.d.length : Int))) then ((F_gantryref04_normal K (a0.neg != a1.neg) [1]).bind fun v18 => (F_gantryref04_Add K v8 v18).bind fun v20 => (F_gantryref04_minus K a1.d v11.d).bind fun v22 => (F_gantryref04_normal K false v22).bind fun v24 => some (v20, v24)) else (some (v8, v11))) else (some (v8, v11)))
set_option maxRecDepth 100000 in
theorem ct_gantryref04_Div {K : Nat} {a0 : GInt} {a1 : GInt} {r : GInt × GInt} (hF : F_gantryref04_Div K a0 a1 = some r) : Ct Try.prog 87 [.va (GInt.e a0), .va (GInt.e a1)] (.t2 (.va (GInt.e r.1)) (.va (GInt.e r.2))) := by
  unfold F_gantryref04_Div at hF
  refine ctO_intro Try.func87 rfl (by kernel_rfl) Try.ntmps87 rfl (fun w0 M0 => ?_)
  refine r_seq (r_reg (r_box rfl rfl trivial (fun b1 => ?_)))
  refine r_box rfl rfl trivial (fun b2 => ?_)
  refine r_alloc rfl tyZ37 (fun b3 => ?_)
  refine r_alloc rfl tyZ37 (fun b4 => ?_)
  refine r_nil (r_next (r_seq (r_seq (r_reg (r_op (t_fa (off := 0) (k := 1) rfl tyF37_1) ⟨rfl, trivial⟩ ?_)))))
  refine r_op (t_l 2 1 rfl rfl rfl rfl (.one tyO22)) ⟨rfl, trivial⟩ ?_
  refine r_op (t_ln rfl tyS22) ⟨rfl, trivial⟩ ?_
  refine r_op (t_eq rfl) ⟨rfl, k_I _ _, trivial⟩ ?_
  refine r_nil (r_next (r_if rfl (fun h5 => ?_) (fun h5 => ?_)))
  · have hF := cnd_t h5 hF
    refine r_seq (r_reg (r_op (t_bld (is := []) (xs := []) (ps := []) rfl tyB37 rfl rfl trivial rfl) trivial ?_))
    refine r_op (t_bld (is := []) (xs := []) (ps := []) rfl tyB37 rfl rfl trivial rfl) trivial ?_
    refine r_op0 (t_s 1 rfl rfl rfl tyA37.s) ⟨rfl, rfl, trivial⟩ ?_
    refine r_op0 (t_s 0 rfl rfl rfl tyA37.s) ⟨rfl, rfl, trivial⟩ ?_
    refine r_nil (r_next (r_ret (r_toR ?_)))
    obtain rfl := sm1 hF
    exact r_done1 (.inl rfl) Try.results87 (rv_cell 1 2 rfl rfl rfl rfl (.agg tyA37) (rv_cell 0 2 rfl rfl rfl rfl (.agg tyA37) .nil)) rfl rfl
  · have hF := cnd_f h5 hF
    refine r_skip (r_next (r_seq (r_reg (r_op (t_fa (off := 0) (k := 1) rfl tyF37_1) ⟨rfl, trivial⟩ ?_))))
    refine r_op (t_l 3 1 rfl rfl rfl rfl (.one tyO22)) ⟨rfl, trivial⟩ ?_
    refine r_op (t_fa (off := 0) (k := 1) rfl tyF37_1) ⟨rfl, trivial⟩ ?_
    refine r_op (t_l 2 1 rfl rfl rfl rfl (.one tyO22)) ⟨rfl, trivial⟩ ?_
    obtain ⟨v6, h7, hF⟩ := bnd hF
    refine r_op (t_call rfl (ct_gantryref04_divided h7) rfl) ⟨rfl, rfl, trivial⟩ ?_
    refine r_mv ?_
    refine r_op (t_ext2a rfl) ⟨rfl, trivial⟩ ?_
    refine r_op (t_ext2b rfl) ⟨rfl, trivial⟩ ?_
    refine r_as ?_
    refine r_as ?_
    refine r_nil (r_next (r_seq (r_reg (r_op (t_fa (off := 0) (k := 0) rfl tyF37_0) ⟨rfl, trivial⟩ ?_))))
    refine r_op (t_l 3 1 rfl rfl rfl rfl (.one tyO4)) ⟨rfl, trivial⟩ ?_
    refine r_op (t_fa (off := 0) (k := 0) rfl tyF37_0) ⟨rfl, trivial⟩ ?_
    refine r_op (t_l 2 1 rfl rfl rfl rfl (.one tyO4)) ⟨rfl, trivial⟩ ?_
    refine r_op (t_neB rfl Try.underlying4) ⟨rfl, rfl, trivial⟩ ?_
    refine r_mv ?_
    obtain ⟨v8, h9, hF⟩ := bnd hF
    refine r_op (t_call rfl (ct_gantryref04_normal h9) rfl) ⟨rfl, rfl, trivial⟩ ?_
    refine r_alloc rfl tyZ37 (fun b10 => ?_)
    refine r_op0 (t_s 0 rfl rfl rfl tyA37.s) ⟨rfl, rfl, trivial⟩ ?_
    refine r_nil (r_next (r_seq (r_reg (r_mv ?_))))
    obtain ⟨v11, h12, hF⟩ := bnd hF
    refine r_op (t_call rfl (ct_gantryref04_normal h12) rfl) ⟨k_B _, rfl, trivial⟩ ?_
    refine r_alloc rfl tyZ37 (fun b13 => ?_)
    refine r_op0 (t_s 0 rfl rfl rfl tyA37.s) ⟨rfl, rfl, trivial⟩ ?_
    refine r_nil (r_next (r_seq (r_seq (r_reg (r_op (t_fa (off := 0) (k := 0) rfl tyF37_0) ⟨rfl, trivial⟩ ?_)))))
    refine r_op (t_l 5 1 rfl rfl rfl rfl (.one tyO4)) ⟨rfl, trivial⟩ ?_
    refine r_mv ?_
    refine r_bool (fun h14 => ?_) (fun h14 => ?_)
    · have hF := cnd_t h14 hF
      refine r_opg (t_fa (off := 0) (k := 1) rfl tyF37_1) ⟨rfl, trivial⟩ ?_
      refine r_opg (t_l 0 1 rfl rfl rfl rfl (.one tyO22)) ⟨rfl, trivial⟩ ?_
      refine r_opg (t_ln rfl tyS22) ⟨rfl, trivial⟩ ?_
      refine r_opg (t_gt rfl) ⟨rfl, k_I _ _, trivial⟩ ?_
      refine r_op (t_pickT rfl) ⟨rfl, rfl, trivial⟩ ?_
      refine r_nil (r_next (r_if rfl (fun h15 => ?_) (fun h15 => ?_)))
      · have hF := cnd_t h15 hF
        refine r_seq ?_
        obtain ⟨v18, h19, hF⟩ := bnd hF
        obtain ⟨v20, h21, hF⟩ := bnd hF
        refine r_draw [0, 0, 2, 0, 8, 30, 0, 126, 255, 511] 9 1 [.v (.va (GInt.e v8)), .v (.vc (pP (some b1) 0)), .v (.vc (pB a0.neg)), .v (.vc (pP (some b2) 0)), .v (.vc (pB a1.neg)), .v (.vc (pB (a0.neg != a1.neg))), .v (.vc (pS cI [1])), .v (.va (GInt.e v18)), .v (.va (GInt.e v20))] Try_mixed ⟨⟨rfl, .run (lo := 0) (n := 1) ⟨fun G16 A => t_l 1 2 rfl rfl rfl rfl (.agg tyA37), trivial⟩ (fun G16 => ⟨rfl, trivial⟩)⟩, ⟨rfl, .run (lo := 0) (n := 1) ⟨fun G16 A => t_fa (off := 0) (k := 0) rfl tyF37_0, trivial⟩ (fun G16 => ⟨rfl, trivial⟩)⟩, ⟨rfl, .run (lo := 0) (n := 1) ⟨fun G16 A => t_l 5 1 rfl rfl rfl rfl (.one tyO4), trivial⟩ (fun G16 => ⟨rfl, trivial⟩)⟩, ⟨rfl, .run (lo := 0) (n := 1) ⟨fun G16 A => t_fa (off := 0) (k := 0) rfl tyF37_0, trivial⟩ (fun G16 => ⟨rfl, trivial⟩)⟩, ⟨rfl, .run (lo := 0) (n := 1) ⟨fun G16 A => t_l 4 1 rfl rfl rfl rfl (.one tyO4), trivial⟩ (fun G16 => ⟨rfl, trivial⟩)⟩, ⟨rfl, .run (lo := 0) (n := 1) ⟨fun G16 A => t_neB rfl Try.underlying4, trivial⟩ (fun G16 => ⟨rfl, rfl, trivial⟩)⟩, ⟨rfl, .run (lo := 0) (n := 1) ⟨fun G16 A => t_bs (C := cI) (xs := [.const (.int .i64 (1))]) (ps := [.vc (pI .i64 1)]) (zs := [1]) rfl tyS22 rfl ⟨⟨trivial, rfl⟩, trivial⟩ rfl, trivial⟩ (fun G16 => ⟨k_I _ _, trivial⟩)⟩, ⟨rfl, .run (lo := 0) (n := 1) ⟨fun G16 A => t_call rfl (ct_gantryref04_normal h19) rfl, trivial⟩ (fun G16 => ⟨rfl, rfl, trivial⟩)⟩, ⟨rfl, .run (lo := 0) (n := 1) ⟨fun G16 A => t_call rfl (ct_gantryref04_Add h21) rfl, trivial⟩ (fun G16 => ⟨rfl, rfl, trivial⟩)⟩, trivial⟩ (fun bs17 G16 => ?_)
        refine r_op0 (t_s 1 rfl rfl rfl tyA37.s) ⟨rfl, rfl, trivial⟩ ?_
        refine r_nil (r_next (r_reg (r_op (t_fa (off := 0) (k := 1) rfl tyF37_1) ⟨rfl, trivial⟩ ?_)))
        refine r_op (t_l 4 1 rfl rfl rfl rfl (.one tyO22)) ⟨rfl, trivial⟩ ?_
        refine r_op (t_fa (off := 0) (k := 1) rfl tyF37_1) ⟨rfl, trivial⟩ ?_
        refine r_op (t_l 0 1 rfl rfl rfl rfl (.one tyO22)) ⟨rfl, trivial⟩ ?_
        obtain ⟨v22, h23, hF⟩ := bnd hF
        refine r_op (t_call rfl (ct_gantryref04_minus h23) rfl) ⟨rfl, rfl, trivial⟩ ?_
        obtain ⟨v24, h25, hF⟩ := bnd hF
        refine r_op (t_call rfl (ct_gantryref04_normal h25) rfl) ⟨k_B _, rfl, trivial⟩ ?_
        refine r_op0 (t_s 0 rfl rfl rfl tyA37.s) ⟨rfl, rfl, trivial⟩ ?_
        refine r_nil (r_next (r_seq (r_drawH (HsL [fun G26 => [⟨some b13, 1, 37, 2, 1, (GInt.e v24)⟩, ⟨some b10, 1, 37, 2, 1, (GInt.e v20)⟩, ⟨some b4, 1, 37, 2, 1, ([pB false] ++ [pS cI ([] : List Int)])⟩, ⟨some b3, 1, 37, 2, 1, ([pB false] ++ [pS cI ([] : List Int)])⟩, ⟨some b2, 1, 37, 2, 1, (GInt.e a1)⟩, ⟨some b1, 1, 37, 2, 1, (GInt.e a0)⟩], fun G26 => [⟨some b13, 1, 37, 2, 1, (GInt.e v24)⟩, ⟨some b10, 1, 37, 2, 1, (GInt.e v20)⟩, ⟨some b4, 1, 37, 2, 1, ([pB false] ++ [pS cI ([] : List Int)])⟩, ⟨some b3, 1, 37, 2, 1, (GInt.e v20)⟩, ⟨some b2, 1, 37, 2, 1, (GInt.e a1)⟩, ⟨some b1, 1, 37, 2, 1, (GInt.e a0)⟩]]) [2] [0, 0, 1, 7] 3 1 [.v (.va (GInt.e v20)), .v (.va (GInt.e v24)), .g (fun _ _ => .any)] Try_mixed ⟨⟨rfl, .run (lo := 0) (n := 1) ⟨fun G26 A => t_l 1 2 rfl rfl rfl rfl (.agg tyA37), trivial⟩ (fun G26 => ⟨rfl, trivial⟩)⟩, ⟨rfl, .run (lo := 0) (n := 2) ⟨fun G26 A => t_l 0 2 rfl rfl rfl rfl (.agg tyA37), fun G26 A => t_l 0 2 rfl rfl rfl rfl (.agg tyA37), trivial⟩ (fun G26 => ⟨rfl, trivial⟩)⟩, ⟨rfl, .hvy 0 (fun G26 A => hv_tr (t_s 3 rfl rfl rfl tyA37.s)) (fun G26 => ⟨rfl, rfl, trivial⟩)⟩, trivial⟩ (fun bs27 G26 => ?_))))
        refine r_op0 (t_s 2 rfl rfl rfl tyA37.s) ⟨rfl, rfl, trivial⟩ ?_
        refine r_nil (r_next (r_ret (r_toR ?_)))
        obtain rfl := sm1 hF
        exact r_done1 (.inl rfl) Try.results87 (rv_cell 3 2 rfl rfl rfl rfl (.agg tyA37) (rv_cell 2 2 rfl rfl rfl rfl (.agg tyA37) .nil)) rfl rfl
      · have hF := cnd_f h15 hF
        refine r_skip (r_next (r_seq (r_drawH (HsL [fun G28 => [⟨some b13, 1, 37, 2, 1, (GInt.e v11)⟩, ⟨some b10, 1, 37, 2, 1, (GInt.e v8)⟩, ⟨some b4, 1, 37, 2, 1, ([pB false] ++ [pS cI ([] : List Int)])⟩, ⟨some b3, 1, 37, 2, 1, ([pB false] ++ [pS cI ([] : List Int)])⟩, ⟨some b2, 1, 37, 2, 1, (GInt.e a1)⟩, ⟨some b1, 1, 37, 2, 1, (GInt.e a0)⟩], fun G28 => [⟨some b13, 1, 37, 2, 1, (GInt.e v11)⟩, ⟨some b10, 1, 37, 2, 1, (GInt.e v8)⟩, ⟨some b4, 1, 37, 2, 1, ([pB false] ++ [pS cI ([] : List Int)])⟩, ⟨some b3, 1, 37, 2, 1, (GInt.e v8)⟩, ⟨some b2, 1, 37, 2, 1, (GInt.e a1)⟩, ⟨some b1, 1, 37, 2, 1, (GInt.e a0)⟩]]) [2] [0, 0, 1, 7] 3 1 [.v (.va (GInt.e v8)), .v (.va (GInt.e v11)), .g (fun _ _ => .any)] Try_mixed ⟨⟨rfl, .run (lo := 0) (n := 1) ⟨fun G28 A => t_l 1 2 rfl rfl rfl rfl (.agg tyA37), trivial⟩ (fun G28 => ⟨rfl, trivial⟩)⟩, ⟨rfl, .run (lo := 0) (n := 2) ⟨fun G28 A => t_l 0 2 rfl rfl rfl rfl (.agg tyA37), fun G28 A => t_l 0 2 rfl rfl rfl rfl (.agg tyA37), trivial⟩ (fun G28 => ⟨rfl, trivial⟩)⟩, ⟨rfl, .hvy 0 (fun G28 A => hv_tr (t_s 3 rfl rfl rfl tyA37.s)) (fun G28 => ⟨rfl, rfl, trivial⟩)⟩, trivial⟩ (fun bs29 G28 => ?_))))
        refine r_op0 (t_s 2 rfl rfl rfl tyA37.s) ⟨rfl, rfl, trivial⟩ ?_
        refine r_nil (r_next (r_ret (r_toR ?_)))
        obtain rfl := sm1 hF
        exact r_done1 (.inl rfl) Try.results87 (rv_cell 3 2 rfl rfl rfl rfl (.agg tyA37) (rv_cell 2 2 rfl rfl rfl rfl (.agg tyA37) .nil)) rfl rfl
    · have hF := cnd_f h14 hF
      refine r_opn ?_
      refine r_opn ?_
      refine r_opn ?_
      refine r_opn ?_
      refine r_op (t_pickF rfl) ⟨rfl, k_B _, trivial⟩ ?_
      refine r_nil (r_next (r_ifF rfl ?_))
      refine r_skip (r_next (r_seq (r_drawH (HsL [fun G30 => [⟨some b13, 1, 37, 2, 1, (GInt.e v11)⟩, ⟨some b10, 1, 37, 2, 1, (GInt.e v8)⟩, ⟨some b4, 1, 37, 2, 1, ([pB false] ++ [pS cI ([] : List Int)])⟩, ⟨some b3, 1, 37, 2, 1, ([pB false] ++ [pS cI ([] : List Int)])⟩, ⟨some b2, 1, 37, 2, 1, (GInt.e a1)⟩, ⟨some b1, 1, 37, 2, 1, (GInt.e a0)⟩], fun G30 => [⟨some b13, 1, 37, 2, 1, (GInt.e v11)⟩, ⟨some b10, 1, 37, 2, 1, (GInt.e v8)⟩, ⟨some b4, 1, 37, 2, 1, ([pB false] ++ [pS cI ([] : List Int)])⟩, ⟨some b3, 1, 37, 2, 1, (GInt.e v8)⟩, ⟨some b2, 1, 37, 2, 1, (GInt.e a1)⟩, ⟨some b1, 1, 37, 2, 1, (GInt.e a0)⟩]]) [2] [0, 0, 1, 7] 3 1 [.v (.va (GInt.e v8)), .v (.va (GInt.e v11)), .g (fun _ _ => .any)] Try_mixed ⟨⟨rfl, .run (lo := 0) (n := 1) ⟨fun G30 A => t_l 1 2 rfl rfl rfl rfl (.agg tyA37), trivial⟩ (fun G30 => ⟨rfl, trivial⟩)⟩, ⟨rfl, .run (lo := 0) (n := 2) ⟨fun G30 A => t_l 0 2 rfl rfl rfl rfl (.agg tyA37), fun G30 A => t_l 0 2 rfl rfl rfl rfl (.agg tyA37), trivial⟩ (fun G30 => ⟨rfl, trivial⟩)⟩, ⟨rfl, .hvy 0 (fun G30 A => hv_tr (t_s 3 rfl rfl rfl tyA37.s)) (fun G30 => ⟨rfl, rfl, trivial⟩)⟩, trivial⟩ (fun bs31 G30 => ?_))))
      refine r_op0 (t_s 2 rfl rfl rfl tyA37.s) ⟨rfl, rfl, trivial⟩ ?_
      refine r_nil (r_next (r_ret (r_toR ?_)))
      obtain rfl := sm1 hF
      exact r_done1 (.inl rfl) Try.results87 (rv_cell 3 2 rfl rfl rfl rfl (.agg tyA37) (rv_cell 2 2 rfl rfl rfl rfl (.agg tyA37) .nil)) rfl rfl
def F_gantryref04_Gcd_j16 (K : Nat) (x14 : GInt) : Option GInt :=
  some x14
def F_gantryref04_Gcd_j30 (K : Nat) (x28 : Int) : Option (LR GInt GInt) :=
  (F_gantryref04_Of K x28).bind fun v31 => some (.ret v31)
def F_gantryref04_Gcd_l29 (K : Nat) : Nat → Int → Int → Option Int
  | 0, _, _ => none
  | k + 1, x26, x27 => bif (decide (0 < x27)) then ((chr x26 x27).bind fun v34 => F_gantryref04_Gcd_l29 K k x27 v34) else (some x26)
def F_gantryref04_Gcd_l15 (K : Nat) : Nat → GInt → GInt → Option (LR GInt GInt)
  | 0, _, _ => none
  | k + 1, x12, x13 => bif (decide (0 < (x12.d.length : Int))) then (bif (decide ((x13.d.length : Int) ≤ 2)) then (bif (decide ((x12.d.length : Int) ≤ 2)) then ((F_gantryref04_tiny x13.d).bind fun v20 => (F_gantryref04_tiny x12.d).bind fun v22 => (F_gantryref04_Gcd_l29 K K v20 v22).bind fun x28 => F_gantryref04_Gcd_j30 K x28) else ((F_gantryref04_Div K x13 x12).bind fun v36 => F_gantryref04_Gcd_l15 K k v36.2 x12)) else ((F_gantryref04_Div K x13 x12).bind fun v40 => F_gantryref04_Gcd_l15 K k v40.2 x12)) else (some (.go x13))
def F_gantryref04_Gcd (K : Nat) (a0 : GInt) (a1 : GInt) : Option GInt :=
  (F_gantryref04_normal K false a0.d).bind fun v4 => (F_gantryref04_normal K false a1.d).bind fun v7 => (F_gantryref04_Gcd_l15 K K v7 v4).bind fun o => match o with | .ret r => some r | .go x14 => F_gantryref04_Gcd_j16 K x14
set_option maxRecDepth 100000 in
theorem ct_gantryref04_Gcd {K : Nat} {a0 : GInt} {a1 : GInt} {r : GInt} (hF : F_gantryref04_Gcd K a0 a1 = some r) : Ct Try.prog 86 [.va (GInt.e a0), .va (GInt.e a1)] (.va (GInt.e r)) := by
  unfold F_gantryref04_Gcd at hF
  refine ctO_intro Try.func86 rfl (by kernel_rfl) Try.ntmps86 rfl (fun w0 M0 => ?_)
  refine r_seq (r_reg (r_box rfl rfl trivial (fun b1 => ?_)))
  refine r_box rfl rfl trivial (fun b2 => ?_)
  refine r_alloc rfl tyZ37 (fun b3 => ?_)
  refine r_nil (r_next (r_seq (r_reg (r_op (t_fa (off := 0) (k := 1) rfl tyF37_1) ⟨rfl, trivial⟩ ?_))))
  refine r_op (t_l 2 1 rfl rfl rfl rfl (.one tyO22)) ⟨rfl, trivial⟩ ?_
  obtain ⟨v4, h5, hF⟩ := bnd hF
  refine r_op (t_call rfl (ct_gantryref04_normal h5) rfl) ⟨k_B _, rfl, trivial⟩ ?_
  refine r_alloc rfl tyZ37 (fun b6 => ?_)
  refine r_op0 (t_s 0 rfl rfl rfl tyA37.s) ⟨rfl, rfl, trivial⟩ ?_
  refine r_nil (r_next (r_seq (r_reg (r_op (t_fa (off := 0) (k := 1) rfl tyF37_1) ⟨rfl, trivial⟩ ?_))))
  refine r_op (t_l 2 1 rfl rfl rfl rfl (.one tyO22)) ⟨rfl, trivial⟩ ?_
  obtain ⟨v7, h8, hF⟩ := bnd hF
  refine r_op (t_call rfl (ct_gantryref04_normal h8) rfl) ⟨k_B _, rfl, trivial⟩ ?_
  refine r_alloc rfl tyZ37 (fun b9 => ?_)
  refine r_op0 (t_s 0 rfl rfl rfl tyA37.s) ⟨rfl, rfl, trivial⟩ ?_
  refine r_nil (r_next (r_seq (r_blk (r_cutN (fun H E => ∃ (x14 : GInt), F_gantryref04_Gcd_j16 K x14 = some r ∧ H = [⟨some b6, 1, 37, 2, 1, (GInt.e x14)⟩, ⟨some b3, 1, 37, 2, 1, ([pB false] ++ [pS cI ([] : List Int)])⟩] ∧ E = [(4, .vc (pP (some b3) 0)), (5, .vc (pP (some b6) 0))]) ?_ (fun Jj16 => ?_)))))
  · rintro _ _ ⟨x14, hF, rfl, rfl⟩
    unfold F_gantryref04_Gcd_j16 at hF
    refine r_next (r_seq (r_reg (r_op (t_l 0 2 rfl rfl rfl rfl (.agg tyA37)) ⟨rfl, trivial⟩ ?_)))
    refine r_op0 (t_s 1 rfl rfl rfl tyA37.s) ⟨rfl, rfl, trivial⟩ ?_
    refine r_nil (r_next (r_ret (r_toR ?_)))
    obtain rfl := sm1 hF
    exact r_done1 (.inl rfl) Try.results86 (rv_cell 1 2 rfl rfl rfl rfl (.agg tyA37) .nil) rfl rfl
  · skip
    obtain ⟨ol15, hL, hRl15⟩ := bnd hF
    refine r_lp (fun k a w => ∃ (x12 : GInt), ∃ (x13 : GInt), F_gantryref04_Gcd_l15 K k x12 x13 = some ol15 ∧ hs _ [⟨some b9, 1, 37, 2, 1, (GInt.e x12)⟩, ⟨some b6, 1, 37, 2, 1, (GInt.e x13)⟩, ⟨some b3, 1, 37, 2, 1, ([pB false] ++ [pS cI ([] : List Int)])⟩] [(4, .vc (pP (some b3) 0)), (5, .vc (pP (some b6) 0)), (6, .vc (pP (some b9) 0))] a w) K (fun a w ⟨_, _, hF, _⟩ => by cases hF) (fun k a w ⟨x12, x13, hF, hh⟩ => r_at ?_ hh) (fun a w hh => ⟨v7, v4, hL, hs_back [0, 1, 2] rfl (by decide) (by exact ⟨rfl, rfl, rfl, trivial⟩) hh⟩)
    rw [F_gantryref04_Gcd_l15.eq_2] at hF
    refine r_seq (r_seq (r_reg (r_op (t_fa (off := 0) (k := 1) rfl tyF37_1) ⟨rfl, trivial⟩ ?_)))
    refine r_op (t_l 0 1 rfl rfl rfl rfl (.one tyO22)) ⟨rfl, trivial⟩ ?_
    refine r_op (t_ln rfl tyS22) ⟨rfl, trivial⟩ ?_
    refine r_op (t_gt rfl) ⟨rfl, k_I _ _, trivial⟩ ?_
    refine r_nil (r_next (r_if rfl (fun h17 => ?_) (fun h17 => ?_)))
    · have hF := cnd_t h17 hF
      refine r_skip (r_next (r_blk (r_seq (r_seq (r_reg (r_op (t_fa (off := 0) (k := 1) rfl tyF37_1) ⟨rfl, trivial⟩ ?_))))))
      refine r_op (t_l 1 1 rfl rfl rfl rfl (.one tyO22)) ⟨rfl, trivial⟩ ?_
      refine r_op (t_ln rfl tyS22) ⟨rfl, trivial⟩ ?_
      refine r_op (t_le rfl) ⟨rfl, k_I _ _, trivial⟩ ?_
      refine r_mv ?_
      refine r_bool (fun h18 => ?_) (fun h18 => ?_)
      · have hF := cnd_t h18 hF
        refine r_opg (t_fa (off := 0) (k := 1) rfl tyF37_1) ⟨rfl, trivial⟩ ?_
        refine r_opg (t_l 0 1 rfl rfl rfl rfl (.one tyO22)) ⟨rfl, trivial⟩ ?_
        refine r_opg (t_ln rfl tyS22) ⟨rfl, trivial⟩ ?_
        refine r_opg (t_le rfl) ⟨rfl, k_I _ _, trivial⟩ ?_
        refine r_op (t_pickT rfl) ⟨rfl, rfl, trivial⟩ ?_
        refine r_nil (r_next (r_if rfl (fun h19 => ?_) (fun h19 => ?_)))
        · have hF := cnd_t h19 hF
          refine r_seq (r_reg (r_op (t_fa (off := 0) (k := 1) rfl tyF37_1) ⟨rfl, trivial⟩ ?_))
          refine r_op (t_l 1 1 rfl rfl rfl rfl (.one tyO22)) ⟨rfl, trivial⟩ ?_
          obtain ⟨v20, h21, hF⟩ := bnd hF
          refine r_op (t_call rfl (ct_gantryref04_tiny h21) rfl) ⟨rfl, trivial⟩ ?_
          refine r_as ?_
          refine r_nil (r_next (r_seq (r_reg (r_op (t_fa (off := 0) (k := 1) rfl tyF37_1) ⟨rfl, trivial⟩ ?_))))
          refine r_op (t_l 0 1 rfl rfl rfl rfl (.one tyO22)) ⟨rfl, trivial⟩ ?_
          obtain ⟨v22, h23, hF⟩ := bnd hF
          refine r_op (t_call rfl (ct_gantryref04_tiny h23) rfl) ⟨rfl, trivial⟩ ?_
          refine r_as ?_
          refine r_nil (r_next (r_seq (r_blk (r_cutN (fun H E => ∃ (x28 : Int), F_gantryref04_Gcd_j30 K x28 = some ol15 ∧ H = [⟨some b3, 1, 37, 2, 1, ([pB false] ++ [pS cI ([] : List Int)])⟩] ∧ E = [(4, .vc (pP (some b3) 0)), (7, .vc (pI .i64 x28))]) ?_ (fun Jj30 => ?_)))))
          · rintro _ _ ⟨x28, hF, rfl, rfl⟩
            unfold F_gantryref04_Gcd_j30 at hF
            refine r_next (r_seq (r_reg (r_mv ?_)))
            obtain ⟨v31, h32, hF⟩ := bnd hF
            refine r_op (t_call rfl (ct_gantryref04_Of h32) rfl) ⟨rfl, trivial⟩ ?_
            refine r_op0 (t_s 0 rfl rfl rfl tyA37.s) ⟨rfl, rfl, trivial⟩ ?_
            refine r_nil (r_next (r_ret (r_toR ?_)))
            obtain rfl := sm1 hF
            obtain rfl := sm1 hRl15
            exact r_done1 (.inl rfl) Try.results86 (rv_cell 0 2 rfl rfl rfl rfl (.agg tyA37) .nil) rfl rfl
          · skip
            obtain ⟨x28', hL, hRl29⟩ := bnd hF
            refine r_lp (fun k a w => ∃ (x26 : Int), ∃ (x27 : Int), F_gantryref04_Gcd_l29 K k x26 x27 = some x28' ∧ hs _ [⟨some b3, 1, 37, 2, 1, ([pB false] ++ [pS cI ([] : List Int)])⟩] [(4, .vc (pP (some b3) 0)), (7, .vc (pI .i64 x26)), (8, .vc (pI .i64 x27))] a w) K (fun a w ⟨_, _, hF, _⟩ => by cases hF) (fun k a w ⟨x26, x27, hF, hh⟩ => r_at ?_ hh) (fun a w hh => ⟨v20, v22, hL, hs_back [2] rfl (by decide) (by exact ⟨rfl, rfl, rfl, trivial⟩) hh⟩)
            rw [F_gantryref04_Gcd_l29.eq_2] at hF
            refine r_seq (r_seq (r_reg (r_mv ?_)))
            refine r_op (t_gt rfl) ⟨rfl, k_I _ _, trivial⟩ ?_
            refine r_nil (r_next (r_if rfl (fun h33 => ?_) (fun h33 => ?_)))
            · have hF := cnd_t h33 hF
              refine r_skip (r_next (r_blk (r_seq (r_reg (r_mv ?_)))))
              refine r_mv ?_
              obtain ⟨v34, h35, hF⟩ := bnd hF
              refine r_op (t_rem rfl h35) ⟨rfl, rfl, trivial⟩ ?_
              refine r_as ?_
              refine r_nil (r_next (r_seq (r_reg (r_mv ?_))))
              refine r_as ?_
              refine r_nil (r_next (r_reg (r_mv ?_)))
              refine r_as ?_
              refine r_nil (r_blkN ?_)
              exact r_round (fun a w hh => ⟨x27, v34, hF, hs_back [0] rfl (by decide) (by exact ⟨rfl, rfl, rfl, trivial⟩) hh⟩)
            · have hF := cnd_f h33 hF
              refine r_brk ?_
              obtain rfl := sm1 hF
              exact r_backJ Jj30 ⟨x26, hRl29, rfl, rfl⟩ [0] rfl ⟨rfl, rfl, trivial⟩
        · have hF := cnd_f h19 hF
          refine r_skip (r_next (r_seq (r_reg (r_op (t_l 1 2 rfl rfl rfl rfl (.agg tyA37)) ⟨rfl, trivial⟩ ?_))))
          refine r_op (t_l 0 2 rfl rfl rfl rfl (.agg tyA37)) ⟨rfl, trivial⟩ ?_
          obtain ⟨v36, h37, hF⟩ := bnd hF
          refine r_op (t_call rfl (ct_gantryref04_Div h37) rfl) ⟨rfl, rfl, trivial⟩ ?_
          refine r_mv ?_
          refine r_op (t_ext2a rfl) ⟨rfl, trivial⟩ ?_
          refine r_op (t_ext2b rfl) ⟨rfl, trivial⟩ ?_
          refine r_alloc rfl tyZ37 (fun b38 => ?_)
          refine r_alloc rfl tyZ37 (fun b39 => ?_)
          refine r_op0 (t_s 1 rfl rfl rfl tyA37.s) ⟨rfl, rfl, trivial⟩ ?_
          refine r_op0 (t_s 0 rfl rfl rfl tyA37.s) ⟨rfl, rfl, trivial⟩ ?_
          refine r_nil (r_next (r_seq (r_reg (r_op (t_l 2 2 rfl rfl rfl rfl (.agg tyA37)) ⟨rfl, trivial⟩ ?_))))
          refine r_op0 (t_s 3 rfl rfl rfl tyA37.s) ⟨rfl, rfl, trivial⟩ ?_
          refine r_nil (r_next (r_reg (r_op (t_l 0 2 rfl rfl rfl rfl (.agg tyA37)) ⟨rfl, trivial⟩ ?_)))
          refine r_op0 (t_s 2 rfl rfl rfl tyA37.s) ⟨rfl, rfl, trivial⟩ ?_
          refine r_nil (r_blkN ?_)
          exact r_round (fun a w hh => ⟨v36.2, x12, hF, hs_back [2, 3, 4] rfl (by decide) (by exact ⟨rfl, rfl, rfl, trivial⟩) hh⟩)
      · have hF := cnd_f h18 hF
        refine r_opn ?_
        refine r_opn ?_
        refine r_opn ?_
        refine r_opn ?_
        refine r_op (t_pickF rfl) ⟨rfl, k_B _, trivial⟩ ?_
        refine r_nil (r_next (r_ifF rfl ?_))
        refine r_skip (r_next (r_seq (r_reg (r_op (t_l 1 2 rfl rfl rfl rfl (.agg tyA37)) ⟨rfl, trivial⟩ ?_))))
        refine r_op (t_l 0 2 rfl rfl rfl rfl (.agg tyA37)) ⟨rfl, trivial⟩ ?_
        obtain ⟨v40, h41, hF⟩ := bnd hF
        refine r_op (t_call rfl (ct_gantryref04_Div h41) rfl) ⟨rfl, rfl, trivial⟩ ?_
        refine r_mv ?_
        refine r_op (t_ext2a rfl) ⟨rfl, trivial⟩ ?_
        refine r_op (t_ext2b rfl) ⟨rfl, trivial⟩ ?_
        refine r_alloc rfl tyZ37 (fun b42 => ?_)
        refine r_alloc rfl tyZ37 (fun b43 => ?_)
        refine r_op0 (t_s 1 rfl rfl rfl tyA37.s) ⟨rfl, rfl, trivial⟩ ?_
        refine r_op0 (t_s 0 rfl rfl rfl tyA37.s) ⟨rfl, rfl, trivial⟩ ?_
        refine r_nil (r_next (r_seq (r_reg (r_op (t_l 2 2 rfl rfl rfl rfl (.agg tyA37)) ⟨rfl, trivial⟩ ?_))))
        refine r_op0 (t_s 3 rfl rfl rfl tyA37.s) ⟨rfl, rfl, trivial⟩ ?_
        refine r_nil (r_next (r_reg (r_op (t_l 0 2 rfl rfl rfl rfl (.agg tyA37)) ⟨rfl, trivial⟩ ?_)))
        refine r_op0 (t_s 2 rfl rfl rfl tyA37.s) ⟨rfl, rfl, trivial⟩ ?_
        refine r_nil (r_blkN ?_)
        exact r_round (fun a w hh => ⟨v40.2, x12, hF, hs_back [2, 3, 4] rfl (by decide) (by exact ⟨rfl, rfl, rfl, trivial⟩) hh⟩)
    · have hF := cnd_f h17 hF
      refine r_brk ?_
      obtain rfl := sm1 hF
      exact r_backJ Jj16 ⟨x13, hRl15, rfl, rfl⟩ [1, 2] rfl ⟨rfl, rfl, trivial⟩
def F_gantryref04_Neg (K : Nat) (a0 : GInt) : Option GInt :=
  (F_gantryref04_normal K (!a0.neg) a0.d).bind fun v3 => some v3
set_option maxRecDepth 100000 in
theorem ct_gantryref04_Neg {K : Nat} {a0 : GInt} {r : GInt} (hF : F_gantryref04_Neg K a0 = some r) : Ct Try.prog 88 [.va (GInt.e a0)] (.va (GInt.e r)) := by
  unfold F_gantryref04_Neg at hF
  refine ctO_intro Try.func88 rfl (by kernel_rfl) Try.ntmps88 rfl (fun w0 M0 => ?_)
  refine r_seq (r_reg (r_box rfl rfl trivial (fun b1 => ?_)))
  refine r_alloc rfl tyZ37 (fun b2 => ?_)
  refine r_nil (r_next (r_seq (r_reg (r_op (t_fa (off := 0) (k := 0) rfl tyF37_0) ⟨rfl, trivial⟩ ?_))))
  refine r_op (t_l 1 1 rfl rfl rfl rfl (.one tyO4)) ⟨rfl, trivial⟩ ?_
  refine r_op (t_not rfl) ⟨rfl, trivial⟩ ?_
  refine r_op (t_fa (off := 0) (k := 1) rfl tyF37_1) ⟨rfl, trivial⟩ ?_
  refine r_op (t_l 1 1 rfl rfl rfl rfl (.one tyO22)) ⟨rfl, trivial⟩ ?_
  obtain ⟨v3, h4, hF⟩ := bnd hF
  refine r_op (t_call rfl (ct_gantryref04_normal h4) rfl) ⟨rfl, rfl, trivial⟩ ?_
  refine r_op0 (t_s 0 rfl rfl rfl tyA37.s) ⟨rfl, rfl, trivial⟩ ?_
  refine r_nil (r_next (r_ret (r_toR ?_)))
  obtain rfl := sm1 hF
  exact r_done1 (.inl rfl) Try.results88 (rv_cell 0 2 rfl rfl rfl rfl (.agg tyA37) .nil) rfl rfl
end Go.Proofs.Ytkjnngaceacmdaa
