import Derived.Test.YtkjnngaceacmdaaGreatI1
set_option linter.unusedVariables false
namespace Go.Proofs.YtkjnngaceacmdaaGreat
def F_integer_long_j70 (K : Nat) (a1 : List Int) (v7 : Int) (x57 : List Int) (x63 : List Int) : Option ((List Int) × (List Int)) :=
  (slL x63 0 (a1.length : Int)).bind fun x71 => (F_integer_short K x71 v7).bind fun v73 => some (x57, v73.1)
def F_integer_long_j180 (K : Nat) (a1 : List Int) (x44 : List Int) (x56 : Int) (v154 : Int) (recl69 : (List Int) → (List Int) → Int → Option ((List Int) × (List Int))) (x172 : List Int) (x178 : Int) : Option ((List Int) × (List Int)) :=
  (chk (x56 + (a1.length : Int))).bind fun v181 => (rdL x172 v181).bind fun v183 => (chk (v183 + x178)).bind fun v185 => (rdL x172 v181).bind fun v187 => (stL x172 v181 v185).bind fun x189 => (rdL x44 x56).bind fun v192 => (stL x44 x56 v154).bind fun x194 => (chk (x56 - 1)).bind fun v197 => recl69 x194 x189 v197
def F_integer_long_l179 (K : Nat) (a1 : List Int) (x17 : List Int) (x56 : Int) : Nat → (List Int) → Int → Int → Option ((List Int) × Int)
  | 0, _, _, _ => none
  | k + 1, x164, x170, x171 => bif (decide (x171 < (a1.length : Int))) then ((chk (x171 + x56)).bind fun v202 => (rdL x164 v202).bind fun v204 => (rdL x17 x171).bind fun v206 => (chk (v204 + v206)).bind fun v208 => (chk (v208 + x170)).bind fun v210 => (chk (x171 + x56)).bind fun v212 => (chr v210 1000000000).bind fun v214 => (chq v210 1000000000).bind fun v216 => (rdL x164 v212).bind fun v218 => (stL x164 v212 v214).bind fun x220 => (chk (x171 + 1)).bind fun v223 => F_integer_long_l179 K a1 x17 x56 k x220 v216 v223) else (some (x164, x170))
def F_integer_long_j137 (K : Nat) (a1 : List Int) (x17 : List Int) (x44 : List Int) (x56 : Int) (x110 : Int) (recl69 : (List Int) → (List Int) → Int → Option ((List Int) × (List Int))) (x129 : List Int) (x135 : Int) : Option ((List Int) × (List Int)) :=
  (chk (x56 + (a1.length : Int))).bind fun v138 => (rdL x129 v138).bind fun v140 => (chk (v140 - x135)).bind fun v142 => (rdL x129 v138).bind fun v144 => (stL x129 v138 v142).bind fun x146 => (chk (x56 + (a1.length : Int))).bind fun v149 => (rdL x146 v149).bind fun v151 => bif (decide (v151 < 0)) then ((chk (x110 - 1)).bind fun v154 => (F_integer_long_l179 K a1 x17 x56 K x146 0 0).bind fun (x172, x178) => F_integer_long_j180 K a1 x44 x56 v154 recl69 x172 x178) else ((rdL x44 x56).bind fun v225 => (stL x44 x56 x110).bind fun x227 => (chk (x56 - 1)).bind fun v230 => recl69 x227 x146 v230)
def F_integer_long_l136 (K : Nat) (a1 : List Int) (x17 : List Int) (x56 : Int) (x110 : Int) : Nat → (List Int) → Int → Int → Option ((List Int) × Int)
  | 0, _, _, _ => none
  | k + 1, x121, x127, x128 => bif (decide (x128 < (a1.length : Int))) then ((chk (x128 + x56)).bind fun v235 => (rdL x121 v235).bind fun v237 => (rdL x17 x128).bind fun v239 => (chk (x110 * v239)).bind fun v241 => (chk (v237 - v241)).bind fun v243 => (chk (v243 - x127)).bind fun v245 => bif (decide (v245 < 0)) then ((chk (-v245)).bind fun v248 => (chk (v248 + 1000000000)).bind fun v250 => (chk (v250 - 1)).bind fun v252 => (chq v252 1000000000).bind fun v254 => (chk (v254 * 1000000000)).bind fun v256 => (chk (v245 + v256)).bind fun v258 => (chk (x128 + x56)).bind fun v260 => (rdL x121 v260).bind fun v262 => (stL x121 v260 v258).bind fun x264 => (chk (x128 + 1)).bind fun v267 => F_integer_long_l136 K a1 x17 x56 x110 k x264 v254 v267) else ((chk (x128 + x56)).bind fun v269 => (rdL x121 v269).bind fun v271 => (stL x121 v269 v245).bind fun x273 => (chk (x128 + 1)).bind fun v276 => F_integer_long_l136 K a1 x17 x56 x110 k x273 0 v276)) else (some (x121, x127))
def F_integer_long_j112 (K : Nat) (a1 : List Int) (x17 : List Int) (x44 : List Int) (x50 : List Int) (x56 : Int) (recl69 : (List Int) → (List Int) → Int → Option ((List Int) × (List Int))) (x110 : Int) : Option ((List Int) × (List Int)) :=
  (F_integer_long_l136 K a1 x17 x56 x110 K x50 0 0).bind fun (x129, x135) => F_integer_long_j137 K a1 x17 x44 x56 x110 recl69 x129 x135
def F_integer_long_l111 (K : Nat) (a1 : List Int) (x17 : List Int) (x50 : List Int) (x56 : Int) : Nat → Int → Int → Option Int
  | 0, _, _ => none
  | k + 1, x108, x109 => bif (decide (1000000000 ≤ x108)) then ((chk (x108 - 1)).bind fun v281 => (chk ((a1.length : Int) - 1)).bind fun v283 => (rdL x17 v283).bind fun v285 => (chk (x109 + v285)).bind fun v287 => bif (decide (1000000000 ≤ v287)) then (some v281) else (F_integer_long_l111 K a1 x17 x50 x56 k v281 v287)) else ((chk ((a1.length : Int) - 2)).bind fun v290 => (rdL x17 v290).bind fun v292 => (chk (x108 * v292)).bind fun v294 => (chk (x109 * 1000000000)).bind fun v296 => (chk (x56 + (a1.length : Int))).bind fun v298 => (chk (v298 - 2)).bind fun v300 => (rdL x50 v300).bind fun v302 => (chk (v296 + v302)).bind fun v304 => bif (decide (v304 < v294)) then ((chk (x108 - 1)).bind fun v307 => (chk ((a1.length : Int) - 1)).bind fun v309 => (rdL x17 v309).bind fun v311 => (chk (x109 + v311)).bind fun v313 => bif (decide (1000000000 ≤ v313)) then (some v307) else (F_integer_long_l111 K a1 x17 x50 x56 k v307 v313)) else (some x108))
def F_integer_long_l69 (K : Nat) (a1 : List Int) (x17 : List Int) : Nat → (List Int) → (List Int) → Int → Option ((List Int) × (List Int))
  | 0, _, _, _ => none
  | k + 1, x44, x50, x56 => bif (decide (0 ≤ x56)) then ((chk (x56 + (a1.length : Int))).bind fun v78 => (rdL x50 v78).bind fun v80 => (chk (v80 * 1000000000)).bind fun v82 => (chk (x56 + (a1.length : Int))).bind fun v84 => (chk (v84 - 1)).bind fun v86 => (rdL x50 v86).bind fun v88 => (chk (v82 + v88)).bind fun v90 => (chk ((a1.length : Int) - 1)).bind fun v94 => (rdL x17 v94).bind fun v96 => (chq v90 v96).bind fun v98 => (chk ((a1.length : Int) - 1)).bind fun v100 => (rdL x17 v100).bind fun v102 => (chr v90 v102).bind fun v104 => (F_integer_long_l111 K a1 x17 x50 x56 K v98 v104).bind fun x110 => F_integer_long_j112 K a1 x17 x44 x50 x56 (F_integer_long_l69 K a1 x17 k) x110) else (some (x44, x50))
def F_integer_long (K : Nat) (a0 : List Int) (a1 : List Int) : Option ((List Int) × (List Int)) :=
  (chk ((a1.length : Int) - 1)).bind fun v1 => (rdL a1 v1).bind fun v3 => (chk (v3 + 1)).bind fun v5 => (chq 1000000000 v5).bind fun v7 => (F_integer_scaled K a0 v7).bind fun v11 => (F_integer_scaled K a1 v7).bind fun v15 => (slL v15 0 (a1.length : Int)).bind fun x17 => (chk ((a0.length : Int) - (a1.length : Int))).bind fun v20 => (chk (v20 + 1)).bind fun v22 => (mkL v22 0).bind fun x24 => (chk ((a0.length : Int) - (a1.length : Int))).bind fun v29 => (F_integer_long_l69 K a1 x17 K x24 v11 v29).bind fun (x57, x63) => F_integer_long_j70 K a1 v7 x57 x63
set_option maxRecDepth 100000 in
theorem ct_integer_long {K : Nat} {a0 : List Int} {a1 : List Int} {r : (List Int) × (List Int)} (hF : F_integer_long K a0 a1 = some r) : Ct Tryz.prog 172 [.vc (pS cI a0), .vc (pS cI a1)] (.t2 (.vc (pS cI r.1)) (.vc (pS cI r.2))) := by
  unfold F_integer_long at hF
  refine ctO_intro Tryz.func172 rfl (by kernel_rfl) Tryz.ntmps172 rfl (fun w0 M0 => ?_)
  refine r_seq (r_reg (r_op (t_mv (.inr rfl)) ⟨k_nil cI, trivial⟩ ?_))
  refine r_op (t_mv (.inr rfl)) ⟨k_nil cI, trivial⟩ ?_
  refine r_nil (r_next (r_seq (r_reg (r_mv ?_))))
  refine r_mv ?_
  refine r_op (t_ln rfl tyS22) ⟨rfl, trivial⟩ ?_
  obtain ⟨v1, h2, hF⟩ := bnd hF
  refine r_op (t_sub rfl h2) ⟨rfl, k_I _ _, trivial⟩ ?_
  obtain ⟨v3, h4, hF⟩ := bnd hF
  refine r_op (t_ix rfl tyS22 h4) ⟨rfl, rfl, trivial⟩ ?_
  refine r_op (t_lM 1 rfl rfl (.one tyO3)) ⟨rfl, trivial⟩ ?_
  obtain ⟨v5, h6, hF⟩ := bnd hF
  refine r_op (t_add rfl h6) ⟨rfl, k_I _ _, trivial⟩ ?_
  obtain ⟨v7, h8, hF⟩ := bnd hF
  refine r_op (t_quo rfl h8) ⟨k_I _ _, rfl, trivial⟩ ?_
  refine r_as ?_
  refine r_nil (r_next (r_seq ?_))
  obtain ⟨v11, h12, hF⟩ := bnd hF
  obtain ⟨v15, h16, hF⟩ := bnd hF
  obtain ⟨x17, h18, hF⟩ := bnd hF
  refine r_drawH (HsL [fun G9 => [], fun G9 => [hO cI ((G9 2).1) ((G9 2).2) 3 v11.length v11], fun G9 => [hO cI ((G9 9).1) ((G9 9).2) 3 v11.length v11]]) [2, 9] [0, 0, 3, 0, 0, 31, 0, 64, 255, 63, 1023] 11 0 [.v (.vc (pS cI a0)), .v (.vc (pI .i64 v7)), .g (fun b c => .vc (pO b v11.length c)), .v (.vc (pS cI a1)), .v (.vc (pI .i64 v7)), .v (.vc (pS cI v15)), .v (.vc (pS cI a1)), .v (.vc (pI .i64 (a1.length : Int))), .v (.vc (pS cI x17)), .g (fun b c => .vc (pO b v11.length c)), .v (.vc (pS cI x17))] Tryz_mixed ⟨⟨rfl, .run (lo := 0) (n := 1) ⟨fun G9 A => t_mv (.inl rfl), trivial⟩ (fun G9 => ⟨rfl, trivial⟩)⟩, ⟨rfl, .run (lo := 0) (n := 1) ⟨fun G9 A => t_mv (.inl rfl), trivial⟩ (fun G9 => ⟨rfl, trivial⟩)⟩, ⟨rfl, .hvy 0 (fun G9 A => hv_call rfl (ctO_integer_scaled h12) rfl) (fun G9 => ⟨rfl, rfl, trivial⟩)⟩, ⟨rfl, .run (lo := 0) (n := 2) ⟨fun G9 A => t_mv (.inl rfl), fun G9 A => t_mv (.inl rfl), trivial⟩ (fun G9 => ⟨rfl, trivial⟩)⟩, ⟨rfl, .run (lo := 0) (n := 2) ⟨fun G9 A => t_mv (.inl rfl), fun G9 A => t_mv (.inl rfl), trivial⟩ (fun G9 => ⟨rfl, trivial⟩)⟩, ⟨rfl, .run (lo := 1) (n := 1) ⟨fun G9 A => t_call rfl (ct_integer_scaled h16) rfl, trivial⟩ (fun G9 => ⟨rfl, rfl, trivial⟩)⟩, ⟨rfl, .run (lo := 0) (n := 3) ⟨fun G9 A => t_mv (.inl rfl), fun G9 A => t_mv (.inl rfl), fun G9 A => t_mv (.inl rfl), trivial⟩ (fun G9 => ⟨rfl, trivial⟩)⟩, ⟨rfl, .run (lo := 0) (n := 3) ⟨fun G9 A => t_ln rfl tyS22, fun G9 A => t_ln rfl tyS22, fun G9 A => t_ln rfl tyS22, trivial⟩ (fun G9 => ⟨rfl, trivial⟩)⟩, ⟨rfl, .run (lo := 1) (n := 2) ⟨fun G9 A => t_cutH rfl tyS22 h18, fun G9 A => t_cutH rfl tyS22 h18, trivial⟩ (fun G9 => ⟨rfl, rfl, trivial⟩)⟩, ⟨rfl, .hvy 1 (fun G9 A => hv_at ((G9 2).1) ((G9 2).2) (t_mv (.inr rfl))) (fun G9 => ⟨rfl, trivial⟩)⟩, ⟨rfl, .run (lo := 2) (n := 1) ⟨fun G9 A => t_mv (.inr rfl), trivial⟩ (fun G9 => ⟨rfl, trivial⟩)⟩, trivial⟩ (fun bs10 G9 => ?_)
  refine r_nil (r_next (r_seq (r_reg (r_mv ?_))))
  refine r_op (t_ln rfl tyS22) ⟨rfl, trivial⟩ ?_
  refine r_as ?_
  refine r_nil (r_next (r_seq (r_reg (r_mv ?_))))
  refine r_op (t_ln rfl tyS22) ⟨rfl, trivial⟩ ?_
  refine r_mv ?_
  obtain ⟨v20, h21, hF⟩ := bnd hF
  refine r_op (t_sub rfl h21) ⟨rfl, rfl, trivial⟩ ?_
  obtain ⟨v22, h23, hF⟩ := bnd hF
  refine r_op (t_add rfl h23) ⟨rfl, k_I _ _, trivial⟩ ?_
  obtain ⟨x24, h25, hF⟩ := bnd hF
  refine r_make (C := cI) rfl tyS22 rfl tyZ3 rfl h25 (fun b26 => ?_)
  refine r_as ?_
  refine r_nil (r_next (r_seq (r_seq (r_reg (r_mv ?_)))))
  refine r_op (t_ln rfl tyS22) ⟨rfl, trivial⟩ ?_
  refine r_mv ?_
  obtain ⟨v29, h30, hF⟩ := bnd hF
  refine r_op (t_sub rfl h30) ⟨rfl, rfl, trivial⟩ ?_
  refine r_as ?_
  refine r_nil (r_next (r_blk (r_cutN (fun H E => ∃ (x57 : List Int), ∃ (x63 : List Int), ∃ (b58 : Option Nat), ∃ (c59 : Nat), ∃ (n60 : Nat), ∃ (b64 : Option Nat), ∃ (c65 : Nat), ∃ (n66 : Nat), F_integer_long_j70 K a1 v7 x57 x63 = some r ∧ x57.length = n60 ∧ x63.length = n66 ∧ H = [hO cI b58 c59 3 n60 x57, hO cI b64 c65 3 n66 x63] ∧ E = [(6, .vc (pI .i64 v7)), (7, .vc (pO b64 n66 c65)), (9, .vc (pI .i64 (a1.length : Int))), (10, .vc (pO b58 n60 c59))]) ?_ (fun Jj70 => ?_))))
  · rintro _ _ ⟨x57, x63, b58, c59, n60, b64, c65, n66, hF, q61, q67, rfl, rfl⟩
    unfold F_integer_long_j70 at hF
    refine r_next (r_seq (r_reg (r_mv ?_)))
    refine r_mv ?_
    refine r_fzL 1 [7, 213] rfl q67 ⟨rfl, rfl, trivial⟩ rfl ?_
    obtain ⟨x71, h72, hF⟩ := bnd hF
    refine r_op (t_cutH rfl tyS22 h72) ⟨rfl, rfl, trivial⟩ ?_
    refine r_mv ?_
    obtain ⟨v73, h74, hF⟩ := bnd hF
    refine r_op (t_call rfl (ct_integer_short h74) rfl) ⟨rfl, rfl, trivial⟩ ?_
    refine r_mv ?_
    refine r_op (t_ext2a rfl) ⟨rfl, trivial⟩ ?_
    refine r_op (t_ext2b rfl) ⟨rfl, trivial⟩ ?_
    refine r_as ?_
    refine r_as ?_
    refine r_nil (r_next (r_seq (r_reg (r_mv ?_))))
    refine r_mv ?_
    refine r_as ?_
    refine r_as ?_
    refine r_nil (r_next (r_ret (r_toR (r_fzX 0 [4, 10, 220] rfl q61 ⟨rfl, rfl, rfl, trivial⟩ rfl ?_))))
    obtain rfl := sm1 hF
    exact r_done1 (.inl rfl) Tryz.results172 (.tmp rfl (.tmp rfl .nil)) rfl rfl
  · skip
    obtain ⟨⟨x57', x63'⟩, hL, hRl69⟩ := bnd hF
    refine r_lp (fun k a w => ∃ (x44 : List Int), ∃ (x50 : List Int), ∃ (x56 : Int), ∃ (b45 : Option Nat), ∃ (c46 : Nat), ∃ (n47 : Nat), ∃ (b51 : Option Nat), ∃ (c52 : Nat), ∃ (n53 : Nat), F_integer_long_l69 K a1 x17 k x44 x50 x56 = some (x57', x63') ∧ x44.length = n47 ∧ x50.length = n53 ∧ hs _ [hO cI b45 c46 3 n47 x44, hO cI b51 c52 3 n53 x50] [(6, .vc (pI .i64 v7)), (7, .vc (pO b51 n53 c52)), (8, .vc (pS cI x17)), (9, .vc (pI .i64 (a1.length : Int))), (10, .vc (pO b45 n47 c46)), (11, .vc (pI .i64 x56))] a w) K (fun a w ⟨_, _, _, _, _, _, _, _, _, hF, _, _, _⟩ => by cases hF) (fun k a w ⟨x44, x50, x56, b45, c46, n47, b51, c52, n53, hF, q48, q54, hh⟩ => r_at ?_ hh) (fun a w hh => ⟨x24, v11, v29, b26, x24.length, x24.length, ((G9 9).1), ((G9 9).2), v11.length, hL, rfl, rfl, hs_back [0, 1] rfl (by decide) (by exact ⟨rfl, rfl, rfl, rfl, rfl, rfl, trivial⟩) hh⟩)
    rw [F_integer_long_l69.eq_2] at hF
    refine r_seq (r_seq (r_reg (r_mv ?_)))
    refine r_op (t_ge rfl) ⟨rfl, k_I _ _, trivial⟩ ?_
    refine r_nil (r_next (r_if rfl (fun h75 => ?_) (fun h75 => ?_)))
    · have hF := cnd_t h75 hF
      refine r_skip (r_next (r_seq (r_blk (r_scope (r_seq ?_)))))
      obtain ⟨v78, h79, hF⟩ := bnd hF
      obtain ⟨v80, h81, hF⟩ := bnd hF
      obtain ⟨v82, h83, hF⟩ := bnd hF
      obtain ⟨v84, h85, hF⟩ := bnd hF
      obtain ⟨v86, h87, hF⟩ := bnd hF
      obtain ⟨v88, h89, hF⟩ := bnd hF
      obtain ⟨v90, h91, hF⟩ := bnd hF
      refine r_draw [0, 0, 0, 6, 15, 31, 63, 0, 0, 0, 768, 1792, 3968, 8064, 16383, 32767] 16 0 [.v (.vc (pO b51 n53 c52)), .v (.vc (pI .i64 x56)), .v (.vc (pI .i64 (a1.length : Int))), .v (.vc (pI .i64 v78)), .v (.vc (pE b51 v78 cI.n 0)), .v (.vc (pI .i64 v80)), .v (.vc (pI .i64 v82)), .v (.vc (pO b51 n53 c52)), .v (.vc (pI .i64 x56)), .v (.vc (pI .i64 (a1.length : Int))), .v (.vc (pI .i64 v84)), .v (.vc (pI .i64 v86)), .v (.vc (pE b51 v86 cI.n 0)), .v (.vc (pI .i64 v88)), .v (.vc (pI .i64 v90)), .v (.vc (pI .i64 v90))] Tryz_mixed ⟨⟨rfl, .run (lo := 0) (n := 1) ⟨fun G76 A => t_mv (.inl rfl), trivial⟩ (fun G76 => ⟨rfl, trivial⟩)⟩, ⟨rfl, .run (lo := 0) (n := 1) ⟨fun G76 A => t_mv (.inl rfl), trivial⟩ (fun G76 => ⟨rfl, trivial⟩)⟩, ⟨rfl, .run (lo := 0) (n := 1) ⟨fun G76 A => t_mv (.inl rfl), trivial⟩ (fun G76 => ⟨rfl, trivial⟩)⟩, ⟨rfl, .run (lo := 0) (n := 1) ⟨fun G76 A => t_add rfl h79, trivial⟩ (fun G76 => ⟨rfl, rfl, trivial⟩)⟩, ⟨rfl, .run (lo := 0) (n := 1) ⟨fun G76 A => t_ixE (C := cI) 1 rfl tyS22 rfl q54 (rdL_some h81).1 (rdL_some h81).2.1, trivial⟩ (fun G76 => ⟨rfl, rfl, trivial⟩)⟩, ⟨rfl, .run (lo := 0) (n := 1) ⟨fun G76 A => t_ldE (k := 1) 1 rfl rfl h81 rfl (.one tyO3) rfl, trivial⟩ (fun G76 => ⟨rfl, trivial⟩)⟩, ⟨rfl, .run (lo := 0) (n := 1) ⟨fun G76 A => t_mul rfl h83, trivial⟩ (fun G76 => ⟨rfl, k_I _ _, trivial⟩)⟩, ⟨rfl, .run (lo := 0) (n := 1) ⟨fun G76 A => t_mv (.inl rfl), trivial⟩ (fun G76 => ⟨rfl, trivial⟩)⟩, ⟨rfl, .run (lo := 0) (n := 1) ⟨fun G76 A => t_mv (.inl rfl), trivial⟩ (fun G76 => ⟨rfl, trivial⟩)⟩, ⟨rfl, .run (lo := 0) (n := 1) ⟨fun G76 A => t_mv (.inl rfl), trivial⟩ (fun G76 => ⟨rfl, trivial⟩)⟩, ⟨rfl, .run (lo := 0) (n := 1) ⟨fun G76 A => t_add rfl h85, trivial⟩ (fun G76 => ⟨rfl, rfl, trivial⟩)⟩, ⟨rfl, .run (lo := 0) (n := 1) ⟨fun G76 A => t_sub rfl h87, trivial⟩ (fun G76 => ⟨rfl, k_I _ _, trivial⟩)⟩, ⟨rfl, .run (lo := 0) (n := 1) ⟨fun G76 A => t_ixE (C := cI) 1 rfl tyS22 rfl q54 (rdL_some h89).1 (rdL_some h89).2.1, trivial⟩ (fun G76 => ⟨rfl, rfl, trivial⟩)⟩, ⟨rfl, .run (lo := 0) (n := 1) ⟨fun G76 A => t_ldE (k := 1) 1 rfl rfl h89 rfl (.one tyO3) rfl, trivial⟩ (fun G76 => ⟨rfl, trivial⟩)⟩, ⟨rfl, .run (lo := 0) (n := 1) ⟨fun G76 A => t_add rfl h91, trivial⟩ (fun G76 => ⟨rfl, rfl, trivial⟩)⟩, ⟨rfl, .run (lo := 0) (n := 1) ⟨fun G76 A => t_mv (.inr rfl), trivial⟩ (fun G76 => ⟨rfl, trivial⟩)⟩, trivial⟩ (fun bs77 G76 => ?_)
      refine r_nil (r_next (r_seq ?_))
      obtain ⟨v94, h95, hF⟩ := bnd hF
      obtain ⟨v96, h97, hF⟩ := bnd hF
      obtain ⟨v98, h99, hF⟩ := bnd hF
      obtain ⟨v100, h101, hF⟩ := bnd hF
      obtain ⟨v102, h103, hF⟩ := bnd hF
      obtain ⟨v104, h105, hF⟩ := bnd hF
      refine r_draw [0, 0, 0, 4, 14, 30, 63, 0, 0, 0, 512, 1792, 3840, 8064, 127, 32767] 16 0 [.v (.vc (pI .i64 v90)), .v (.vc (pS cI x17)), .v (.vc (pI .i64 (a1.length : Int))), .v (.vc (pI .i64 v94)), .v (.vc (pM (cI.e v96))), .v (.vc (pI .i64 v96)), .v (.vc (pI .i64 v98)), .v (.vc (pI .i64 v90)), .v (.vc (pS cI x17)), .v (.vc (pI .i64 (a1.length : Int))), .v (.vc (pI .i64 v100)), .v (.vc (pM (cI.e v102))), .v (.vc (pI .i64 v102)), .v (.vc (pI .i64 v104)), .v (.vc (pI .i64 v98)), .v (.vc (pI .i64 v104))] Tryz_mixed ⟨⟨rfl, .run (lo := 0) (n := 1) ⟨fun G92 A => t_mv (.inl rfl), trivial⟩ (fun G92 => ⟨rfl, trivial⟩)⟩, ⟨rfl, .run (lo := 0) (n := 1) ⟨fun G92 A => t_mv (.inl rfl), trivial⟩ (fun G92 => ⟨rfl, trivial⟩)⟩, ⟨rfl, .run (lo := 0) (n := 1) ⟨fun G92 A => t_mv (.inl rfl), trivial⟩ (fun G92 => ⟨rfl, trivial⟩)⟩, ⟨rfl, .run (lo := 0) (n := 1) ⟨fun G92 A => t_sub rfl h95, trivial⟩ (fun G92 => ⟨rfl, k_I _ _, trivial⟩)⟩, ⟨rfl, .run (lo := 0) (n := 1) ⟨fun G92 A => t_ix rfl tyS22 h97, trivial⟩ (fun G92 => ⟨rfl, rfl, trivial⟩)⟩, ⟨rfl, .run (lo := 0) (n := 1) ⟨fun G92 A => t_lM 1 rfl rfl (.one tyO3), trivial⟩ (fun G92 => ⟨rfl, trivial⟩)⟩, ⟨rfl, .run (lo := 0) (n := 1) ⟨fun G92 A => t_quo rfl h99, trivial⟩ (fun G92 => ⟨rfl, rfl, trivial⟩)⟩, ⟨rfl, .run (lo := 0) (n := 1) ⟨fun G92 A => t_mv (.inl rfl), trivial⟩ (fun G92 => ⟨rfl, trivial⟩)⟩, ⟨rfl, .run (lo := 0) (n := 1) ⟨fun G92 A => t_mv (.inl rfl), trivial⟩ (fun G92 => ⟨rfl, trivial⟩)⟩, ⟨rfl, .run (lo := 0) (n := 1) ⟨fun G92 A => t_mv (.inl rfl), trivial⟩ (fun G92 => ⟨rfl, trivial⟩)⟩, ⟨rfl, .run (lo := 0) (n := 1) ⟨fun G92 A => t_sub rfl h101, trivial⟩ (fun G92 => ⟨rfl, k_I _ _, trivial⟩)⟩, ⟨rfl, .run (lo := 0) (n := 1) ⟨fun G92 A => t_ix rfl tyS22 h103, trivial⟩ (fun G92 => ⟨rfl, rfl, trivial⟩)⟩, ⟨rfl, .run (lo := 0) (n := 1) ⟨fun G92 A => t_lM 1 rfl rfl (.one tyO3), trivial⟩ (fun G92 => ⟨rfl, trivial⟩)⟩, ⟨rfl, .run (lo := 0) (n := 1) ⟨fun G92 A => t_rem rfl h105, trivial⟩ (fun G92 => ⟨rfl, rfl, trivial⟩)⟩, ⟨rfl, .run (lo := 0) (n := 1) ⟨fun G92 A => t_mv (.inr rfl), trivial⟩ (fun G92 => ⟨rfl, trivial⟩)⟩, ⟨rfl, .run (lo := 0) (n := 1) ⟨fun G92 A => t_mv (.inr rfl), trivial⟩ (fun G92 => ⟨rfl, trivial⟩)⟩, trivial⟩ (fun bs93 G92 => ?_)
      refine r_nil (r_next (r_seq (r_label (r_next (r_seq (r_blk (r_cutN (fun H E => ∃ (x110 : Int), F_integer_long_j112 K a1 x17 x44 x50 x56 (F_integer_long_l69 K a1 x17 k) x110 = some (x57', x63') ∧ H = [hO cI b45 c46 3 n47 x44, hO cI b51 c52 3 n53 x50] ∧ E = [(6, .vc (pI .i64 v7)), (7, .vc (pO b51 n53 c52)), (8, .vc (pS cI x17)), (9, .vc (pI .i64 (a1.length : Int))), (10, .vc (pO b45 n47 c46)), (11, .vc (pI .i64 x56)), (13, .vc (pI .i64 x110))]) ?_ (fun Jj112 => ?_))))))))
      · rintro _ _ ⟨x110, hF, rfl, rfl⟩
        unfold F_integer_long_j112 at hF
        refine r_next (r_seq (r_reg (r_op (t_mv (.inr rfl)) ⟨k_I _ _, trivial⟩ ?_)))
        refine r_nil (r_next (r_seq (r_seq (r_reg (r_mv ?_)))))
        refine r_op (t_mv (.inl rfl)) ⟨k_I _ _, trivial⟩ ?_
        refine r_nil (r_next (r_blk (r_cutN (fun H E => ∃ (x129 : List Int), ∃ (x135 : Int), ∃ (b130 : Option Nat), ∃ (c131 : Nat), ∃ (n132 : Nat), F_integer_long_j137 K a1 x17 x44 x56 x110 (F_integer_long_l69 K a1 x17 k) x129 x135 = some (x57', x63') ∧ x129.length = n132 ∧ H = [hO cI b45 c46 3 n47 x44, hO cI b130 c131 3 n132 x129] ∧ E = [(6, .vc (pI .i64 v7)), (7, .vc (pO b130 n132 c131)), (8, .vc (pS cI x17)), (9, .vc (pI .i64 (a1.length : Int))), (10, .vc (pO b45 n47 c46)), (11, .vc (pI .i64 x56)), (13, .vc (pI .i64 x110)), (15, .vc (pI .i64 x135))]) ?_ (fun Jj137 => ?_))))
        · rintro _ _ ⟨x129, x135, b130, c131, n132, hF, q133, rfl, rfl⟩
          unfold F_integer_long_j137 at hF
          refine r_next (r_seq (r_seq (r_reg (r_mv ?_))))
          refine r_mv ?_
          refine r_mv ?_
          obtain ⟨v138, h139, hF⟩ := bnd hF
          refine r_op (t_add rfl h139) ⟨rfl, rfl, trivial⟩ ?_
          obtain ⟨v140, h141, hF⟩ := bnd hF
          refine r_op (t_ixE (C := cI) 1 rfl tyS22 rfl q133 (rdL_some h141).1 (rdL_some h141).2.1) ⟨rfl, rfl, trivial⟩ ?_
          refine r_op (t_ldE (k := 1) 1 rfl rfl h141 rfl (.one tyO3) rfl) ⟨rfl, trivial⟩ ?_
          refine r_mv ?_
          obtain ⟨v142, h143, hF⟩ := bnd hF
          refine r_op (t_sub rfl h143) ⟨rfl, rfl, trivial⟩ ?_
          obtain ⟨v144, h145, hF⟩ := bnd hF
          refine r_op (t_ixE (C := cI) 1 rfl tyS22 rfl q133 (rdL_some h145).1 (rdL_some h145).2.1) ⟨rfl, rfl, trivial⟩ ?_
          obtain ⟨x146, h147, hF⟩ := bnd hF
          refine r_op0 (t_stE 1 rfl rfl h145 h147 tyO3.s) ⟨rfl, rfl, trivial⟩ ?_
          refine r_nil (r_next (r_seq (r_reg (r_mv ?_))))
          refine r_mv ?_
          refine r_mv ?_
          obtain ⟨v149, h150, hF⟩ := bnd hF
          refine r_op (t_add rfl h150) ⟨rfl, rfl, trivial⟩ ?_
          obtain ⟨v151, h152, hF⟩ := bnd hF
          refine r_op (t_ixE (C := cI) 1 rfl tyS22 rfl (stL_len h147 q133) (rdL_some h152).1 (rdL_some h152).2.1) ⟨rfl, rfl, trivial⟩ ?_
          refine r_op (t_ldE (k := 1) 1 rfl rfl h152 rfl (.one tyO3) rfl) ⟨rfl, trivial⟩ ?_
          refine r_op (t_lt rfl) ⟨rfl, k_I _ _, trivial⟩ ?_
          refine r_nil (r_next (r_if rfl (fun h153 => ?_) (fun h153 => ?_)))
          · have hF := cnd_t h153 hF
            refine r_seq (r_reg (r_mv ?_))
            obtain ⟨v154, h155, hF⟩ := bnd hF
            refine r_op (t_sub rfl h155) ⟨rfl, k_I _ _, trivial⟩ ?_
            refine r_as ?_
            refine r_nil (r_next (r_seq (r_reg (r_op (t_mv (.inr rfl)) ⟨k_I _ _, trivial⟩ ?_))))
            refine r_nil (r_next (r_seq (r_seq (r_reg (r_mv ?_)))))
            refine r_op (t_mv (.inl rfl)) ⟨k_I _ _, trivial⟩ ?_
            refine r_nil (r_next (r_blk (r_cutN (fun H E => ∃ (x172 : List Int), ∃ (x178 : Int), ∃ (b173 : Option Nat), ∃ (c174 : Nat), ∃ (n175 : Nat), F_integer_long_j180 K a1 x44 x56 v154 (F_integer_long_l69 K a1 x17 k) x172 x178 = some (x57', x63') ∧ x172.length = n175 ∧ H = [hO cI b45 c46 3 n47 x44, hO cI b173 c174 3 n175 x172] ∧ E = [(6, .vc (pI .i64 v7)), (7, .vc (pO b173 n175 c174)), (8, .vc (pS cI x17)), (9, .vc (pI .i64 (a1.length : Int))), (10, .vc (pO b45 n47 c46)), (11, .vc (pI .i64 x56)), (13, .vc (pI .i64 v154)), (15, .vc (pI .i64 x178))]) ?_ (fun Jj180 => ?_))))
            · rintro _ _ ⟨x172, x178, b173, c174, n175, hF, q176, rfl, rfl⟩
              unfold F_integer_long_j180 at hF
              refine r_next (r_reg (r_mv ?_))
              refine r_mv ?_
              refine r_mv ?_
              obtain ⟨v181, h182, hF⟩ := bnd hF
              refine r_op (t_add rfl h182) ⟨rfl, rfl, trivial⟩ ?_
              obtain ⟨v183, h184, hF⟩ := bnd hF
              refine r_op (t_ixE (C := cI) 1 rfl tyS22 rfl q176 (rdL_some h184).1 (rdL_some h184).2.1) ⟨rfl, rfl, trivial⟩ ?_
              refine r_op (t_ldE (k := 1) 1 rfl rfl h184 rfl (.one tyO3) rfl) ⟨rfl, trivial⟩ ?_
              refine r_mv ?_
              obtain ⟨v185, h186, hF⟩ := bnd hF
              refine r_op (t_add rfl h186) ⟨rfl, rfl, trivial⟩ ?_
              obtain ⟨v187, h188, hF⟩ := bnd hF
              refine r_op (t_ixE (C := cI) 1 rfl tyS22 rfl q176 (rdL_some h188).1 (rdL_some h188).2.1) ⟨rfl, rfl, trivial⟩ ?_
              obtain ⟨x189, h190, hF⟩ := bnd hF
              refine r_op0 (t_stE 1 rfl rfl h188 h190 tyO3.s) ⟨rfl, rfl, trivial⟩ ?_
              refine r_nil (r_next (r_reg (r_mv ?_)))
              refine r_mv ?_
              refine r_mv ?_
              obtain ⟨v192, h193, hF⟩ := bnd hF
              refine r_op (t_ixE (C := cI) 0 rfl tyS22 rfl q48 (rdL_some h193).1 (rdL_some h193).2.1) ⟨rfl, rfl, trivial⟩ ?_
              obtain ⟨x194, h195, hF⟩ := bnd hF
              refine r_op0 (t_stE 0 rfl rfl h193 h195 tyO3.s) ⟨rfl, rfl, trivial⟩ ?_
              refine r_nil (r_scN (r_blkN (r_next (r_reg (r_mv ?_)))))
              obtain ⟨v197, h198, hF⟩ := bnd hF
              refine r_op (t_sub rfl h198) ⟨rfl, k_I _ _, trivial⟩ ?_
              refine r_as ?_
              refine r_nil ?_
              exact r_round (fun a w hh => ⟨x194, x189, v197, b45, c46, n47, b173, c174, n175, hF, (stL_len h195 q48), (stL_len h190 q176), hs_back [0, 1] rfl (by decide) (by exact ⟨rfl, rfl, rfl, rfl, rfl, rfl, trivial⟩) hh⟩)
            · skip
              obtain ⟨⟨x172', x178'⟩, hL, hRl179⟩ := bnd hF
              refine r_lp (fun k a w => ∃ (x164 : List Int), ∃ (x170 : Int), ∃ (x171 : Int), ∃ (b165 : Option Nat), ∃ (c166 : Nat), ∃ (n167 : Nat), F_integer_long_l179 K a1 x17 x56 k x164 x170 x171 = some (x172', x178') ∧ x164.length = n167 ∧ hs _ [hO cI b45 c46 3 n47 x44, hO cI b165 c166 3 n167 x164] [(6, .vc (pI .i64 v7)), (7, .vc (pO b165 n167 c166)), (8, .vc (pS cI x17)), (9, .vc (pI .i64 (a1.length : Int))), (10, .vc (pO b45 n47 c46)), (11, .vc (pI .i64 x56)), (13, .vc (pI .i64 v154)), (15, .vc (pI .i64 x170)), (172, .vc (pI .i64 (a1.length : Int))), (173, .vc (pI .i64 x171))] a w) K (fun a w ⟨_, _, _, _, _, _, hF, _, _⟩ => by cases hF) (fun k a w ⟨x164, x170, x171, b165, c166, n167, hF, q168, hh⟩ => r_at ?_ hh) (fun a w hh => ⟨x146, 0, 0, b130, c131, n132, hL, (stL_len h147 q133), hs_back [0, 1] rfl (by decide) (by exact ⟨rfl, rfl, rfl, rfl, rfl, rfl, rfl, rfl, rfl, rfl, trivial⟩) hh⟩)
              rw [F_integer_long_l179.eq_2] at hF
              refine r_seq (r_reg (r_op (t_lt rfl) ⟨rfl, rfl, trivial⟩ ?_))
              refine r_nil (r_next (r_seq (r_if rfl (fun h199 => ?_) (fun h199 => ?_))))
              · have hF := cnd_t h199 hF
                refine r_skip (r_next (r_seq (r_blk (r_seq (r_reg (r_mv ?_))))))
                refine r_as ?_
                refine r_nil (r_next (r_seq ?_))
                obtain ⟨v202, h203, hF⟩ := bnd hF
                obtain ⟨v204, h205, hF⟩ := bnd hF
                obtain ⟨v206, h207, hF⟩ := bnd hF
                obtain ⟨v208, h209, hF⟩ := bnd hF
                obtain ⟨v210, h211, hF⟩ := bnd hF
                refine r_draw [0, 0, 0, 6, 15, 31, 0, 0, 192, 448, 1023, 0, 4095, 8191] 14 0 [.v (.vc (pO b165 n167 c166)), .v (.vc (pI .i64 x171)), .v (.vc (pI .i64 x56)), .v (.vc (pI .i64 v202)), .v (.vc (pE b165 v202 cI.n 0)), .v (.vc (pI .i64 v204)), .v (.vc (pS cI x17)), .v (.vc (pI .i64 x171)), .v (.vc (pM (cI.e v206))), .v (.vc (pI .i64 v206)), .v (.vc (pI .i64 v208)), .v (.vc (pI .i64 x170)), .v (.vc (pI .i64 v210)), .v (.vc (pI .i64 v210))] Tryz_mixed ⟨⟨rfl, .run (lo := 0) (n := 1) ⟨fun G200 A => t_mv (.inl rfl), trivial⟩ (fun G200 => ⟨rfl, trivial⟩)⟩, ⟨rfl, .run (lo := 0) (n := 1) ⟨fun G200 A => t_mv (.inl rfl), trivial⟩ (fun G200 => ⟨rfl, trivial⟩)⟩, ⟨rfl, .run (lo := 0) (n := 1) ⟨fun G200 A => t_mv (.inl rfl), trivial⟩ (fun G200 => ⟨rfl, trivial⟩)⟩, ⟨rfl, .run (lo := 0) (n := 1) ⟨fun G200 A => t_add rfl h203, trivial⟩ (fun G200 => ⟨rfl, rfl, trivial⟩)⟩, ⟨rfl, .run (lo := 0) (n := 1) ⟨fun G200 A => t_ixE (C := cI) 1 rfl tyS22 rfl q168 (rdL_some h205).1 (rdL_some h205).2.1, trivial⟩ (fun G200 => ⟨rfl, rfl, trivial⟩)⟩, ⟨rfl, .run (lo := 0) (n := 1) ⟨fun G200 A => t_ldE (k := 1) 1 rfl rfl h205 rfl (.one tyO3) rfl, trivial⟩ (fun G200 => ⟨rfl, trivial⟩)⟩, ⟨rfl, .run (lo := 0) (n := 1) ⟨fun G200 A => t_mv (.inl rfl), trivial⟩ (fun G200 => ⟨rfl, trivial⟩)⟩, ⟨rfl, .run (lo := 0) (n := 1) ⟨fun G200 A => t_mv (.inl rfl), trivial⟩ (fun G200 => ⟨rfl, trivial⟩)⟩, ⟨rfl, .run (lo := 0) (n := 1) ⟨fun G200 A => t_ix rfl tyS22 h207, trivial⟩ (fun G200 => ⟨rfl, rfl, trivial⟩)⟩, ⟨rfl, .run (lo := 0) (n := 1) ⟨fun G200 A => t_lM 1 rfl rfl (.one tyO3), trivial⟩ (fun G200 => ⟨rfl, trivial⟩)⟩, ⟨rfl, .run (lo := 0) (n := 1) ⟨fun G200 A => t_add rfl h209, trivial⟩ (fun G200 => ⟨rfl, rfl, trivial⟩)⟩, ⟨rfl, .run (lo := 0) (n := 1) ⟨fun G200 A => t_mv (.inl rfl), trivial⟩ (fun G200 => ⟨rfl, trivial⟩)⟩, ⟨rfl, .run (lo := 0) (n := 1) ⟨fun G200 A => t_add rfl h211, trivial⟩ (fun G200 => ⟨rfl, rfl, trivial⟩)⟩, ⟨rfl, .run (lo := 0) (n := 1) ⟨fun G200 A => t_mv (.inr rfl), trivial⟩ (fun G200 => ⟨rfl, trivial⟩)⟩, trivial⟩ (fun bs201 G200 => ?_)
                refine r_nil (r_next (r_reg (r_mv ?_)))
                refine r_mv ?_
                refine r_mv ?_
                obtain ⟨v212, h213, hF⟩ := bnd hF
                refine r_op (t_add rfl h213) ⟨rfl, rfl, trivial⟩ ?_
                refine r_mv ?_
                obtain ⟨v214, h215, hF⟩ := bnd hF
                refine r_op (t_rem rfl h215) ⟨rfl, k_I _ _, trivial⟩ ?_
                refine r_mv ?_
                obtain ⟨v216, h217, hF⟩ := bnd hF
                refine r_op (t_quo rfl h217) ⟨rfl, k_I _ _, trivial⟩ ?_
                obtain ⟨v218, h219, hF⟩ := bnd hF
                refine r_op (t_ixE (C := cI) 1 rfl tyS22 rfl q168 (rdL_some h219).1 (rdL_some h219).2.1) ⟨rfl, rfl, trivial⟩ ?_
                obtain ⟨x220, h221, hF⟩ := bnd hF
                refine r_op0 (t_stE 1 rfl rfl h219 h221 tyO3.s) ⟨rfl, rfl, trivial⟩ ?_
                refine r_as ?_
                refine r_nil (r_blkN (r_next (r_reg ?_)))
                obtain ⟨v223, h224, hF⟩ := bnd hF
                refine r_op (t_add rfl h224) ⟨rfl, k_I _ _, trivial⟩ ?_
                refine r_mv ?_
                refine r_nil ?_
                exact r_round (fun a w hh => ⟨x220, v216, v223, b165, c166, n167, hF, (stL_len h221 q168), hs_back [0, 1] rfl (by decide) (by exact ⟨rfl, rfl, rfl, rfl, rfl, rfl, rfl, rfl, rfl, rfl, trivial⟩) hh⟩)
              · have hF := cnd_f h199 hF
                refine r_brk ?_
                obtain ⟨rfl, rfl⟩ := sm2 hF
                exact r_backJ Jj180 ⟨x164, x170, b165, c166, n167, hRl179, q168, rfl, rfl⟩ [0, 1] rfl ⟨rfl, rfl, rfl, rfl, rfl, rfl, rfl, rfl, trivial⟩
          · have hF := cnd_f h153 hF
            refine r_skip (r_next (r_reg (r_mv ?_)))
            refine r_mv ?_
            refine r_mv ?_
            obtain ⟨v225, h226, hF⟩ := bnd hF
            refine r_op (t_ixE (C := cI) 0 rfl tyS22 rfl q48 (rdL_some h226).1 (rdL_some h226).2.1) ⟨rfl, rfl, trivial⟩ ?_
            obtain ⟨x227, h228, hF⟩ := bnd hF
            refine r_op0 (t_stE 0 rfl rfl h226 h228 tyO3.s) ⟨rfl, rfl, trivial⟩ ?_
            refine r_nil (r_scN (r_blkN (r_next (r_reg (r_mv ?_)))))
            obtain ⟨v230, h231, hF⟩ := bnd hF
            refine r_op (t_sub rfl h231) ⟨rfl, k_I _ _, trivial⟩ ?_
            refine r_as ?_
            refine r_nil ?_
            exact r_round (fun a w hh => ⟨x227, x146, v230, b45, c46, n47, b130, c131, n132, hF, (stL_len h228 q48), (stL_len h147 q133), hs_back [0, 1] rfl (by decide) (by exact ⟨rfl, rfl, rfl, rfl, rfl, rfl, trivial⟩) hh⟩)
        · skip
          obtain ⟨⟨x129', x135'⟩, hL, hRl136⟩ := bnd hF
          refine r_lp (fun k a w => ∃ (x121 : List Int), ∃ (x127 : Int), ∃ (x128 : Int), ∃ (b122 : Option Nat), ∃ (c123 : Nat), ∃ (n124 : Nat), F_integer_long_l136 K a1 x17 x56 x110 k x121 x127 x128 = some (x129', x135') ∧ x121.length = n124 ∧ hs _ [hO cI b45 c46 3 n47 x44, hO cI b122 c123 3 n124 x121] [(6, .vc (pI .i64 v7)), (7, .vc (pO b122 n124 c123)), (8, .vc (pS cI x17)), (9, .vc (pI .i64 (a1.length : Int))), (10, .vc (pO b45 n47 c46)), (11, .vc (pI .i64 x56)), (13, .vc (pI .i64 x110)), (15, .vc (pI .i64 x127)), (117, .vc (pI .i64 (a1.length : Int))), (118, .vc (pI .i64 x128))] a w) K (fun a w ⟨_, _, _, _, _, _, hF, _, _⟩ => by cases hF) (fun k a w ⟨x121, x127, x128, b122, c123, n124, hF, q125, hh⟩ => r_at ?_ hh) (fun a w hh => ⟨x50, 0, 0, b51, c52, n53, hL, q54, hs_back [0, 1] rfl (by decide) (by exact ⟨rfl, rfl, rfl, rfl, rfl, rfl, rfl, rfl, rfl, rfl, trivial⟩) hh⟩)
          rw [F_integer_long_l136.eq_2] at hF
          refine r_seq (r_reg (r_op (t_lt rfl) ⟨rfl, rfl, trivial⟩ ?_))
          refine r_nil (r_next (r_seq (r_if rfl (fun h232 => ?_) (fun h232 => ?_))))
          · have hF := cnd_t h232 hF
            refine r_skip (r_next (r_seq (r_blk (r_seq (r_reg (r_mv ?_))))))
            refine r_as ?_
            refine r_nil (r_next (r_seq ?_))
            obtain ⟨v235, h236, hF⟩ := bnd hF
            obtain ⟨v237, h238, hF⟩ := bnd hF
            obtain ⟨v239, h240, hF⟩ := bnd hF
            obtain ⟨v241, h242, hF⟩ := bnd hF
            obtain ⟨v243, h244, hF⟩ := bnd hF
            obtain ⟨v245, h246, hF⟩ := bnd hF
            refine r_draw [0, 0, 0, 6, 15, 31, 0, 0, 0, 384, 896, 1984, 4095, 0, 16383, 32767] 16 0 [.v (.vc (pO b122 n124 c123)), .v (.vc (pI .i64 x128)), .v (.vc (pI .i64 x56)), .v (.vc (pI .i64 v235)), .v (.vc (pE b122 v235 cI.n 0)), .v (.vc (pI .i64 v237)), .v (.vc (pI .i64 x110)), .v (.vc (pS cI x17)), .v (.vc (pI .i64 x128)), .v (.vc (pM (cI.e v239))), .v (.vc (pI .i64 v239)), .v (.vc (pI .i64 v241)), .v (.vc (pI .i64 v243)), .v (.vc (pI .i64 x127)), .v (.vc (pI .i64 v245)), .v (.vc (pI .i64 v245))] Tryz_mixed ⟨⟨rfl, .run (lo := 0) (n := 1) ⟨fun G233 A => t_mv (.inl rfl), trivial⟩ (fun G233 => ⟨rfl, trivial⟩)⟩, ⟨rfl, .run (lo := 0) (n := 1) ⟨fun G233 A => t_mv (.inl rfl), trivial⟩ (fun G233 => ⟨rfl, trivial⟩)⟩, ⟨rfl, .run (lo := 0) (n := 1) ⟨fun G233 A => t_mv (.inl rfl), trivial⟩ (fun G233 => ⟨rfl, trivial⟩)⟩, ⟨rfl, .run (lo := 0) (n := 1) ⟨fun G233 A => t_add rfl h236, trivial⟩ (fun G233 => ⟨rfl, rfl, trivial⟩)⟩, ⟨rfl, .run (lo := 0) (n := 1) ⟨fun G233 A => t_ixE (C := cI) 1 rfl tyS22 rfl q125 (rdL_some h238).1 (rdL_some h238).2.1, trivial⟩ (fun G233 => ⟨rfl, rfl, trivial⟩)⟩, ⟨rfl, .run (lo := 0) (n := 1) ⟨fun G233 A => t_ldE (k := 1) 1 rfl rfl h238 rfl (.one tyO3) rfl, trivial⟩ (fun G233 => ⟨rfl, trivial⟩)⟩, ⟨rfl, .run (lo := 0) (n := 1) ⟨fun G233 A => t_mv (.inl rfl), trivial⟩ (fun G233 => ⟨rfl, trivial⟩)⟩, ⟨rfl, .run (lo := 0) (n := 1) ⟨fun G233 A => t_mv (.inl rfl), trivial⟩ (fun G233 => ⟨rfl, trivial⟩)⟩, ⟨rfl, .run (lo := 0) (n := 1) ⟨fun G233 A => t_mv (.inl rfl), trivial⟩ (fun G233 => ⟨rfl, trivial⟩)⟩, ⟨rfl, .run (lo := 0) (n := 1) ⟨fun G233 A => t_ix rfl tyS22 h240, trivial⟩ (fun G233 => ⟨rfl, rfl, trivial⟩)⟩, ⟨rfl, .run (lo := 0) (n := 1) ⟨fun G233 A => t_lM 1 rfl rfl (.one tyO3), trivial⟩ (fun G233 => ⟨rfl, trivial⟩)⟩, ⟨rfl, .run (lo := 0) (n := 1) ⟨fun G233 A => t_mul rfl h242, trivial⟩ (fun G233 => ⟨rfl, rfl, trivial⟩)⟩, ⟨rfl, .run (lo := 0) (n := 1) ⟨fun G233 A => t_sub rfl h244, trivial⟩ (fun G233 => ⟨rfl, rfl, trivial⟩)⟩, ⟨rfl, .run (lo := 0) (n := 1) ⟨fun G233 A => t_mv (.inl rfl), trivial⟩ (fun G233 => ⟨rfl, trivial⟩)⟩, ⟨rfl, .run (lo := 0) (n := 1) ⟨fun G233 A => t_sub rfl h246, trivial⟩ (fun G233 => ⟨rfl, rfl, trivial⟩)⟩, ⟨rfl, .run (lo := 0) (n := 1) ⟨fun G233 A => t_mv (.inr rfl), trivial⟩ (fun G233 => ⟨rfl, trivial⟩)⟩, trivial⟩ (fun bs234 G233 => ?_)
            refine r_nil (r_next (r_seq (r_reg (r_op (t_mv (.inr rfl)) ⟨k_I _ _, trivial⟩ ?_))))
            refine r_nil (r_next (r_seq (r_seq (r_reg (r_mv ?_)))))
            refine r_op (t_lt rfl) ⟨rfl, k_I _ _, trivial⟩ ?_
            refine r_nil (r_next (r_if rfl (fun h247 => ?_) (fun h247 => ?_)))
            · have hF := cnd_t h247 hF
              refine r_seq (r_reg (r_mv ?_))
              obtain ⟨v248, h249, hF⟩ := bnd hF
              refine r_op (t_neg rfl h249) ⟨rfl, trivial⟩ ?_
              obtain ⟨v250, h251, hF⟩ := bnd hF
              refine r_op (t_add rfl h251) ⟨rfl, k_I _ _, trivial⟩ ?_
              obtain ⟨v252, h253, hF⟩ := bnd hF
              refine r_op (t_sub rfl h253) ⟨rfl, k_I _ _, trivial⟩ ?_
              obtain ⟨v254, h255, hF⟩ := bnd hF
              refine r_op (t_quo rfl h255) ⟨rfl, k_I _ _, trivial⟩ ?_
              refine r_as ?_
              refine r_nil (r_next (r_reg (r_mv ?_)))
              refine r_mv ?_
              obtain ⟨v256, h257, hF⟩ := bnd hF
              refine r_op (t_mul rfl h257) ⟨rfl, k_I _ _, trivial⟩ ?_
              obtain ⟨v258, h259, hF⟩ := bnd hF
              refine r_op (t_add rfl h259) ⟨rfl, rfl, trivial⟩ ?_
              refine r_as ?_
              refine r_nil (r_next (r_reg (r_mv ?_)))
              refine r_mv ?_
              refine r_mv ?_
              obtain ⟨v260, h261, hF⟩ := bnd hF
              refine r_op (t_add rfl h261) ⟨rfl, rfl, trivial⟩ ?_
              refine r_mv ?_
              obtain ⟨v262, h263, hF⟩ := bnd hF
              refine r_op (t_ixE (C := cI) 1 rfl tyS22 rfl q125 (rdL_some h263).1 (rdL_some h263).2.1) ⟨rfl, rfl, trivial⟩ ?_
              obtain ⟨x264, h265, hF⟩ := bnd hF
              refine r_op0 (t_stE 1 rfl rfl h263 h265 tyO3.s) ⟨rfl, rfl, trivial⟩ ?_
              refine r_nil (r_blkN (r_next (r_reg ?_)))
              obtain ⟨v267, h268, hF⟩ := bnd hF
              refine r_op (t_add rfl h268) ⟨rfl, k_I _ _, trivial⟩ ?_
              refine r_mv ?_
              refine r_nil ?_
              exact r_round (fun a w hh => ⟨x264, v254, v267, b122, c123, n124, hF, (stL_len h265 q125), hs_back [0, 1] rfl (by decide) (by exact ⟨rfl, rfl, rfl, rfl, rfl, rfl, rfl, rfl, rfl, rfl, trivial⟩) hh⟩)
            · have hF := cnd_f h247 hF
              refine r_skip (r_next (r_reg (r_mv ?_)))
              refine r_mv ?_
              refine r_mv ?_
              obtain ⟨v269, h270, hF⟩ := bnd hF
              refine r_op (t_add rfl h270) ⟨rfl, rfl, trivial⟩ ?_
              refine r_mv ?_
              obtain ⟨v271, h272, hF⟩ := bnd hF
              refine r_op (t_ixE (C := cI) 1 rfl tyS22 rfl q125 (rdL_some h272).1 (rdL_some h272).2.1) ⟨rfl, rfl, trivial⟩ ?_
              obtain ⟨x273, h274, hF⟩ := bnd hF
              refine r_op0 (t_stE 1 rfl rfl h272 h274 tyO3.s) ⟨rfl, rfl, trivial⟩ ?_
              refine r_nil (r_blkN (r_next (r_reg ?_)))
              obtain ⟨v276, h277, hF⟩ := bnd hF
              refine r_op (t_add rfl h277) ⟨rfl, k_I _ _, trivial⟩ ?_
              refine r_mv ?_
              refine r_nil ?_
              exact r_round (fun a w hh => ⟨x273, 0, v276, b122, c123, n124, hF, (stL_len h274 q125), hs_back [0, 1] rfl (by decide) (by exact ⟨rfl, rfl, rfl, rfl, rfl, rfl, rfl, rfl, rfl, rfl, trivial⟩) hh⟩)
          · have hF := cnd_f h232 hF
            refine r_brk ?_
            obtain ⟨rfl, rfl⟩ := sm2 hF
            exact r_backJ Jj137 ⟨x121, x127, b122, c123, n124, hRl136, q125, rfl, rfl⟩ [0, 1] rfl ⟨rfl, rfl, rfl, rfl, rfl, rfl, rfl, rfl, trivial⟩
      · skip
        obtain ⟨x110', hL, hRl111⟩ := bnd hF
        refine r_lp (fun k a w => ∃ (x108 : Int), ∃ (x109 : Int), F_integer_long_l111 K a1 x17 x50 x56 k x108 x109 = some x110' ∧ hs _ [hO cI b45 c46 3 n47 x44, hO cI b51 c52 3 n53 x50] [(6, .vc (pI .i64 v7)), (7, .vc (pO b51 n53 c52)), (8, .vc (pS cI x17)), (9, .vc (pI .i64 (a1.length : Int))), (10, .vc (pO b45 n47 c46)), (11, .vc (pI .i64 x56)), (13, .vc (pI .i64 x108)), (14, .vc (pI .i64 x109))] a w) K (fun a w ⟨_, _, hF, _⟩ => by cases hF) (fun k a w ⟨x108, x109, hF, hh⟩ => r_at ?_ hh) (fun a w hh => ⟨v98, v104, hL, hs_back [0, 1] rfl (by decide) (by exact ⟨rfl, rfl, rfl, rfl, rfl, rfl, rfl, rfl, trivial⟩) hh⟩)
        rw [F_integer_long_l111.eq_2] at hF
        refine r_seq (r_seq ?_)
        rcases Bool.eq_false_or_eq_true (decide (1000000000 ≤ x108)) with h280 | h280
        · have hF := cnd_t h280 hF
          refine r_draw [0, 1, 3, 7, 7, 7, 39, 119, 247, 511, 7, 1031, 7, 7, 7, 24583, 57351, 126983, 258055, 523271, 1048575, 2097151] 22 0 [.v (.vc (pI .i64 x108)), .v (.vc (pB (decide (1000000000 ≤ x108)))), .v (.vc (pB true)), .v .any, .v .any, .v .any, .v .any, .v .any, .v .any, .v .any, .v .any, .v .any, .v .any, .v .any, .v .any, .v .any, .v .any, .v .any, .v .any, .v .any, .v .any, .v (.vc (pB true))] Tryz_mixed ⟨⟨rfl, .run (lo := 0) (n := 1) ⟨fun G278 A => t_mv (.inl rfl), trivial⟩ (fun G278 => ⟨rfl, trivial⟩)⟩, ⟨rfl, .run (lo := 0) (n := 1) ⟨fun G278 A => t_ge rfl, trivial⟩ (fun G278 => ⟨rfl, k_I _ _, trivial⟩)⟩, ⟨rfl, .run (lo := 0) (n := 1) ⟨fun G278 A => tr_bool (t_mv (.inl rfl)) h280, trivial⟩ (fun G278 => ⟨rfl, trivial⟩)⟩, ⟨rfl, .skip⟩, ⟨rfl, .skip⟩, ⟨rfl, .skip⟩, ⟨rfl, .skip⟩, ⟨rfl, .skip⟩, ⟨rfl, .skip⟩, ⟨rfl, .skip⟩, ⟨rfl, .skip⟩, ⟨rfl, .skip⟩, ⟨rfl, .skip⟩, ⟨rfl, .skip⟩, ⟨rfl, .skip⟩, ⟨rfl, .skip⟩, ⟨rfl, .skip⟩, ⟨rfl, .skip⟩, ⟨rfl, .skip⟩, ⟨rfl, .skip⟩, ⟨rfl, .skip⟩, ⟨rfl, .run (lo := 0) (n := 1) ⟨fun G278 A => t_pickT rfl, trivial⟩ (fun G278 => ⟨rfl, k_B _, trivial⟩)⟩, trivial⟩ (fun bs279 G278 => ?_)
          refine r_nil (r_next (r_ifT rfl ?_))
          refine r_skip (r_next (r_blk (r_seq (r_reg (r_mv ?_)))))
          obtain ⟨v281, h282, hF⟩ := bnd hF
          refine r_op (t_sub rfl h282) ⟨rfl, k_I _ _, trivial⟩ ?_
          refine r_as ?_
          refine r_nil (r_next (r_seq (r_reg (r_mv ?_))))
          refine r_mv ?_
          refine r_mv ?_
          obtain ⟨v283, h284, hF⟩ := bnd hF
          refine r_op (t_sub rfl h284) ⟨rfl, k_I _ _, trivial⟩ ?_
          obtain ⟨v285, h286, hF⟩ := bnd hF
          refine r_op (t_ix rfl tyS22 h286) ⟨rfl, rfl, trivial⟩ ?_
          refine r_op (t_lM 1 rfl rfl (.one tyO3)) ⟨rfl, trivial⟩ ?_
          obtain ⟨v287, h288, hF⟩ := bnd hF
          refine r_op (t_add rfl h288) ⟨rfl, rfl, trivial⟩ ?_
          refine r_as ?_
          refine r_nil (r_next (r_seq (r_reg (r_mv ?_))))
          refine r_op (t_ge rfl) ⟨rfl, k_I _ _, trivial⟩ ?_
          refine r_nil (r_next (r_if rfl (fun h289 => ?_) (fun h289 => ?_)))
          · have hF := cnd_t h289 hF
            refine r_brk ?_
            obtain rfl := sm1 hF
            exact r_backJ Jj112 ⟨v281, hRl111, rfl, rfl⟩ [0, 1] rfl ⟨rfl, rfl, rfl, rfl, rfl, rfl, rfl, trivial⟩
          · have hF := cnd_f h289 hF
            refine r_skip (r_blkN ?_)
            exact r_round (fun a w hh => ⟨v281, v287, hF, hs_back [0, 1] rfl (by decide) (by exact ⟨rfl, rfl, rfl, rfl, rfl, rfl, rfl, rfl, trivial⟩) hh⟩)
        · have hF := cnd_f h280 hF
          obtain ⟨v290, h291, hF⟩ := bnd hF
          obtain ⟨v292, h293, hF⟩ := bnd hF
          obtain ⟨v294, h295, hF⟩ := bnd hF
          obtain ⟨v296, h297, hF⟩ := bnd hF
          obtain ⟨v298, h299, hF⟩ := bnd hF
          obtain ⟨v300, h301, hF⟩ := bnd hF
          obtain ⟨v302, h303, hF⟩ := bnd hF
          obtain ⟨v304, h305, hF⟩ := bnd hF
          refine r_draw [0, 1, 3, 7, 7, 7, 39, 119, 247, 511, 7, 1031, 7, 7, 7, 24583, 57351, 126983, 258055, 523271, 1048575, 2097151] 22 0 [.v (.vc (pI .i64 x108)), .v (.vc (pB (decide (1000000000 ≤ x108)))), .v (.vc (pB false)), .v (.vc (pI .i64 x108)), .v (.vc (pS cI x17)), .v (.vc (pI .i64 (a1.length : Int))), .v (.vc (pI .i64 v290)), .v (.vc (pM (cI.e v292))), .v (.vc (pI .i64 v292)), .v (.vc (pI .i64 v294)), .v (.vc (pI .i64 x109)), .v (.vc (pI .i64 v296)), .v (.vc (pO b51 n53 c52)), .v (.vc (pI .i64 x56)), .v (.vc (pI .i64 (a1.length : Int))), .v (.vc (pI .i64 v298)), .v (.vc (pI .i64 v300)), .v (.vc (pE b51 v300 cI.n 0)), .v (.vc (pI .i64 v302)), .v (.vc (pI .i64 v304)), .v (.vc (pB (decide (v304 < v294)))), .v (.vc (pB (decide (v304 < v294))))] Tryz_mixed ⟨⟨rfl, .run (lo := 0) (n := 1) ⟨fun G278 A => t_mv (.inl rfl), trivial⟩ (fun G278 => ⟨rfl, trivial⟩)⟩, ⟨rfl, .run (lo := 0) (n := 1) ⟨fun G278 A => t_ge rfl, trivial⟩ (fun G278 => ⟨rfl, k_I _ _, trivial⟩)⟩, ⟨rfl, .run (lo := 0) (n := 1) ⟨fun G278 A => tr_bool (t_mv (.inl rfl)) h280, trivial⟩ (fun G278 => ⟨rfl, trivial⟩)⟩, ⟨rfl, .runG (lo := 0) (n := 1) ⟨fun G278 A => t_mv (.inl rfl), trivial⟩ (fun G278 => ⟨rfl, trivial⟩)⟩, ⟨rfl, .runG (lo := 0) (n := 1) ⟨fun G278 A => t_mv (.inl rfl), trivial⟩ (fun G278 => ⟨rfl, trivial⟩)⟩, ⟨rfl, .runG (lo := 0) (n := 1) ⟨fun G278 A => t_mv (.inl rfl), trivial⟩ (fun G278 => ⟨rfl, trivial⟩)⟩, ⟨rfl, .runG (lo := 0) (n := 1) ⟨fun G278 A => t_sub rfl h291, trivial⟩ (fun G278 => ⟨rfl, k_I _ _, trivial⟩)⟩, ⟨rfl, .runG (lo := 0) (n := 1) ⟨fun G278 A => t_ix rfl tyS22 h293, trivial⟩ (fun G278 => ⟨rfl, rfl, trivial⟩)⟩, ⟨rfl, .runG (lo := 0) (n := 1) ⟨fun G278 A => t_lM 1 rfl rfl (.one tyO3), trivial⟩ (fun G278 => ⟨rfl, trivial⟩)⟩, ⟨rfl, .runG (lo := 0) (n := 1) ⟨fun G278 A => t_mul rfl h295, trivial⟩ (fun G278 => ⟨rfl, rfl, trivial⟩)⟩, ⟨rfl, .runG (lo := 0) (n := 1) ⟨fun G278 A => t_mv (.inl rfl), trivial⟩ (fun G278 => ⟨rfl, trivial⟩)⟩, ⟨rfl, .runG (lo := 0) (n := 1) ⟨fun G278 A => t_mul rfl h297, trivial⟩ (fun G278 => ⟨rfl, k_I _ _, trivial⟩)⟩, ⟨rfl, .runG (lo := 0) (n := 1) ⟨fun G278 A => t_mv (.inl rfl), trivial⟩ (fun G278 => ⟨rfl, trivial⟩)⟩, ⟨rfl, .runG (lo := 0) (n := 1) ⟨fun G278 A => t_mv (.inl rfl), trivial⟩ (fun G278 => ⟨rfl, trivial⟩)⟩, ⟨rfl, .runG (lo := 0) (n := 1) ⟨fun G278 A => t_mv (.inl rfl), trivial⟩ (fun G278 => ⟨rfl, trivial⟩)⟩, ⟨rfl, .runG (lo := 0) (n := 1) ⟨fun G278 A => t_add rfl h299, trivial⟩ (fun G278 => ⟨rfl, rfl, trivial⟩)⟩, ⟨rfl, .runG (lo := 0) (n := 1) ⟨fun G278 A => t_sub rfl h301, trivial⟩ (fun G278 => ⟨rfl, k_I _ _, trivial⟩)⟩, ⟨rfl, .runG (lo := 0) (n := 1) ⟨fun G278 A => t_ixE (C := cI) 1 rfl tyS22 rfl q54 (rdL_some h303).1 (rdL_some h303).2.1, trivial⟩ (fun G278 => ⟨rfl, rfl, trivial⟩)⟩, ⟨rfl, .runG (lo := 0) (n := 1) ⟨fun G278 A => t_ldE (k := 1) 1 rfl rfl h303 rfl (.one tyO3) rfl, trivial⟩ (fun G278 => ⟨rfl, trivial⟩)⟩, ⟨rfl, .runG (lo := 0) (n := 1) ⟨fun G278 A => t_add rfl h305, trivial⟩ (fun G278 => ⟨rfl, rfl, trivial⟩)⟩, ⟨rfl, .runG (lo := 0) (n := 1) ⟨fun G278 A => t_gt rfl, trivial⟩ (fun G278 => ⟨rfl, rfl, trivial⟩)⟩, ⟨rfl, .run (lo := 0) (n := 1) ⟨fun G278 A => t_pickF rfl, trivial⟩ (fun G278 => ⟨rfl, rfl, trivial⟩)⟩, trivial⟩ (fun bs279 G278 => ?_)
          refine r_nil (r_next (r_if rfl (fun h306 => ?_) (fun h306 => ?_)))
          · have hF := cnd_t h306 hF
            refine r_skip (r_next (r_blk (r_seq (r_reg (r_mv ?_)))))
            obtain ⟨v307, h308, hF⟩ := bnd hF
            refine r_op (t_sub rfl h308) ⟨rfl, k_I _ _, trivial⟩ ?_
            refine r_as ?_
            refine r_nil (r_next (r_seq (r_reg (r_mv ?_))))
            refine r_mv ?_
            refine r_mv ?_
            obtain ⟨v309, h310, hF⟩ := bnd hF
            refine r_op (t_sub rfl h310) ⟨rfl, k_I _ _, trivial⟩ ?_
            obtain ⟨v311, h312, hF⟩ := bnd hF
            refine r_op (t_ix rfl tyS22 h312) ⟨rfl, rfl, trivial⟩ ?_
            refine r_op (t_lM 1 rfl rfl (.one tyO3)) ⟨rfl, trivial⟩ ?_
            obtain ⟨v313, h314, hF⟩ := bnd hF
            refine r_op (t_add rfl h314) ⟨rfl, rfl, trivial⟩ ?_
            refine r_as ?_
            refine r_nil (r_next (r_seq (r_reg (r_mv ?_))))
            refine r_op (t_ge rfl) ⟨rfl, k_I _ _, trivial⟩ ?_
            refine r_nil (r_next (r_if rfl (fun h315 => ?_) (fun h315 => ?_)))
            · have hF := cnd_t h315 hF
              refine r_brk ?_
              obtain rfl := sm1 hF
              exact r_backJ Jj112 ⟨v307, hRl111, rfl, rfl⟩ [0, 1] rfl ⟨rfl, rfl, rfl, rfl, rfl, rfl, rfl, trivial⟩
            · have hF := cnd_f h315 hF
              refine r_skip (r_blkN ?_)
              exact r_round (fun a w hh => ⟨v307, v313, hF, hs_back [0, 1] rfl (by decide) (by exact ⟨rfl, rfl, rfl, rfl, rfl, rfl, rfl, rfl, trivial⟩) hh⟩)
          · have hF := cnd_f h306 hF
            refine r_brk ?_
            obtain rfl := sm1 hF
            exact r_backJ Jj112 ⟨x108, hRl111, rfl, rfl⟩ [0, 1] rfl ⟨rfl, rfl, rfl, rfl, rfl, rfl, rfl, trivial⟩
    · have hF := cnd_f h75 hF
      refine r_brk ?_
      obtain ⟨rfl, rfl⟩ := sm2 hF
      exact r_backJ Jj70 ⟨x44, x50, b45, c46, n47, b51, c52, n53, hRl69, q48, q54, rfl, rfl⟩ [0, 1] rfl ⟨rfl, rfl, rfl, rfl, trivial⟩
def F_integer_divide_j4 (K : Nat) (a0 : List Int) (a1 : List Int) : Option (GInt × GInt) :=
  (F_integer_compare K a0 a1).bind fun v5 => bif (decide (v5 < 0)) then ((F_integer_of K false a0).bind fun v8 => some ((⟨false, ([] : List Int)⟩ : GInt), v8)) else (bif ((a1.length : Int) == 1) then ((rdL a1 0).bind fun v11 => (F_integer_short K a0 v11).bind fun v13 => (F_integer_of K false v13.1).bind fun v15 => (F_integer_unsigned false (IntKind.u64.wrap v13.2)).bind fun v17 => some (v15, v17)) else ((F_integer_long K a0 a1).bind fun v19 => (F_integer_of K false v19.1).bind fun v21 => (F_integer_of K false v19.2).bind fun v23 => some (v21, v23)))
def F_integer_divide (K : Nat) (a0 : List Int) (a1 : List Int) : Option (GInt × GInt) :=
  (F_integer_two a0).bind fun v25 => bif v25.2 then ((F_integer_two a1).bind fun v28 => bif v28.2 then ((chq v25.1 v28.1).bind fun v33 => (F_integer_unsigned false (IntKind.u64.wrap v33)).bind fun v35 => (chr v25.1 v28.1).bind fun v37 => (F_integer_unsigned false (IntKind.u64.wrap v37)).bind fun v39 => some (v35, v39)) else (F_integer_divide_j4 K a0 a1 )) else (F_integer_divide_j4 K a0 a1 )
set_option maxRecDepth 100000 in
theorem ct_integer_divide {K : Nat} {a0 : List Int} {a1 : List Int} {r : GInt × GInt} (hF : F_integer_divide K a0 a1 = some r) : Ct Tryz.prog 166 [.vc (pS cI a0), .vc (pS cI a1)] (.t2 (.va (GInt.e r.1)) (.va (GInt.e r.2))) := by
  unfold F_integer_divide at hF
  refine ctO_intro Tryz.func166 rfl (by kernel_rfl) Tryz.ntmps166 rfl (fun w0 M0 => ?_)
  refine r_seq (r_reg (r_alloc rfl tyZ33 (fun b1 => ?_)))
  refine r_alloc rfl tyZ33 (fun b2 => ?_)
  refine r_nil (r_next (r_seq (r_cutS (fun H E => F_integer_divide_j4 K a0 a1 = some r ∧ H = [⟨some b2, 1, 33, 2, 1, ([pB false] ++ [pS cI ([] : List Int)])⟩, ⟨some b1, 1, 33, 2, 1, ([pB false] ++ [pS cI ([] : List Int)])⟩] ∧ E = [(0, .vc (pS cI a0)), (1, .vc (pS cI a1)), (4, .vc (pP (some b1) 0)), (5, .vc (pP (some b2) 0))]) ?_ (fun Jj4 => ?_))))
  · rintro _ _ ⟨hF, rfl, rfl⟩
    unfold F_integer_divide_j4 at hF
    refine r_seq (r_seq (r_reg (r_mv ?_)))
    refine r_mv ?_
    obtain ⟨v5, h6, hF⟩ := bnd hF
    refine r_op (t_call rfl (ct_integer_compare h6) rfl) ⟨rfl, rfl, trivial⟩ ?_
    refine r_op (t_lt rfl) ⟨rfl, k_I _ _, trivial⟩ ?_
    refine r_nil (r_next (r_if rfl (fun h7 => ?_) (fun h7 => ?_)))
    · have hF := cnd_t h7 hF
      refine r_seq (r_reg (r_op (t_bld (is := []) (xs := []) (ps := []) rfl tyB33 rfl rfl trivial rfl) trivial ?_))
      refine r_mv ?_
      obtain ⟨v8, h9, hF⟩ := bnd hF
      refine r_op (t_call rfl (ct_integer_of h9) rfl) ⟨k_B _, rfl, trivial⟩ ?_
      refine r_op0 (t_s 1 rfl rfl rfl tyA33.s) ⟨rfl, rfl, trivial⟩ ?_
      refine r_op0 (t_s 0 rfl rfl rfl tyA33.s) ⟨rfl, rfl, trivial⟩ ?_
      refine r_nil (r_next (r_ret (r_toR ?_)))
      obtain rfl := sm1 hF
      exact r_done1 (.inl rfl) Tryz.results166 (rv_cell 1 2 rfl rfl rfl rfl (.agg tyA33) (rv_cell 0 2 rfl rfl rfl rfl (.agg tyA33) .nil)) rfl rfl
    · have hF := cnd_f h7 hF
      refine r_skip (r_next (r_seq (r_seq (r_reg (r_mv ?_)))))
      refine r_op (t_ln rfl tyS22) ⟨rfl, trivial⟩ ?_
      refine r_op (t_eq rfl) ⟨rfl, k_I _ _, trivial⟩ ?_
      refine r_nil (r_next (r_if rfl (fun h10 => ?_) (fun h10 => ?_)))
      · have hF := cnd_t h10 hF
        refine r_seq (r_reg (r_mv ?_))
        refine r_mv ?_
        obtain ⟨v11, h12, hF⟩ := bnd hF
        refine r_op (t_ix rfl tyS22 h12) ⟨rfl, k_I _ _, trivial⟩ ?_
        refine r_op (t_lM 1 rfl rfl (.one tyO3)) ⟨rfl, trivial⟩ ?_
        obtain ⟨v13, h14, hF⟩ := bnd hF
        refine r_op (t_call rfl (ct_integer_short h14) rfl) ⟨rfl, rfl, trivial⟩ ?_
        refine r_mv ?_
        refine r_op (t_ext2a rfl) ⟨rfl, trivial⟩ ?_
        refine r_op (t_ext2b rfl) ⟨rfl, trivial⟩ ?_
        refine r_as ?_
        refine r_as ?_
        refine r_nil (r_next (r_seq (r_reg (r_mv ?_))))
        obtain ⟨v15, h16, hF⟩ := bnd hF
        refine r_op (t_call rfl (ct_integer_of h16) rfl) ⟨k_B _, rfl, trivial⟩ ?_
        refine r_mv ?_
        refine r_op (t_cv rfl ⟨_, Tryz.underlying3⟩ Tryz.underlying160) ⟨rfl, trivial⟩ ?_
        obtain ⟨v17, h18, hF⟩ := bnd hF
        refine r_op (t_call rfl (ct_integer_unsigned h18) rfl) ⟨k_B _, rfl, trivial⟩ ?_
        refine r_op0 (t_s 1 rfl rfl rfl tyA33.s) ⟨rfl, rfl, trivial⟩ ?_
        refine r_op0 (t_s 0 rfl rfl rfl tyA33.s) ⟨rfl, rfl, trivial⟩ ?_
        refine r_nil (r_next (r_ret (r_toR ?_)))
        obtain rfl := sm1 hF
        exact r_done1 (.inl rfl) Tryz.results166 (rv_cell 1 2 rfl rfl rfl rfl (.agg tyA33) (rv_cell 0 2 rfl rfl rfl rfl (.agg tyA33) .nil)) rfl rfl
      · have hF := cnd_f h10 hF
        refine r_skip (r_next (r_seq (r_reg (r_mv ?_))))
        refine r_mv ?_
        obtain ⟨v19, h20, hF⟩ := bnd hF
        refine r_op (t_call rfl (ct_integer_long h20) rfl) ⟨rfl, rfl, trivial⟩ ?_
        refine r_mv ?_
        refine r_op (t_ext2a rfl) ⟨rfl, trivial⟩ ?_
        refine r_op (t_ext2b rfl) ⟨rfl, trivial⟩ ?_
        refine r_as ?_
        refine r_as ?_
        refine r_nil (r_next (r_seq (r_reg (r_mv ?_))))
        obtain ⟨v21, h22, hF⟩ := bnd hF
        refine r_op (t_call rfl (ct_integer_of h22) rfl) ⟨k_B _, rfl, trivial⟩ ?_
        refine r_mv ?_
        obtain ⟨v23, h24, hF⟩ := bnd hF
        refine r_op (t_call rfl (ct_integer_of h24) rfl) ⟨k_B _, rfl, trivial⟩ ?_
        refine r_op0 (t_s 1 rfl rfl rfl tyA33.s) ⟨rfl, rfl, trivial⟩ ?_
        refine r_op0 (t_s 0 rfl rfl rfl tyA33.s) ⟨rfl, rfl, trivial⟩ ?_
        refine r_nil (r_next (r_ret (r_toR ?_)))
        obtain rfl := sm1 hF
        exact r_done1 (.inl rfl) Tryz.results166 (rv_cell 1 2 rfl rfl rfl rfl (.agg tyA33) (rv_cell 0 2 rfl rfl rfl rfl (.agg tyA33) .nil)) rfl rfl
  · skip
    refine r_seq (r_reg (r_mv ?_))
    obtain ⟨v25, h26, hF⟩ := bnd hF
    refine r_op (t_call rfl (ct_integer_two h26) rfl) ⟨rfl, trivial⟩ ?_
    refine r_mv ?_
    refine r_op (t_ext2a rfl) ⟨rfl, trivial⟩ ?_
    refine r_op (t_ext2b rfl) ⟨rfl, trivial⟩ ?_
    refine r_as ?_
    refine r_as ?_
    refine r_nil (r_next (r_seq (r_reg (r_mv ?_))))
    refine r_nil (r_next (r_if rfl (fun h27 => ?_) (fun h27 => ?_)))
    · have hF := cnd_t h27 hF
      refine r_seq (r_reg (r_mv ?_))
      obtain ⟨v28, h29, hF⟩ := bnd hF
      refine r_op (t_call rfl (ct_integer_two h29) rfl) ⟨rfl, trivial⟩ ?_
      refine r_mv ?_
      refine r_op (t_ext2a rfl) ⟨rfl, trivial⟩ ?_
      refine r_op (t_ext2b rfl) ⟨rfl, trivial⟩ ?_
      refine r_as ?_
      refine r_as ?_
      refine r_nil (r_next (r_seq (r_reg (r_mv ?_))))
      refine r_nil (r_next (r_if rfl (fun h30 => ?_) (fun h30 => ?_)))
      · have hF := cnd_t h30 hF
        refine r_seq ?_
        obtain ⟨v33, h34, hF⟩ := bnd hF
        obtain ⟨v35, h36, hF⟩ := bnd hF
        obtain ⟨v37, h38, hF⟩ := bnd hF
        obtain ⟨v39, h40, hF⟩ := bnd hF
        refine r_draw [0, 0, 3, 7, 15, 0, 0, 96, 224, 511, 1023, 2047] 10 2 [.v (.vc (pI .i64 v25.1)), .v (.vc (pI .i64 v28.1)), .v (.vc (pI .i64 v33)), .v (.vc (pI .u64 (IntKind.u64.wrap v33))), .v (.va (GInt.e v35)), .v (.vc (pI .i64 v25.1)), .v (.vc (pI .i64 v28.1)), .v (.vc (pI .i64 v37)), .v (.vc (pI .u64 (IntKind.u64.wrap v37))), .v (.va (GInt.e v39))] Tryz_mixed ⟨⟨rfl, .run (lo := 0) (n := 1) ⟨fun G31 A => t_mv (.inl rfl), trivial⟩ (fun G31 => ⟨rfl, trivial⟩)⟩, ⟨rfl, .run (lo := 0) (n := 1) ⟨fun G31 A => t_mv (.inl rfl), trivial⟩ (fun G31 => ⟨rfl, trivial⟩)⟩, ⟨rfl, .run (lo := 0) (n := 1) ⟨fun G31 A => t_quo rfl h34, trivial⟩ (fun G31 => ⟨rfl, rfl, trivial⟩)⟩, ⟨rfl, .run (lo := 0) (n := 1) ⟨fun G31 A => t_cv rfl ⟨_, Tryz.underlying3⟩ Tryz.underlying160, trivial⟩ (fun G31 => ⟨rfl, trivial⟩)⟩, ⟨rfl, .run (lo := 0) (n := 1) ⟨fun G31 A => t_call rfl (ct_integer_unsigned h36) rfl, trivial⟩ (fun G31 => ⟨k_B _, rfl, trivial⟩)⟩, ⟨rfl, .run (lo := 0) (n := 1) ⟨fun G31 A => t_mv (.inl rfl), trivial⟩ (fun G31 => ⟨rfl, trivial⟩)⟩, ⟨rfl, .run (lo := 0) (n := 1) ⟨fun G31 A => t_mv (.inl rfl), trivial⟩ (fun G31 => ⟨rfl, trivial⟩)⟩, ⟨rfl, .run (lo := 0) (n := 1) ⟨fun G31 A => t_rem rfl h38, trivial⟩ (fun G31 => ⟨rfl, rfl, trivial⟩)⟩, ⟨rfl, .run (lo := 0) (n := 1) ⟨fun G31 A => t_cv rfl ⟨_, Tryz.underlying3⟩ Tryz.underlying160, trivial⟩ (fun G31 => ⟨rfl, trivial⟩)⟩, ⟨rfl, .run (lo := 0) (n := 1) ⟨fun G31 A => t_call rfl (ct_integer_unsigned h40) rfl, trivial⟩ (fun G31 => ⟨k_B _, rfl, trivial⟩)⟩, trivial⟩ (fun bs32 G31 => ?_)
        refine r_op0 (t_s 1 rfl rfl rfl tyA33.s) ⟨rfl, rfl, trivial⟩ ?_
        refine r_op0 (t_s 0 rfl rfl rfl tyA33.s) ⟨rfl, rfl, trivial⟩ ?_
        refine r_nil (r_next (r_ret (r_toR ?_)))
        obtain rfl := sm1 hF
        exact r_done1 (.inl rfl) Tryz.results166 (rv_cell 1 2 rfl rfl rfl rfl (.agg tyA33) (rv_cell 0 2 rfl rfl rfl rfl (.agg tyA33) .nil)) rfl rfl
      · have hF := cnd_f h30 hF
        refine r_skip ?_
        exact r_backJ Jj4 ⟨hF, rfl, rfl⟩ [0, 1] rfl ⟨rfl, rfl, rfl, rfl, trivial⟩
    · have hF := cnd_f h27 hF
      refine r_skip ?_
      exact r_backJ Jj4 ⟨hF, rfl, rfl⟩ [0, 1] rfl ⟨rfl, rfl, rfl, rfl, trivial⟩
def F_integer_Gcd_j16 (K : Nat) (x14 : GInt) : Option GInt :=
  some x14
def F_integer_Gcd_j30 (K : Nat) (x28 : Int) : Option (LR GInt GInt) :=
  (F_integer_unsigned false (IntKind.u64.wrap x28)).bind fun v31 => some (.ret v31)
def F_integer_Gcd_l29 (K : Nat) : Nat → Int → Int → Option Int
  | 0, _, _ => none
  | k + 1, x26, x27 => bif (decide (0 < x27)) then ((chr x26 x27).bind fun v36 => F_integer_Gcd_l29 K k x27 v36) else (some x26)
def F_integer_Gcd_l15 (K : Nat) : Nat → GInt → GInt → Option (LR GInt GInt)
  | 0, _, _ => none
  | k + 1, x12, x13 => bif (decide (0 < (x13.d.length : Int))) then ((F_integer_two x12.d).bind fun v18 => (F_integer_two x13.d).bind fun v20 => bif v18.2 then (bif v20.2 then ((F_integer_Gcd_l29 K K v18.1 v20.1).bind fun x28 => F_integer_Gcd_j30 K x28) else ((F_integer_divide K x12.d x13.d).bind fun v38 => F_integer_Gcd_l15 K k x13 v38.2)) else ((F_integer_divide K x12.d x13.d).bind fun v44 => F_integer_Gcd_l15 K k x13 v44.2)) else (some (.go x12))
def F_integer_Gcd (K : Nat) (a0 : GInt) (a1 : GInt) : Option GInt :=
  (F_integer_of K false a0.d).bind fun v6 => (F_integer_of K false a1.d).bind fun v8 => (F_integer_Gcd_l15 K K v6 v8).bind fun o => match o with | .ret r => some r | .go x14 => F_integer_Gcd_j16 K x14
set_option maxRecDepth 100000 in
theorem ct_integer_Gcd {K : Nat} {a0 : GInt} {a1 : GInt} {r : GInt} (hF : F_integer_Gcd K a0 a1 = some r) : Ct Tryz.prog 137 [.va (GInt.e a0), .va (GInt.e a1)] (.va (GInt.e r)) := by
  unfold F_integer_Gcd at hF
  refine ctO_intro Tryz.func137 rfl (by kernel_rfl) Tryz.ntmps137 rfl (fun w0 M0 => ?_)
  refine r_seq (r_reg (r_box rfl rfl trivial (fun b1 => ?_)))
  refine r_box rfl rfl trivial (fun b2 => ?_)
  refine r_alloc rfl tyZ33 (fun b3 => ?_)
  refine r_nil (r_next (r_seq ?_))
  obtain ⟨v6, h7, hF⟩ := bnd hF
  obtain ⟨v8, h9, hF⟩ := bnd hF
  refine r_draw [0, 1, 3, 0, 8, 31, 0, 0, 255, 511] 8 2 [.v (.vc (pP (some b1) 1)), .v (.vc (pS cI a0.d)), .v (.va (GInt.e v6)), .v (.vc (pP (some b2) 1)), .v (.vc (pS cI a1.d)), .v (.va (GInt.e v8)), .a 33 ([pB false] ++ [pS cI ([] : List Int)]), .a 33 ([pB false] ++ [pS cI ([] : List Int)])] Tryz_mixed ⟨⟨rfl, .run (lo := 0) (n := 1) ⟨fun G4 A => t_fa (off := 0) (k := 1) rfl tyF33_1, trivial⟩ (fun G4 => ⟨rfl, trivial⟩)⟩, ⟨rfl, .run (lo := 0) (n := 1) ⟨fun G4 A => t_l 2 1 rfl rfl rfl rfl (.one tyO22), trivial⟩ (fun G4 => ⟨rfl, trivial⟩)⟩, ⟨rfl, .run (lo := 0) (n := 1) ⟨fun G4 A => t_call rfl (ct_integer_of h7) rfl, trivial⟩ (fun G4 => ⟨k_B _, rfl, trivial⟩)⟩, ⟨rfl, .run (lo := 0) (n := 1) ⟨fun G4 A => t_fa (off := 0) (k := 1) rfl tyF33_1, trivial⟩ (fun G4 => ⟨rfl, trivial⟩)⟩, ⟨rfl, .run (lo := 0) (n := 1) ⟨fun G4 A => t_l 1 1 rfl rfl rfl rfl (.one tyO22), trivial⟩ (fun G4 => ⟨rfl, trivial⟩)⟩, ⟨rfl, .run (lo := 0) (n := 1) ⟨fun G4 A => t_call rfl (ct_integer_of h9) rfl, trivial⟩ (fun G4 => ⟨k_B _, rfl, trivial⟩)⟩, ⟨rfl, .alc tyZ33⟩, ⟨rfl, .alc tyZ33⟩, trivial⟩ (fun bs5 G4 => ?_)
  refine r_op0 (t_s 0 rfl rfl rfl tyA33.s) ⟨rfl, rfl, trivial⟩ ?_
  refine r_op0 (t_s 1 rfl rfl rfl tyA33.s) ⟨rfl, rfl, trivial⟩ ?_
  refine r_nil (r_next (r_seq (r_blk (r_cutN (fun H E => ∃ (x14 : GInt), F_integer_Gcd_j16 K x14 = some r ∧ H = [⟨some (bs5 6), 1, 33, 2, 1, (GInt.e x14)⟩, ⟨some b3, 1, 33, 2, 1, ([pB false] ++ [pS cI ([] : List Int)])⟩] ∧ E = [(4, .vc (pP (some b3) 0)), (5, .vc (pP (some (bs5 6)) 0))]) ?_ (fun Jj16 => ?_)))))
  · rintro _ _ ⟨x14, hF, rfl, rfl⟩
    unfold F_integer_Gcd_j16 at hF
    refine r_next (r_seq (r_reg (r_op (t_l 0 2 rfl rfl rfl rfl (.agg tyA33)) ⟨rfl, trivial⟩ ?_)))
    refine r_op0 (t_s 1 rfl rfl rfl tyA33.s) ⟨rfl, rfl, trivial⟩ ?_
    refine r_nil (r_next (r_ret (r_toR ?_)))
    obtain rfl := sm1 hF
    exact r_done1 (.inl rfl) Tryz.results137 (rv_cell 1 2 rfl rfl rfl rfl (.agg tyA33) .nil) rfl rfl
  · skip
    obtain ⟨ol15, hL, hRl15⟩ := bnd hF
    refine r_lp (fun k a w => ∃ (x12 : GInt), ∃ (x13 : GInt), F_integer_Gcd_l15 K k x12 x13 = some ol15 ∧ hs _ [⟨some (bs5 6), 1, 33, 2, 1, (GInt.e x12)⟩, ⟨some (bs5 7), 1, 33, 2, 1, (GInt.e x13)⟩, ⟨some b3, 1, 33, 2, 1, ([pB false] ++ [pS cI ([] : List Int)])⟩] [(4, .vc (pP (some b3) 0)), (5, .vc (pP (some (bs5 6)) 0)), (6, .vc (pP (some (bs5 7)) 0))] a w) K (fun a w ⟨_, _, hF, _⟩ => by cases hF) (fun k a w ⟨x12, x13, hF, hh⟩ => r_at ?_ hh) (fun a w hh => ⟨v6, v8, hL, hs_back [0, 1, 2] rfl (by decide) (by exact ⟨rfl, rfl, rfl, trivial⟩) hh⟩)
    rw [F_integer_Gcd_l15.eq_2] at hF
    refine r_seq (r_seq (r_reg (r_op (t_fa (off := 0) (k := 1) rfl tyF33_1) ⟨rfl, trivial⟩ ?_)))
    refine r_op (t_l 1 1 rfl rfl rfl rfl (.one tyO22)) ⟨rfl, trivial⟩ ?_
    refine r_op (t_ln rfl tyS22) ⟨rfl, trivial⟩ ?_
    refine r_op (t_gt rfl) ⟨rfl, k_I _ _, trivial⟩ ?_
    refine r_nil (r_next (r_if rfl (fun h17 => ?_) (fun h17 => ?_)))
    · have hF := cnd_t h17 hF
      refine r_skip (r_next (r_blk (r_seq (r_reg (r_op (t_fa (off := 0) (k := 1) rfl tyF33_1) ⟨rfl, trivial⟩ ?_)))))
      refine r_op (t_l 0 1 rfl rfl rfl rfl (.one tyO22)) ⟨rfl, trivial⟩ ?_
      obtain ⟨v18, h19, hF⟩ := bnd hF
      refine r_op (t_call rfl (ct_integer_two h19) rfl) ⟨rfl, trivial⟩ ?_
      refine r_mv ?_
      refine r_op (t_ext2a rfl) ⟨rfl, trivial⟩ ?_
      refine r_op (t_ext2b rfl) ⟨rfl, trivial⟩ ?_
      refine r_as ?_
      refine r_as ?_
      refine r_nil (r_next (r_seq (r_reg (r_op (t_fa (off := 0) (k := 1) rfl tyF33_1) ⟨rfl, trivial⟩ ?_))))
      refine r_op (t_l 1 1 rfl rfl rfl rfl (.one tyO22)) ⟨rfl, trivial⟩ ?_
      obtain ⟨v20, h21, hF⟩ := bnd hF
      refine r_op (t_call rfl (ct_integer_two h21) rfl) ⟨rfl, trivial⟩ ?_
      refine r_mv ?_
      refine r_op (t_ext2a rfl) ⟨rfl, trivial⟩ ?_
      refine r_op (t_ext2b rfl) ⟨rfl, trivial⟩ ?_
      refine r_as ?_
      refine r_as ?_
      refine r_nil (r_next (r_seq (r_seq (r_reg (r_mv ?_)))))
      refine r_mv ?_
      refine r_bool (fun h22 => ?_) (fun h22 => ?_)
      · have hF := cnd_t h22 hF
        refine r_opg (t_mv (.inl rfl)) ⟨rfl, trivial⟩ ?_
        refine r_op (t_pickT rfl) ⟨rfl, rfl, trivial⟩ ?_
        refine r_nil (r_next (r_if rfl (fun h23 => ?_) (fun h23 => ?_)))
        · have hF := cnd_t h23 hF
          refine r_seq (r_blk (r_cutN (fun H E => ∃ (x28 : Int), F_integer_Gcd_j30 K x28 = some ol15 ∧ H = [⟨some b3, 1, 33, 2, 1, ([pB false] ++ [pS cI ([] : List Int)])⟩] ∧ E = [(4, .vc (pP (some b3) 0)), (7, .vc (pI .i64 x28))]) ?_ (fun Jj30 => ?_)))
          · rintro _ _ ⟨x28, hF, rfl, rfl⟩
            unfold F_integer_Gcd_j30 at hF
            refine r_next (r_seq (r_reg (r_mv ?_)))
            refine r_op (t_cv rfl ⟨_, Tryz.underlying3⟩ Tryz.underlying160) ⟨rfl, trivial⟩ ?_
            obtain ⟨v31, h32, hF⟩ := bnd hF
            refine r_op (t_call rfl (ct_integer_unsigned h32) rfl) ⟨k_B _, rfl, trivial⟩ ?_
            refine r_op0 (t_s 0 rfl rfl rfl tyA33.s) ⟨rfl, rfl, trivial⟩ ?_
            refine r_nil (r_next (r_ret (r_toR ?_)))
            obtain rfl := sm1 hF
            obtain rfl := sm1 hRl15
            exact r_done1 (.inl rfl) Tryz.results137 (rv_cell 0 2 rfl rfl rfl rfl (.agg tyA33) .nil) rfl rfl
          · skip
            obtain ⟨x28', hL, hRl29⟩ := bnd hF
            refine r_lp (fun k a w => ∃ (x26 : Int), ∃ (x27 : Int), F_integer_Gcd_l29 K k x26 x27 = some x28' ∧ hs _ [⟨some b3, 1, 33, 2, 1, ([pB false] ++ [pS cI ([] : List Int)])⟩] [(4, .vc (pP (some b3) 0)), (7, .vc (pI .i64 x26)), (9, .vc (pI .i64 x27))] a w) K (fun a w ⟨_, _, hF, _⟩ => by cases hF) (fun k a w ⟨x26, x27, hF, hh⟩ => r_at ?_ hh) (fun a w hh => ⟨v18.1, v20.1, hL, hs_back [2] rfl (by decide) (by exact ⟨rfl, rfl, rfl, trivial⟩) hh⟩)
            rw [F_integer_Gcd_l29.eq_2] at hF
            refine r_seq (r_seq (r_reg (r_mv ?_)))
            refine r_op (t_gt rfl) ⟨rfl, k_I _ _, trivial⟩ ?_
            refine r_nil (r_next (r_if rfl (fun h33 => ?_) (fun h33 => ?_)))
            · have hF := cnd_t h33 hF
              refine r_skip (r_next (r_blk ?_))
              obtain ⟨v36, h37, hF⟩ := bnd hF
              refine r_draw [0, 0, 0, 6, 3, 31] 6 0 [.v (.vc (pI .i64 x27)), .v (.vc (pI .i64 x26)), .v (.vc (pI .i64 x27)), .v (.vc (pI .i64 v36)), .v (.vc (pI .i64 x27)), .v (.vc (pI .i64 v36))] Tryz_mixed ⟨⟨rfl, .run (lo := 0) (n := 1) ⟨fun G34 A => t_mv (.inl rfl), trivial⟩ (fun G34 => ⟨rfl, trivial⟩)⟩, ⟨rfl, .run (lo := 0) (n := 1) ⟨fun G34 A => t_mv (.inl rfl), trivial⟩ (fun G34 => ⟨rfl, trivial⟩)⟩, ⟨rfl, .run (lo := 0) (n := 1) ⟨fun G34 A => t_mv (.inl rfl), trivial⟩ (fun G34 => ⟨rfl, trivial⟩)⟩, ⟨rfl, .run (lo := 0) (n := 1) ⟨fun G34 A => t_rem rfl h37, trivial⟩ (fun G34 => ⟨rfl, rfl, trivial⟩)⟩, ⟨rfl, .run (lo := 0) (n := 1) ⟨fun G34 A => t_mv (.inr rfl), trivial⟩ (fun G34 => ⟨rfl, trivial⟩)⟩, ⟨rfl, .run (lo := 0) (n := 1) ⟨fun G34 A => t_mv (.inr rfl), trivial⟩ (fun G34 => ⟨rfl, trivial⟩)⟩, trivial⟩ (fun bs35 G34 => ?_)
              refine r_nil (r_blkN ?_)
              exact r_round (fun a w hh => ⟨x27, v36, hF, hs_back [0] rfl (by decide) (by exact ⟨rfl, rfl, rfl, trivial⟩) hh⟩)
            · have hF := cnd_f h33 hF
              refine r_brk ?_
              obtain rfl := sm1 hF
              exact r_backJ Jj30 ⟨x26, hRl29, rfl, rfl⟩ [0] rfl ⟨rfl, rfl, trivial⟩
        · have hF := cnd_f h23 hF
          refine r_skip (r_next (r_seq (r_reg (r_op (t_fa (off := 0) (k := 1) rfl tyF33_1) ⟨rfl, trivial⟩ ?_))))
          refine r_op (t_l 0 1 rfl rfl rfl rfl (.one tyO22)) ⟨rfl, trivial⟩ ?_
          refine r_op (t_fa (off := 0) (k := 1) rfl tyF33_1) ⟨rfl, trivial⟩ ?_
          refine r_op (t_l 1 1 rfl rfl rfl rfl (.one tyO22)) ⟨rfl, trivial⟩ ?_
          obtain ⟨v38, h39, hF⟩ := bnd hF
          refine r_op (t_call rfl (ct_integer_divide h39) rfl) ⟨rfl, rfl, trivial⟩ ?_
          refine r_mv ?_
          refine r_op (t_ext2a rfl) ⟨rfl, trivial⟩ ?_
          refine r_op (t_ext2b rfl) ⟨rfl, trivial⟩ ?_
          refine r_alloc rfl tyZ33 (fun b40 => ?_)
          refine r_alloc rfl tyZ33 (fun b41 => ?_)
          refine r_op0 (t_s 1 rfl rfl rfl tyA33.s) ⟨rfl, rfl, trivial⟩ ?_
          refine r_op0 (t_s 0 rfl rfl rfl tyA33.s) ⟨rfl, rfl, trivial⟩ ?_
          refine r_nil (r_next (r_drawH (HsL [fun G42 => [⟨some b41, 1, 33, 2, 1, (GInt.e v38.2)⟩, ⟨some b40, 1, 33, 2, 1, (GInt.e v38.1)⟩, ⟨some (bs5 6), 1, 33, 2, 1, (GInt.e x12)⟩, ⟨some (bs5 7), 1, 33, 2, 1, (GInt.e x13)⟩, ⟨some b3, 1, 33, 2, 1, ([pB false] ++ [pS cI ([] : List Int)])⟩], fun G42 => [⟨some b41, 1, 33, 2, 1, (GInt.e v38.2)⟩, ⟨some b40, 1, 33, 2, 1, (GInt.e v38.1)⟩, ⟨some (bs5 6), 1, 33, 2, 1, (GInt.e x13)⟩, ⟨some (bs5 7), 1, 33, 2, 1, (GInt.e x13)⟩, ⟨some b3, 1, 33, 2, 1, ([pB false] ++ [pS cI ([] : List Int)])⟩]]) [2] [0, 0, 1, 7] 3 1 [.v (.va (GInt.e x13)), .v (.va (GInt.e v38.2)), .g (fun _ _ => .any)] Tryz_mixed ⟨⟨rfl, .run (lo := 0) (n := 1) ⟨fun G42 A => t_l 3 2 rfl rfl rfl rfl (.agg tyA33), trivial⟩ (fun G42 => ⟨rfl, trivial⟩)⟩, ⟨rfl, .run (lo := 0) (n := 2) ⟨fun G42 A => t_l 0 2 rfl rfl rfl rfl (.agg tyA33), fun G42 A => t_l 0 2 rfl rfl rfl rfl (.agg tyA33), trivial⟩ (fun G42 => ⟨rfl, trivial⟩)⟩, ⟨rfl, .hvy 0 (fun G42 A => hv_tr (t_s 2 rfl rfl rfl tyA33.s)) (fun G42 => ⟨rfl, rfl, trivial⟩)⟩, trivial⟩ (fun bs43 G42 => ?_)))
          refine r_op0 (t_s 3 rfl rfl rfl tyA33.s) ⟨rfl, rfl, trivial⟩ ?_
          refine r_nil (r_blkN ?_)
          exact r_round (fun a w hh => ⟨x13, v38.2, hF, hs_back [2, 3, 4] rfl (by decide) (by exact ⟨rfl, rfl, rfl, trivial⟩) hh⟩)
      · have hF := cnd_f h22 hF
        refine r_opn ?_
        refine r_op (t_pickF rfl) ⟨rfl, k_B _, trivial⟩ ?_
        refine r_nil (r_next (r_ifF rfl ?_))
        refine r_skip (r_next (r_seq (r_reg (r_op (t_fa (off := 0) (k := 1) rfl tyF33_1) ⟨rfl, trivial⟩ ?_))))
        refine r_op (t_l 0 1 rfl rfl rfl rfl (.one tyO22)) ⟨rfl, trivial⟩ ?_
        refine r_op (t_fa (off := 0) (k := 1) rfl tyF33_1) ⟨rfl, trivial⟩ ?_
        refine r_op (t_l 1 1 rfl rfl rfl rfl (.one tyO22)) ⟨rfl, trivial⟩ ?_
        obtain ⟨v44, h45, hF⟩ := bnd hF
        refine r_op (t_call rfl (ct_integer_divide h45) rfl) ⟨rfl, rfl, trivial⟩ ?_
        refine r_mv ?_
        refine r_op (t_ext2a rfl) ⟨rfl, trivial⟩ ?_
        refine r_op (t_ext2b rfl) ⟨rfl, trivial⟩ ?_
        refine r_alloc rfl tyZ33 (fun b46 => ?_)
        refine r_alloc rfl tyZ33 (fun b47 => ?_)
        refine r_op0 (t_s 1 rfl rfl rfl tyA33.s) ⟨rfl, rfl, trivial⟩ ?_
        refine r_op0 (t_s 0 rfl rfl rfl tyA33.s) ⟨rfl, rfl, trivial⟩ ?_
        refine r_nil (r_next (r_drawH (HsL [fun G48 => [⟨some b47, 1, 33, 2, 1, (GInt.e v44.2)⟩, ⟨some b46, 1, 33, 2, 1, (GInt.e v44.1)⟩, ⟨some (bs5 6), 1, 33, 2, 1, (GInt.e x12)⟩, ⟨some (bs5 7), 1, 33, 2, 1, (GInt.e x13)⟩, ⟨some b3, 1, 33, 2, 1, ([pB false] ++ [pS cI ([] : List Int)])⟩], fun G48 => [⟨some b47, 1, 33, 2, 1, (GInt.e v44.2)⟩, ⟨some b46, 1, 33, 2, 1, (GInt.e v44.1)⟩, ⟨some (bs5 6), 1, 33, 2, 1, (GInt.e x13)⟩, ⟨some (bs5 7), 1, 33, 2, 1, (GInt.e x13)⟩, ⟨some b3, 1, 33, 2, 1, ([pB false] ++ [pS cI ([] : List Int)])⟩]]) [2] [0, 0, 1, 7] 3 1 [.v (.va (GInt.e x13)), .v (.va (GInt.e v44.2)), .g (fun _ _ => .any)] Tryz_mixed ⟨⟨rfl, .run (lo := 0) (n := 1) ⟨fun G48 A => t_l 3 2 rfl rfl rfl rfl (.agg tyA33), trivial⟩ (fun G48 => ⟨rfl, trivial⟩)⟩, ⟨rfl, .run (lo := 0) (n := 2) ⟨fun G48 A => t_l 0 2 rfl rfl rfl rfl (.agg tyA33), fun G48 A => t_l 0 2 rfl rfl rfl rfl (.agg tyA33), trivial⟩ (fun G48 => ⟨rfl, trivial⟩)⟩, ⟨rfl, .hvy 0 (fun G48 A => hv_tr (t_s 2 rfl rfl rfl tyA33.s)) (fun G48 => ⟨rfl, rfl, trivial⟩)⟩, trivial⟩ (fun bs49 G48 => ?_)))
        refine r_op0 (t_s 3 rfl rfl rfl tyA33.s) ⟨rfl, rfl, trivial⟩ ?_
        refine r_nil (r_blkN ?_)
        exact r_round (fun a w hh => ⟨x13, v44.2, hF, hs_back [2, 3, 4] rfl (by decide) (by exact ⟨rfl, rfl, rfl, trivial⟩) hh⟩)
    · have hF := cnd_f h17 hF
      refine r_brk ?_
      obtain rfl := sm1 hF
      exact r_backJ Jj16 ⟨x12, hRl15, rfl, rfl⟩ [0, 2] rfl ⟨rfl, rfl, trivial⟩
def F_integer_Div_j13 (K : Nat) (a0 : GInt) (a1 : GInt) (x11 : GInt) (x12 : GInt) : Option (GInt × GInt) :=
  bif (a0.neg != a1.neg) then (some ((⟨(decide (0 < (x12.d.length : Int))), x12.d⟩ : GInt), x11)) else (some ((⟨false, x12.d⟩ : GInt), x11))
def F_integer_Div (K : Nat) (a0 : GInt) (a1 : GInt) : Option (GInt × GInt) :=
  bif ((a1.d.length : Int) == 0) then (some ((⟨false, ([] : List Int)⟩ : GInt), (⟨false, ([] : List Int)⟩ : GInt))) else ((F_integer_divide K a0.d a1.d).bind fun v6 => bif a0.neg then (bif (decide (0 < (v6.2.d.length : Int))) then ((F_integer_plus K v6.1.d [1]).bind fun v21 => (F_integer_of K false v21).bind fun v23 => (F_integer_minus K a1.d v6.2.d).bind fun v25 => (F_integer_of K false v25).bind fun v27 => F_integer_Div_j13 K a0 a1 v27 v23) else (F_integer_Div_j13 K a0 a1 v6.2 v6.1)) else (F_integer_Div_j13 K a0 a1 v6.2 v6.1))
set_option maxRecDepth 100000 in
theorem ct_integer_Div {K : Nat} {a0 : GInt} {a1 : GInt} {r : GInt × GInt} (hF : F_integer_Div K a0 a1 = some r) : Ct Tryz.prog 139 [.va (GInt.e a0), .va (GInt.e a1)] (.t2 (.va (GInt.e r.1)) (.va (GInt.e r.2))) := by
  unfold F_integer_Div at hF
  refine ctO_intro Tryz.func139 rfl (by kernel_rfl) Tryz.ntmps139 rfl (fun w0 M0 => ?_)
  refine r_seq (r_reg (r_box rfl rfl trivial (fun b1 => ?_)))
  refine r_box rfl rfl trivial (fun b2 => ?_)
  refine r_alloc rfl tyZ33 (fun b3 => ?_)
  refine r_alloc rfl tyZ33 (fun b4 => ?_)
  refine r_nil (r_next (r_seq (r_seq (r_reg (r_op (t_fa (off := 0) (k := 1) rfl tyF33_1) ⟨rfl, trivial⟩ ?_)))))
  refine r_op (t_l 2 1 rfl rfl rfl rfl (.one tyO22)) ⟨rfl, trivial⟩ ?_
  refine r_op (t_ln rfl tyS22) ⟨rfl, trivial⟩ ?_
  refine r_op (t_eq rfl) ⟨rfl, k_I _ _, trivial⟩ ?_
  refine r_nil (r_next (r_if rfl (fun h5 => ?_) (fun h5 => ?_)))
  · have hF := cnd_t h5 hF
    refine r_seq (r_reg (r_op (t_bld (is := []) (xs := []) (ps := []) rfl tyB33 rfl rfl trivial rfl) trivial ?_))
    refine r_op (t_bld (is := []) (xs := []) (ps := []) rfl tyB33 rfl rfl trivial rfl) trivial ?_
    refine r_op0 (t_s 1 rfl rfl rfl tyA33.s) ⟨rfl, rfl, trivial⟩ ?_
    refine r_op0 (t_s 0 rfl rfl rfl tyA33.s) ⟨rfl, rfl, trivial⟩ ?_
    refine r_nil (r_next (r_ret (r_toR ?_)))
    obtain rfl := sm1 hF
    exact r_done1 (.inl rfl) Tryz.results139 (rv_cell 1 2 rfl rfl rfl rfl (.agg tyA33) (rv_cell 0 2 rfl rfl rfl rfl (.agg tyA33) .nil)) rfl rfl
  · have hF := cnd_f h5 hF
    refine r_skip (r_next (r_seq (r_reg (r_op (t_fa (off := 0) (k := 1) rfl tyF33_1) ⟨rfl, trivial⟩ ?_))))
    refine r_op (t_l 3 1 rfl rfl rfl rfl (.one tyO22)) ⟨rfl, trivial⟩ ?_
    refine r_op (t_fa (off := 0) (k := 1) rfl tyF33_1) ⟨rfl, trivial⟩ ?_
    refine r_op (t_l 2 1 rfl rfl rfl rfl (.one tyO22)) ⟨rfl, trivial⟩ ?_
    obtain ⟨v6, h7, hF⟩ := bnd hF
    refine r_op (t_call rfl (ct_integer_divide h7) rfl) ⟨rfl, rfl, trivial⟩ ?_
    refine r_mv ?_
    refine r_op (t_ext2a rfl) ⟨rfl, trivial⟩ ?_
    refine r_op (t_ext2b rfl) ⟨rfl, trivial⟩ ?_
    refine r_alloc rfl tyZ33 (fun b8 => ?_)
    refine r_alloc rfl tyZ33 (fun b9 => ?_)
    refine r_op0 (t_s 1 rfl rfl rfl tyA33.s) ⟨rfl, rfl, trivial⟩ ?_
    refine r_op0 (t_s 0 rfl rfl rfl tyA33.s) ⟨rfl, rfl, trivial⟩ ?_
    refine r_nil (r_next (r_seq (r_cutS (fun H E => ∃ (x11 : GInt), ∃ (x12 : GInt), F_integer_Div_j13 K a0 a1 x11 x12 = some r ∧ H = [⟨some b9, 1, 33, 2, 1, (GInt.e x11)⟩, ⟨some b8, 1, 33, 2, 1, (GInt.e x12)⟩, ⟨some b4, 1, 33, 2, 1, ([pB false] ++ [pS cI ([] : List Int)])⟩, ⟨some b3, 1, 33, 2, 1, ([pB false] ++ [pS cI ([] : List Int)])⟩, ⟨some b2, 1, 33, 2, 1, (GInt.e a1)⟩, ⟨some b1, 1, 33, 2, 1, (GInt.e a0)⟩] ∧ E = [(2, .vc (pP (some b1) 0)), (3, .vc (pP (some b2) 0)), (4, .vc (pP (some b3) 0)), (5, .vc (pP (some b4) 0)), (6, .vc (pP (some b8) 0)), (7, .vc (pP (some b9) 0))]) ?_ (fun Jj13 => ?_))))
    · rintro _ _ ⟨x11, x12, hF, rfl, rfl⟩
      unfold F_integer_Div_j13 at hF
      refine r_seq (r_reg (r_op (t_fa (off := 0) (k := 0) rfl tyF33_0) ⟨rfl, trivial⟩ ?_))
      refine r_op (t_l 5 1 rfl rfl rfl rfl (.one tyO4)) ⟨rfl, trivial⟩ ?_
      refine r_op (t_fa (off := 0) (k := 0) rfl tyF33_0) ⟨rfl, trivial⟩ ?_
      refine r_op (t_l 4 1 rfl rfl rfl rfl (.one tyO4)) ⟨rfl, trivial⟩ ?_
      refine r_op (t_neB rfl Tryz.underlying4) ⟨rfl, rfl, trivial⟩ ?_
      refine r_mv ?_
      refine r_bool (fun h14 => ?_) (fun h14 => ?_)
      · have hF := cnd_t h14 hF
        refine r_opg (t_fa (off := 0) (k := 1) rfl tyF33_1) ⟨rfl, trivial⟩ ?_
        refine r_opg (t_l 1 1 rfl rfl rfl rfl (.one tyO22)) ⟨rfl, trivial⟩ ?_
        refine r_opg (t_ln rfl tyS22) ⟨rfl, trivial⟩ ?_
        refine r_opg (t_gt rfl) ⟨rfl, k_I _ _, trivial⟩ ?_
        refine r_op (t_pickT rfl) ⟨rfl, rfl, trivial⟩ ?_
        refine r_op (t_fa (off := 0) (k := 0) rfl tyF33_0) ⟨rfl, trivial⟩ ?_
        refine r_op0 (t_s 1 rfl rfl rfl tyO4.s) ⟨rfl, rfl, trivial⟩ ?_
        refine r_nil (r_next (r_seq (r_drawH (HsL [fun G15 => [⟨some b9, 1, 33, 2, 1, (GInt.e x11)⟩, ⟨some b8, 1, 33, 2, 1, ([pB (decide (0 < (x12.d.length : Int)))] ++ [pS cI x12.d])⟩, ⟨some b4, 1, 33, 2, 1, ([pB false] ++ [pS cI ([] : List Int)])⟩, ⟨some b3, 1, 33, 2, 1, ([pB false] ++ [pS cI ([] : List Int)])⟩, ⟨some b2, 1, 33, 2, 1, (GInt.e a1)⟩, ⟨some b1, 1, 33, 2, 1, (GInt.e a0)⟩], fun G15 => [⟨some b9, 1, 33, 2, 1, (GInt.e x11)⟩, ⟨some b8, 1, 33, 2, 1, ([pB (decide (0 < (x12.d.length : Int)))] ++ [pS cI x12.d])⟩, ⟨some b4, 1, 33, 2, 1, ([pB false] ++ [pS cI ([] : List Int)])⟩, ⟨some b3, 1, 33, 2, 1, ([pB (decide (0 < (x12.d.length : Int)))] ++ [pS cI x12.d])⟩, ⟨some b2, 1, 33, 2, 1, (GInt.e a1)⟩, ⟨some b1, 1, 33, 2, 1, (GInt.e a0)⟩]]) [2] [0, 0, 1, 7] 3 1 [.v (.va ([pB (decide (0 < (x12.d.length : Int)))] ++ [pS cI x12.d])), .v (.va (GInt.e x11)), .g (fun _ _ => .any)] Tryz_mixed ⟨⟨rfl, .run (lo := 0) (n := 1) ⟨fun G15 A => t_l 1 2 rfl rfl rfl rfl (.agg tyA33), trivial⟩ (fun G15 => ⟨rfl, trivial⟩)⟩, ⟨rfl, .run (lo := 0) (n := 2) ⟨fun G15 A => t_l 0 2 rfl rfl rfl rfl (.agg tyA33), fun G15 A => t_l 0 2 rfl rfl rfl rfl (.agg tyA33), trivial⟩ (fun G15 => ⟨rfl, trivial⟩)⟩, ⟨rfl, .hvy 0 (fun G15 A => hv_tr (t_s 3 rfl rfl rfl tyA33.s)) (fun G15 => ⟨rfl, rfl, trivial⟩)⟩, trivial⟩ (fun bs16 G15 => ?_))))
        refine r_op0 (t_s 2 rfl rfl rfl tyA33.s) ⟨rfl, rfl, trivial⟩ ?_
        refine r_nil (r_next (r_ret (r_toR ?_)))
        obtain rfl := sm1 hF
        exact r_done1 (.inl rfl) Tryz.results139 (rv_cell 3 2 rfl rfl rfl rfl (.agg tyA33) (rv_cell 2 2 rfl rfl rfl rfl (.agg tyA33) .nil)) rfl rfl
      · have hF := cnd_f h14 hF
        refine r_opn ?_
        refine r_opn ?_
        refine r_opn ?_
        refine r_opn ?_
        refine r_op (t_pickF rfl) ⟨rfl, k_B _, trivial⟩ ?_
        refine r_op (t_fa (off := 0) (k := 0) rfl tyF33_0) ⟨rfl, trivial⟩ ?_
        refine r_op0 (t_s 1 rfl rfl rfl tyO4.s) ⟨rfl, rfl, trivial⟩ ?_
        refine r_nil (r_next (r_seq (r_drawH (HsL [fun G17 => [⟨some b9, 1, 33, 2, 1, (GInt.e x11)⟩, ⟨some b8, 1, 33, 2, 1, ([pB false] ++ [pS cI x12.d])⟩, ⟨some b4, 1, 33, 2, 1, ([pB false] ++ [pS cI ([] : List Int)])⟩, ⟨some b3, 1, 33, 2, 1, ([pB false] ++ [pS cI ([] : List Int)])⟩, ⟨some b2, 1, 33, 2, 1, (GInt.e a1)⟩, ⟨some b1, 1, 33, 2, 1, (GInt.e a0)⟩], fun G17 => [⟨some b9, 1, 33, 2, 1, (GInt.e x11)⟩, ⟨some b8, 1, 33, 2, 1, ([pB false] ++ [pS cI x12.d])⟩, ⟨some b4, 1, 33, 2, 1, ([pB false] ++ [pS cI ([] : List Int)])⟩, ⟨some b3, 1, 33, 2, 1, ([pB false] ++ [pS cI x12.d])⟩, ⟨some b2, 1, 33, 2, 1, (GInt.e a1)⟩, ⟨some b1, 1, 33, 2, 1, (GInt.e a0)⟩]]) [2] [0, 0, 1, 7] 3 1 [.v (.va ([pB false] ++ [pS cI x12.d])), .v (.va (GInt.e x11)), .g (fun _ _ => .any)] Tryz_mixed ⟨⟨rfl, .run (lo := 0) (n := 1) ⟨fun G17 A => t_l 1 2 rfl rfl rfl rfl (.agg tyA33), trivial⟩ (fun G17 => ⟨rfl, trivial⟩)⟩, ⟨rfl, .run (lo := 0) (n := 2) ⟨fun G17 A => t_l 0 2 rfl rfl rfl rfl (.agg tyA33), fun G17 A => t_l 0 2 rfl rfl rfl rfl (.agg tyA33), trivial⟩ (fun G17 => ⟨rfl, trivial⟩)⟩, ⟨rfl, .hvy 0 (fun G17 A => hv_tr (t_s 3 rfl rfl rfl tyA33.s)) (fun G17 => ⟨rfl, rfl, trivial⟩)⟩, trivial⟩ (fun bs18 G17 => ?_))))
        refine r_op0 (t_s 2 rfl rfl rfl tyA33.s) ⟨rfl, rfl, trivial⟩ ?_
        refine r_nil (r_next (r_ret (r_toR ?_)))
        obtain rfl := sm1 hF
        exact r_done1 (.inl rfl) Tryz.results139 (rv_cell 3 2 rfl rfl rfl rfl (.agg tyA33) (rv_cell 2 2 rfl rfl rfl rfl (.agg tyA33) .nil)) rfl rfl
    · skip
      refine r_seq (r_reg (r_op (t_fa (off := 0) (k := 0) rfl tyF33_0) ⟨rfl, trivial⟩ ?_))
      refine r_op (t_l 5 1 rfl rfl rfl rfl (.one tyO4)) ⟨rfl, trivial⟩ ?_
      refine r_mv ?_
      refine r_bool (fun h19 => ?_) (fun h19 => ?_)
      · have hF := cnd_t h19 hF
        refine r_opg (t_fa (off := 0) (k := 1) rfl tyF33_1) ⟨rfl, trivial⟩ ?_
        refine r_opg (t_l 0 1 rfl rfl rfl rfl (.one tyO22)) ⟨rfl, trivial⟩ ?_
        refine r_opg (t_ln rfl tyS22) ⟨rfl, trivial⟩ ?_
        refine r_opg (t_gt rfl) ⟨rfl, k_I _ _, trivial⟩ ?_
        refine r_op (t_pickT rfl) ⟨rfl, rfl, trivial⟩ ?_
        refine r_nil (r_next (r_if rfl (fun h20 => ?_) (fun h20 => ?_)))
        · have hF := cnd_t h20 hF
          refine r_seq (r_reg (r_op (t_fa (off := 0) (k := 1) rfl tyF33_1) ⟨rfl, trivial⟩ ?_))
          refine r_op (t_l 1 1 rfl rfl rfl rfl (.one tyO22)) ⟨rfl, trivial⟩ ?_
          refine r_op (t_bs (C := cI) (xs := [.const (.int .i64 (1))]) (ps := [.vc (pI .i64 1)]) (zs := [1]) rfl tyS22 rfl ⟨⟨trivial, rfl⟩, trivial⟩ rfl) ⟨k_I _ _, trivial⟩ ?_
          obtain ⟨v21, h22, hF⟩ := bnd hF
          refine r_op (t_call rfl (ct_integer_plus h22) rfl) ⟨rfl, rfl, trivial⟩ ?_
          obtain ⟨v23, h24, hF⟩ := bnd hF
          refine r_op (t_call rfl (ct_integer_of h24) rfl) ⟨k_B _, rfl, trivial⟩ ?_
          refine r_op0 (t_s 1 rfl rfl rfl tyA33.s) ⟨rfl, rfl, trivial⟩ ?_
          refine r_nil (r_next (r_reg (r_op (t_fa (off := 0) (k := 1) rfl tyF33_1) ⟨rfl, trivial⟩ ?_)))
          refine r_op (t_l 4 1 rfl rfl rfl rfl (.one tyO22)) ⟨rfl, trivial⟩ ?_
          refine r_op (t_fa (off := 0) (k := 1) rfl tyF33_1) ⟨rfl, trivial⟩ ?_
          refine r_op (t_l 0 1 rfl rfl rfl rfl (.one tyO22)) ⟨rfl, trivial⟩ ?_
          obtain ⟨v25, h26, hF⟩ := bnd hF
          refine r_op (t_call rfl (ct_integer_minus h26) rfl) ⟨rfl, rfl, trivial⟩ ?_
          obtain ⟨v27, h28, hF⟩ := bnd hF
          refine r_op (t_call rfl (ct_integer_of h28) rfl) ⟨k_B _, rfl, trivial⟩ ?_
          refine r_op0 (t_s 0 rfl rfl rfl tyA33.s) ⟨rfl, rfl, trivial⟩ ?_
          refine r_nil ?_
          exact r_backJ Jj13 ⟨v27, v23, hF, rfl, rfl⟩ [0, 1, 2, 3, 4, 5] rfl ⟨rfl, rfl, rfl, rfl, rfl, rfl, trivial⟩
        · have hF := cnd_f h20 hF
          refine r_skip ?_
          exact r_backJ Jj13 ⟨v6.2, v6.1, hF, rfl, rfl⟩ [0, 1, 2, 3, 4, 5] rfl ⟨rfl, rfl, rfl, rfl, rfl, rfl, trivial⟩
      · have hF := cnd_f h19 hF
        refine r_opn ?_
        refine r_opn ?_
        refine r_opn ?_
        refine r_opn ?_
        refine r_op (t_pickF rfl) ⟨rfl, k_B _, trivial⟩ ?_
        refine r_nil (r_next (r_ifF rfl ?_))
        refine r_skip ?_
        exact r_backJ Jj13 ⟨v6.2, v6.1, hF, rfl, rfl⟩ [0, 1, 2, 3, 4, 5] rfl ⟨rfl, rfl, rfl, rfl, rfl, rfl, trivial⟩
def F_integer_Neg (a0 : GInt) : Option GInt :=
  bif (!a0.neg) then (some (⟨(decide (0 < (a0.d.length : Int))), a0.d⟩ : GInt)) else (some (⟨false, a0.d⟩ : GInt))
set_option maxRecDepth 100000 in
theorem ct_integer_Neg {a0 : GInt} {r : GInt} (hF : F_integer_Neg a0 = some r) : Ct Tryz.prog 141 [.va (GInt.e a0)] (.va (GInt.e r)) := by
  unfold F_integer_Neg at hF
  refine ctO_intro Tryz.func141 rfl (by kernel_rfl) Tryz.ntmps141 rfl (fun w0 M0 => ?_)
  refine r_seq (r_reg (r_box rfl rfl trivial (fun b1 => ?_)))
  refine r_alloc rfl tyZ33 (fun b2 => ?_)
  refine r_nil (r_next (r_seq (r_reg (r_op (t_fa (off := 0) (k := 0) rfl tyF33_0) ⟨rfl, trivial⟩ ?_))))
  refine r_op (t_l 1 1 rfl rfl rfl rfl (.one tyO4)) ⟨rfl, trivial⟩ ?_
  refine r_op (t_not rfl) ⟨rfl, trivial⟩ ?_
  refine r_mv ?_
  refine r_bool (fun h3 => ?_) (fun h3 => ?_)
  · have hF := cnd_t h3 hF
    refine r_opg (t_fa (off := 0) (k := 1) rfl tyF33_1) ⟨rfl, trivial⟩ ?_
    refine r_opg (t_l 1 1 rfl rfl rfl rfl (.one tyO22)) ⟨rfl, trivial⟩ ?_
    refine r_opg (t_ln rfl tyS22) ⟨rfl, trivial⟩ ?_
    refine r_opg (t_gt rfl) ⟨rfl, k_I _ _, trivial⟩ ?_
    refine r_op (t_pickT rfl) ⟨rfl, rfl, trivial⟩ ?_
    refine r_op (t_fa (off := 0) (k := 0) rfl tyF33_0) ⟨rfl, trivial⟩ ?_
    refine r_op0 (t_s 1 rfl rfl rfl tyO4.s) ⟨rfl, rfl, trivial⟩ ?_
    refine r_nil (r_next (r_seq (r_reg (r_op (t_l 1 2 rfl rfl rfl rfl (.agg tyA33)) ⟨rfl, trivial⟩ ?_))))
    refine r_op0 (t_s 0 rfl rfl rfl tyA33.s) ⟨rfl, rfl, trivial⟩ ?_
    refine r_nil (r_next (r_ret (r_toR ?_)))
    obtain rfl := sm1 hF
    exact r_done1 (.inl rfl) Tryz.results141 (rv_cell 0 2 rfl rfl rfl rfl (.agg tyA33) .nil) rfl rfl
  · have hF := cnd_f h3 hF
    refine r_opn ?_
    refine r_opn ?_
    refine r_opn ?_
    refine r_opn ?_
    refine r_op (t_pickF rfl) ⟨rfl, k_B _, trivial⟩ ?_
    refine r_op (t_fa (off := 0) (k := 0) rfl tyF33_0) ⟨rfl, trivial⟩ ?_
    refine r_op0 (t_s 1 rfl rfl rfl tyO4.s) ⟨rfl, rfl, trivial⟩ ?_
    refine r_nil (r_next (r_seq (r_reg (r_op (t_l 1 2 rfl rfl rfl rfl (.agg tyA33)) ⟨rfl, trivial⟩ ?_))))
    refine r_op0 (t_s 0 rfl rfl rfl tyA33.s) ⟨rfl, rfl, trivial⟩ ?_
    refine r_nil (r_next (r_ret (r_toR ?_)))
    obtain rfl := sm1 hF
    exact r_done1 (.inl rfl) Tryz.results141 (rv_cell 0 2 rfl rfl rfl rfl (.agg tyA33) .nil) rfl rfl
def F_integer_Of (a0 : Int) : Option GInt :=
  bif (decide (a0 < 0)) then ((F_integer_unsigned (decide (a0 < 0)) (wu (-(IntKind.u64.wrap a0)))).bind fun v3 => some v3) else ((F_integer_unsigned (decide (a0 < 0)) (IntKind.u64.wrap a0)).bind fun v5 => some v5)
set_option maxRecDepth 100000 in
theorem ct_integer_Of {a0 : Int} {r : GInt} (hF : F_integer_Of a0 = some r) : Ct Tryz.prog 151 [.vc (pI .i64 a0)] (.va (GInt.e r)) := by
  unfold F_integer_Of at hF
  refine ctO_intro Tryz.func151 rfl (by kernel_rfl) Tryz.ntmps151 rfl (fun w0 M0 => ?_)
  refine r_seq (r_reg (r_alloc rfl tyZ33 (fun b1 => ?_)))
  refine r_nil (r_next (r_seq (r_reg (r_mv ?_))))
  refine r_op (t_cv rfl ⟨_, Tryz.underlying3⟩ Tryz.underlying160) ⟨rfl, trivial⟩ ?_
  refine r_as ?_
  refine r_nil (r_next (r_seq (r_seq (r_reg (r_mv ?_)))))
  refine r_op (t_lt rfl) ⟨rfl, k_I _ _, trivial⟩ ?_
  refine r_nil (r_next (r_if rfl (fun h2 => ?_) (fun h2 => ?_)))
  · have hF := cnd_t h2 hF
    refine r_reg (r_mv ?_)
    refine r_op (t_uneg rfl) ⟨rfl, trivial⟩ ?_
    refine r_as ?_
    refine r_nil (r_next (r_seq (r_reg (r_mv ?_))))
    refine r_op (t_lt rfl) ⟨rfl, k_I _ _, trivial⟩ ?_
    refine r_mv ?_
    obtain ⟨v3, h4, hF⟩ := bnd hF
    refine r_op (t_call rfl (ct_integer_unsigned h4) rfl) ⟨rfl, rfl, trivial⟩ ?_
    refine r_op0 (t_s 0 rfl rfl rfl tyA33.s) ⟨rfl, rfl, trivial⟩ ?_
    refine r_nil (r_next (r_ret (r_toR ?_)))
    obtain rfl := sm1 hF
    exact r_done1 (.inl rfl) Tryz.results151 (rv_cell 0 2 rfl rfl rfl rfl (.agg tyA33) .nil) rfl rfl
  · have hF := cnd_f h2 hF
    refine r_skip (r_next (r_seq (r_reg (r_mv ?_))))
    refine r_op (t_lt rfl) ⟨rfl, k_I _ _, trivial⟩ ?_
    refine r_mv ?_
    obtain ⟨v5, h6, hF⟩ := bnd hF
    refine r_op (t_call rfl (ct_integer_unsigned h6) rfl) ⟨rfl, rfl, trivial⟩ ?_
    refine r_op0 (t_s 0 rfl rfl rfl tyA33.s) ⟨rfl, rfl, trivial⟩ ?_
    refine r_nil (r_next (r_ret (r_toR ?_)))
    obtain rfl := sm1 hF
    exact r_done1 (.inl rfl) Tryz.results151 (rv_cell 0 2 rfl rfl rfl rfl (.agg tyA33) .nil) rfl rfl
def F_gantryref04_Same_j8 (K : Nat) : Option Bool :=
  some true
def F_gantryref04_Same_l7 (K : Nat) (a0 : GInt) (a1 : GInt) : Nat → Int → Option (LR Bool Unit)
  | 0, _ => none
  | k + 1, x6 => bif (decide (x6 < (a0.d.length : Int))) then ((rdL a0.d x6).bind fun v12 => (rdL a1.d x6).bind fun v14 => bif (v12 != v14) then (some (.ret false)) else ((chk (x6 + 1)).bind fun v17 => F_gantryref04_Same_l7 K a0 a1 k v17)) else (some (.go ()))
def F_gantryref04_Same (K : Nat) (a0 : GInt) (a1 : GInt) : Option Bool :=
  bif (a0.neg != a1.neg) then (some false) else (bif ((a0.d.length : Int) != (a1.d.length : Int)) then (some false) else ((F_gantryref04_Same_l7 K a0 a1 K 0).bind fun o => match o with | .ret r => some r | .go _ => F_gantryref04_Same_j8 K ))
set_option maxRecDepth 100000 in
theorem ct_gantryref04_Same {K : Nat} {a0 : GInt} {a1 : GInt} {r : Bool} (hF : F_gantryref04_Same K a0 a1 = some r) : Ct Tryz.prog 152 [.va (GInt.e a0), .va (GInt.e a1)] (.vc (pB r)) := by
  unfold F_gantryref04_Same at hF
  refine ctO_intro Tryz.func152 rfl (by kernel_rfl) Tryz.ntmps152 rfl (fun w0 M0 => ?_)
  refine r_seq (r_reg (r_box rfl rfl trivial (fun b1 => ?_)))
  refine r_box rfl rfl trivial (fun b2 => ?_)
  refine r_op (t_mv (.inr rfl)) ⟨k_B _, trivial⟩ ?_
  refine r_nil (r_next (r_seq (r_seq (r_reg (r_op (t_fa (off := 0) (k := 0) rfl tyF33_0) ⟨rfl, trivial⟩ ?_)))))
  refine r_op (t_l 1 1 rfl rfl rfl rfl (.one tyO4)) ⟨rfl, trivial⟩ ?_
  refine r_op (t_fa (off := 0) (k := 0) rfl tyF33_0) ⟨rfl, trivial⟩ ?_
  refine r_op (t_l 0 1 rfl rfl rfl rfl (.one tyO4)) ⟨rfl, trivial⟩ ?_
  refine r_op (t_neB rfl Tryz.underlying4) ⟨rfl, rfl, trivial⟩ ?_
  refine r_mv ?_
  refine r_bool (fun h3 => ?_) (fun h3 => ?_)
  · have hF := cnd_t h3 hF
    refine r_opn ?_
    refine r_opn ?_
    refine r_opn ?_
    refine r_opn ?_
    refine r_opn ?_
    refine r_opn ?_
    refine r_opn ?_
    refine r_op (t_pickT rfl) ⟨rfl, k_B _, trivial⟩ ?_
    refine r_nil (r_next (r_ifT rfl ?_))
    refine r_seq (r_reg (r_op (t_mv (.inr rfl)) ⟨k_B _, trivial⟩ ?_))
    refine r_nil (r_next (r_ret (r_toR ?_)))
    obtain rfl := sm1 hF
    exact r_done1 (.inl rfl) Tryz.results152 (.tmp rfl .nil) rfl rfl
  · have hF := cnd_f h3 hF
    refine r_opg (t_fa (off := 0) (k := 1) rfl tyF33_1) ⟨rfl, trivial⟩ ?_
    refine r_opg (t_l 1 1 rfl rfl rfl rfl (.one tyO22)) ⟨rfl, trivial⟩ ?_
    refine r_opg (t_ln rfl tyS22) ⟨rfl, trivial⟩ ?_
    refine r_opg (t_fa (off := 0) (k := 1) rfl tyF33_1) ⟨rfl, trivial⟩ ?_
    refine r_opg (t_l 0 1 rfl rfl rfl rfl (.one tyO22)) ⟨rfl, trivial⟩ ?_
    refine r_opg (t_ln rfl tyS22) ⟨rfl, trivial⟩ ?_
    refine r_opg (t_ne rfl) ⟨rfl, rfl, trivial⟩ ?_
    refine r_op (t_pickF rfl) ⟨rfl, rfl, trivial⟩ ?_
    refine r_nil (r_next (r_if rfl (fun h4 => ?_) (fun h4 => ?_)))
    · have hF := cnd_t h4 hF
      refine r_seq (r_reg (r_op (t_mv (.inr rfl)) ⟨k_B _, trivial⟩ ?_))
      refine r_nil (r_next (r_ret (r_toR ?_)))
      obtain rfl := sm1 hF
      exact r_done1 (.inl rfl) Tryz.results152 (.tmp rfl .nil) rfl rfl
    · have hF := cnd_f h4 hF
      refine r_skip (r_next (r_seq (r_seq (r_reg (r_op (t_mv (.inr rfl)) ⟨k_I _ _, trivial⟩ ?_)))))
      refine r_nil (r_next (r_blk (r_cutN (fun H E => F_gantryref04_Same_j8 K = some r ∧ H = [] ∧ E = []) ?_ (fun Jj8 => ?_))))
      · rintro _ _ ⟨hF, rfl, rfl⟩
        unfold F_gantryref04_Same_j8 at hF
        refine r_next (r_seq (r_reg (r_op (t_mv (.inr rfl)) ⟨k_B _, trivial⟩ ?_)))
        refine r_nil (r_next (r_ret (r_toR ?_)))
        obtain rfl := sm1 hF
        exact r_done1 (.inl rfl) Tryz.results152 (.tmp rfl .nil) rfl rfl
      · skip
        obtain ⟨ol7, hL, hRl7⟩ := bnd hF
        refine r_lp (fun k a w => ∃ (x6 : Int), F_gantryref04_Same_l7 K a0 a1 k x6 = some ol7 ∧ hs _ [⟨some b2, 1, 33, 2, 1, (GInt.e a1)⟩, ⟨some b1, 1, 33, 2, 1, (GInt.e a0)⟩] [(2, .vc (pP (some b1) 0)), (3, .vc (pP (some b2) 0)), (5, .vc (pI .i64 x6))] a w) K (fun a w ⟨_, hF, _⟩ => by cases hF) (fun k a w ⟨x6, hF, hh⟩ => r_at ?_ hh) (fun a w hh => ⟨0, hL, hs_back [0, 1] rfl (by decide) (by exact ⟨rfl, rfl, rfl, trivial⟩) hh⟩)
        rw [F_gantryref04_Same_l7.eq_2] at hF
        refine r_seq (r_seq (r_reg (r_mv ?_)))
        refine r_op (t_fa (off := 0) (k := 1) rfl tyF33_1) ⟨rfl, trivial⟩ ?_
        refine r_op (t_l 1 1 rfl rfl rfl rfl (.one tyO22)) ⟨rfl, trivial⟩ ?_
        refine r_op (t_ln rfl tyS22) ⟨rfl, trivial⟩ ?_
        refine r_op (t_lt rfl) ⟨rfl, rfl, trivial⟩ ?_
        refine r_nil (r_next (r_if rfl (fun h9 => ?_) (fun h9 => ?_)))
        · have hF := cnd_t h9 hF
          refine r_skip (r_next (r_seq (r_blk (r_seq ?_))))
          obtain ⟨v12, h13, hF⟩ := bnd hF
          obtain ⟨v14, h15, hF⟩ := bnd hF
          refine r_draw [0, 1, 0, 7, 15, 0, 32, 0, 224, 480, 1023] 11 0 [.v (.vc (pP (some b1) 1)), .v (.vc (pS cI a0.d)), .v (.vc (pI .i64 x6)), .v (.vc (pM (cI.e v12))), .v (.vc (pI .i64 v12)), .v (.vc (pP (some b2) 1)), .v (.vc (pS cI a1.d)), .v (.vc (pI .i64 x6)), .v (.vc (pM (cI.e v14))), .v (.vc (pI .i64 v14)), .v (.vc (pB (v12 != v14)))] Tryz_mixed ⟨⟨rfl, .run (lo := 0) (n := 1) ⟨fun G10 A => t_fa (off := 0) (k := 1) rfl tyF33_1, trivial⟩ (fun G10 => ⟨rfl, trivial⟩)⟩, ⟨rfl, .run (lo := 0) (n := 1) ⟨fun G10 A => t_l 1 1 rfl rfl rfl rfl (.one tyO22), trivial⟩ (fun G10 => ⟨rfl, trivial⟩)⟩, ⟨rfl, .run (lo := 0) (n := 1) ⟨fun G10 A => t_mv (.inl rfl), trivial⟩ (fun G10 => ⟨rfl, trivial⟩)⟩, ⟨rfl, .run (lo := 0) (n := 1) ⟨fun G10 A => t_ix rfl tyS22 h13, trivial⟩ (fun G10 => ⟨rfl, rfl, trivial⟩)⟩, ⟨rfl, .run (lo := 0) (n := 1) ⟨fun G10 A => t_lM 1 rfl rfl (.one tyO3), trivial⟩ (fun G10 => ⟨rfl, trivial⟩)⟩, ⟨rfl, .run (lo := 0) (n := 1) ⟨fun G10 A => t_fa (off := 0) (k := 1) rfl tyF33_1, trivial⟩ (fun G10 => ⟨rfl, trivial⟩)⟩, ⟨rfl, .run (lo := 0) (n := 1) ⟨fun G10 A => t_l 0 1 rfl rfl rfl rfl (.one tyO22), trivial⟩ (fun G10 => ⟨rfl, trivial⟩)⟩, ⟨rfl, .run (lo := 0) (n := 1) ⟨fun G10 A => t_mv (.inl rfl), trivial⟩ (fun G10 => ⟨rfl, trivial⟩)⟩, ⟨rfl, .run (lo := 0) (n := 1) ⟨fun G10 A => t_ix rfl tyS22 h15, trivial⟩ (fun G10 => ⟨rfl, rfl, trivial⟩)⟩, ⟨rfl, .run (lo := 0) (n := 1) ⟨fun G10 A => t_lM 1 rfl rfl (.one tyO3), trivial⟩ (fun G10 => ⟨rfl, trivial⟩)⟩, ⟨rfl, .run (lo := 0) (n := 1) ⟨fun G10 A => t_ne rfl, trivial⟩ (fun G10 => ⟨rfl, rfl, trivial⟩)⟩, trivial⟩ (fun bs11 G10 => ?_)
          refine r_nil (r_next (r_if rfl (fun h16 => ?_) (fun h16 => ?_)))
          · have hF := cnd_t h16 hF
            refine r_seq (r_reg (r_op (t_mv (.inr rfl)) ⟨k_B _, trivial⟩ ?_))
            refine r_nil (r_next (r_ret (r_toR ?_)))
            obtain rfl := sm1 hF
            obtain rfl := sm1 hRl7
            exact r_done1 (.inl rfl) Tryz.results152 (.tmp rfl .nil) rfl rfl
          · have hF := cnd_f h16 hF
            refine r_skip (r_blkN (r_next (r_reg (r_mv ?_))))
            obtain ⟨v17, h18, hF⟩ := bnd hF
            refine r_op (t_add rfl h18) ⟨rfl, k_I _ _, trivial⟩ ?_
            refine r_as ?_
            refine r_nil ?_
            exact r_round (fun a w hh => ⟨v17, hF, hs_back [0, 1] rfl (by decide) (by exact ⟨rfl, rfl, rfl, trivial⟩) hh⟩)
        · have hF := cnd_f h9 hF
          refine r_brk ?_
          obtain rfl := sm1 hF
          exact r_backJ Jj8 ⟨hRl7, rfl, rfl⟩ [] rfl trivial
end Go.Proofs.YtkjnngaceacmdaaGreat
