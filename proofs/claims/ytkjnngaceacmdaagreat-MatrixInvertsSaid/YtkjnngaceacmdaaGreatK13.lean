/- Rows inside an owned list: more places, cuts that are lent, ends. -/
import Derived.Test.YtkjnngaceacmdaaGreatK12
set_option linter.unusedVariables false
namespace Go.Proofs.YtkjnngaceacmdaaGreat

/-- A row's place, and its length. -/
theorem inn_p {α : Type} {C : Cd α} {T N k : Nat} {H : List HA} {gs : List Hdr} {rs : List (List α)} (m : Nat) (hd : H.drop m = inn C T gs rs) (hl : LenOk gs rs) (h : rs.length = N) (hk : k < N) : H[m + k]? = some (hO C (hdr gs k).1 (hdr gs k).2.2 T (hdr gs k).2.1 (rs.getD k [])) :=
  at_m m hd (inn_at hl.1 (get_row h hk))
theorem inn_pA {α : Type} {C : Cd α} {T N k : Nat} {H A : List HA} {gs : List Hdr} {rs : List (List α)} (m : Nat) (hd : H.drop m = inn C T gs rs ++ A) (hl : LenOk gs rs) (h : rs.length = N) (hk : k < N) : H[m + k]? = some (hO C (hdr gs k).1 (hdr gs k).2.2 T (hdr gs k).2.1 (rs.getD k [])) :=
  at_m m hd (inn_atA A hl.1 (get_row h hk))
theorem row_len {α : Type} {N k : Nat} {gs : List Hdr} {rs : List (List α)} (hl : LenOk gs rs) (h : rs.length = N) (hk : k < N) : (rs.getD k []).length = (hdr gs k).2.1 := hl.2 _ _ (get_row h hk)
/-- A cut from a place on. -/
theorem cut_lo {α : Type} {ys zs : List α} {lo : Int} (h : slL ys lo (ys.length : Int) = some zs) : 0 ≤ lo ∧ lo ≤ (ys.length : Int) ∧ zs = ys.drop lo.toNat := by
  unfold slL at h
  split at h
  · rename_i hc
    refine ⟨hc.1, hc.2.1, ?_⟩
    have := Option.some.inj h
    rw [← this, List.take_of_length_le (by simp)]
  · cases h
theorem cut_hi {α : Type} {rs : List (List α)} {xs : List Nat} {zs : List (List α)} {n : Nat} {lo : Int} (h : slL (selL rs xs) lo ((selL rs xs).length : Int) = some zs) (hn : xs.length = n) : lo ≤ (n : Int) := by
  have := (cut_lo h).2.1
  rw [selL_len, hn] at this; exact this
theorem hdr_last {gs : List Hdr} {N : Nat} (g : Hdr) (h : gs.length = N) : hdr (gs ++ [g]) N = g := by
  subst h; simp [hdr]
section
variable {S : Sx} {κ : Kt} {H H' : List HA} {E : Env} {ops : Array Oper} {rest : List Oper} {o : Oper}
theorem r_nestL {α : Type} (C : Cd α) (T : Nat) (k : WL S ops κ rest (H ++ inn C T [] []) E) : WL S ops κ rest H E := by simpa [inn] using k
/-- What is lent: the first argument, a cut of a list of rows; the others are as they were. -/
theorem lend1 {α : Type} {C : Cd α} {P1 : CP} {zs ys : List (List α)} {q : List VP} (hz : zs = ys) (hlend : ∀ M w, St S M w H → ∃ Mb, mle M Mb ∧ Mok Mb w ∧ ∀ v, P1.h M v → (pS (cSl C) ys).h Mb v) :
    ∀ M w, St S M w H → ∃ Mb, mle M Mb ∧ Mok Mb w ∧ ∀ vs, AllV M (.vc P1 :: q) vs → AllV Mb (.vc (pS (cSl C) zs) :: q) vs := by
  subst hz
  intro M w h
  obtain ⟨Mb, h1, h2, h3⟩ := hlend M w h
  refine ⟨Mb, h1, h2, fun vs hvs => ?_⟩
  have mono : ∀ {ps : List VP} {us : List Value}, AllV M ps us → AllV Mb ps us := by
    intro ps
    induction ps with
    | nil => intro us hu; cases us with
      | nil => trivial
      | cons => exact hu.elim
    | cons p ps ih => intro us hu; cases us with
      | nil => exact hu.elim
      | cons u us => exact ⟨VP.mono h1 hu.1, ih hu.2⟩
  cases vs with
  | nil => exact hvs.elim
  | cons v vs => exact ⟨h3 v hvs.1, mono hvs.2⟩
theorem mid_perm (X R B : List HA) : ((X ++ B) ++ R).Perm ((X ++ R) ++ B) := by
  rw [List.append_assoc, List.append_assoc]
  exact List.perm_append_comm.append_left X
theorem recode {T c n : Nat} {β : Option Nat} {gs : List Hdr} {xs : List Nat} {N : Nat} (g : Hdr) (hN : gs.length = N) (hx : ∀ k ∈ xs, k < N) : hO (cH (gs ++ [g])) β c T n xs = hO (cH gs) β c T n xs := by
  show HA.mk β c T _ n _ = HA.mk β c T _ n _
  rw [cH_snoc g (fun k hk => hN ▸ hx k hk)]; rfl
theorem ve_last {gs : List Hdr} {N : Nat} (b : Option Nat) (n c : Nat) (h : gs.length = N) : VE (cH (gs ++ [(b, n, c)])) (.vc (pO b n c)) N := ⟨trivial, by show [_] = [_]; rw [hdr_last _ h]⟩
/-- A list of one new row, which is to go behind the others. -/
theorem t_bsH {t e bytes : Nat} {x : Operand} {gs : List Hdr} {α : Type} {rs : List (List α)} {b : Option Nat} {n c : Nat} (ho : o.op = .buildSlice t 1 ((List.range' 0 1).zip [x]).toArray) (ht : TyS S.P t e 1 bytes) (hl : gs.length = rs.length) (h : H' = H) :
    Tr S o H H' [(x, .vc (pO b n c))] (.vc (pS (cH (gs ++ [(b, n, c)])) [rs.length])) :=
  tr_cast (t_bs (C := cH (gs ++ [(b, n, c)])) (xs := [x]) (ps := [.vc (pO b n c)]) (zs := [rs.length]) ho ht rfl ⟨ve_last b n c hl, trivial⟩ rfl) h
/-- A field of one cell of a structure that is a value. -/
structure TyG (P : Program) (s f off ft : Nat) : Prop where
  u : ∃ fs fd, P.underlying s = some (.struct fs) ∧ fs[f]? = some fd ∧ fd.offset = off ∧ fd.type = ft
  o : Ty1 P ft
theorem t_fld {s f off ft : Nat} {x : Operand} {ps : List CP} {p : CP} (ho : o.op = .field s x f) (hf : TyG S.P s f off ft) (hp : ps[off]? = some p) : Tr S o H H [(x, .va ps)] (.vc p) := by
  refine ⟨fun M w a h hin K Q hkk => ?_⟩
  obtain ⟨vs, hx, hall⟩ := hin.1
  obtain ⟨fs, fd, hu, hfd, hoff, hft⟩ := hf.u
  obtain ⟨v, hv, hpv⟩ := All2.at off hall hp
  obtain ⟨d, hd, ha⟩ := hf.o.u
  refine wp_run (v := v) ?_ (hkk _ M w (mle.refl M) h hpv)
  subst hoff hft
  simp [execOp, ho, hx, Instr.field, run_underlying hu, hfd, part, run_isAgg hd, ha, asAgg, hv]
/-- The end of a function that hands rows of a list back. -/
theorem r_doneA {P : Program} {fn : Func} {w0 : World} {M0 : Mem} {B : List Nat} {post : List HA → VP → Prop} {N : Nat} {e : Exit} {rs : List ResultVar} {ps : List VP} {R Ho : List HA} (he : e = .ret ∨ e = .normal) (hrs : fn.results = rs.toArray) (hv : RVs ⟨P, w0, M0, B, N⟩ H E rs ps) (hl : Nat.ble ps.length 4 = true)
    (m : Nat) (is : List Nat) (hd : H.drop m = R) (hp : pickH (H.take m) is = some Ho) (hn : is.Nodup) (hpost : post (Ho ++ R) (tupV ps)) :
    WX ⟨P, w0, M0, B, N⟩ e (.base (bodyPost P fn (Rp P w0 M0 B post))) H E := by
  rintro a w ⟨M, h1, h2⟩
  obtain ⟨vs, hall, hr⟩ := run_rvs h1 h2 hv
  have hres : (results fn a.tmps).run P w = .ok (if h : vs.toArray.size = 1 then vs.toArray[0] else .tuple vs.toArray) w := by
    have e : results fn a.tmps = (do let vs ← fn.results.mapM (rvOne a.tmps); pure (if h : vs.size = 1 then vs[0] else .tuple vs)) := rfl
    rw [e, hrs, List.mapM_toArray]
    simp [hr]
  rw [← List.take_append_drop m H, hd] at h1
  have hR : Rp P w0 M0 B post (.returned (if h : vs.toArray.size = 1 then vs.toArray[0] else .tuple vs.toArray)) w :=
    ⟨_, M, Ho ++ R, tupV ps, hpost, rfl, (h1.split hp hn).reN P 0, tup_h (by simpa using hl) hall⟩
  rcases he with rfl | rfl <;> exact ⟨h2.defers, _, hres, hR⟩
/-- The capacity of an owned row. -/
theorem t_capO {t e k bytes n c : Nat} {β : Option Nat} {x : Operand} (ho : o.op = .call { callee := .builtin .cap, args := #[x], argTypes := #[t] }) (ht : TyS S.P t e k bytes) :
    Tr S o H H [(x, .vc (pO β n c))] (.vc (pI .i64 c)) := by
  refine ⟨fun M w a h hin K Q hkk => ?_⟩
  refine wp_run (v := .int .i64 c) ?_ (hkk _ M w (mle.refl M) h rfl)
  rcases hin.1 with hx | ⟨_, _, rfl, a0, hx⟩
  rotate_left
  · simp [execOp, ho, resolve, invoke, builtin, Builtin.cap_, hx, run_underlying ht.u, goInt]
  simp [execOp, ho, resolve, invoke, builtin, Builtin.cap_, hx, sv, run_underlying ht.u, goInt]
/-- An owned row of which nothing is kept. -/
theorem t_cut0 {α : Type} {C : Cd α} {xs : List α} {t e bytes n c T : Nat} {β : Option Nat} {x y : Operand} {hi : Int} (i : Nat) (ho : o.op = .slice t x none (some y) none) (ht : TyS S.P t e C.n bytes) (hH : H[i]? = some (hO C β c T n xs)) (h0 : hi = 0) (hs' : H.set i (hO C β c T 0 ([] : List α)) = H') :
    Tr S o H H' [(x, .vc (pO β n c)), (y, .vc (pI .i64 hi))] (.vc (pO β 0 c)) := by
  subst h0 hs'
  refine ⟨fun M w a hs hin K Q hk => ?_⟩
  have hx := hin.1
  have hy : a.eval y = .int .i64 0 := hin.2.1
  obtain ⟨it, hi', hk', _⟩ := ht.s
  obtain ⟨⟨vs, how, hall⟩, hnone⟩ := hs.own _ (List.mem_of_getElem? hH)
  have hst : St S M w (H.set i (hO C β c T 0 ([] : List α))) := by
    refine hs.put hH (grown_refl w _) ⟨⟨[], ?_, trivial⟩, hnone⟩ (.inl rfl)
    refine ⟨by simp, ?_⟩
    rcases how.2 with ⟨h1, h2⟩ | ⟨g, cap, cur, h1, h2, h3, h4, h5, h6, h7⟩
    · left
      have h1' : sv β n c = .slice none 0 0 := h1
      have h2' : n = 0 := h2
      subst h2'
      exact ⟨h1', rfl⟩
    · right
      have h1' : sv β n c = .slice (some ⟨g, 0, none⟩) n cap := h1
      refine ⟨g, cap, cur, ?_, h2, h3, Nat.zero_le _, h5, h6, by simp⟩
      unfold sv at h1' ⊢
      simp only [Value.slice.injEq] at h1'
      rw [h1'.1, h1'.2.2]
  have hv : ∃ v : Value, (Instr.slice t (a.eval x) none (some (.int .i64 0)) none).run S.P w = .ok v w ∧ (pO β 0 c).h M v := by
    have hb : ∀ (y : Nat) (code : BoundsCode), (Instr.sliceBound (.int .i64 0) y code).run S.P w = .ok 0 w := fun y code => by
      have := run_sb (P := S.P) (w := w) (k := .i64) (i := 0) (y := y) (code := code) (by omega) (by omega)
      simpa using this
    rcases hx with hx | ⟨hb0, hn0, hc0, a0, hx⟩
    · rw [hx]
      refine ⟨sv β 0 c, ?_, .inl rfl⟩
      unfold sv
      cases β with
      | none => simp [Instr.slice, Instr.sliceBounds, run_underlying ht.u, sizeOf, typeInfo, hi', hb]
      | some b => simp [Instr.slice, Instr.sliceBounds, run_underlying ht.u, sizeOf, typeInfo, hi', hb, Addr.add]
    · rw [hx]
      refine ⟨.slice (some a0) 0 0, ?_, .inr ⟨hb0, rfl, hc0, a0, rfl⟩⟩
      simp [Instr.slice, Instr.sliceBounds, run_underlying ht.u, sizeOf, typeInfo, hi', hb]
  obtain ⟨v, hr, hvp⟩ := hv
  have hagg : execOp a.eval o = (do pure (.value (← Instr.sliceAt t (a.eval x) none (some (a.eval y)) none))) := by simp [execOp, ho]
  refine wp_run (v := v) ?_ (hk _ M w (mle.refl M) hst hvp)
  have hsa : (Instr.sliceAt t (a.eval x) none (some (.int .i64 0)) none).run S.P w = .ok v w := by
    simp only [Instr.sliceAt]
    simp [run_underlying ht.u, hr]
  simp [execOp, ho, hy, hsa]
/-- append(s, make([]T, n)...) where s holds nothing and has no room. -/
theorem run_append_zeros {P : Program} (w : World) (t u ty e : TypeId) (i : TypeInfo) (z : Value) (kk : IntKind) (ht : P.underlying t = some (.slice e)) (hu : P.underlying u = some (.int kk)) (hi : P.info? e = some i) (hz : i.zero = some z)
    (p : Option Addr) (k : IntKind) (n : Nat) (h0 : 0 < n) (hs : 0 < i.size) (h63 : (n : Int) ≤ 9223372036854775807) (h48 : n * i.bytes ≤ 281474976710656) :
    (Builtin.append_ #[t, u] ty #[.slice p 0 0, .int k (n : Int)]).run P w =
      .ok (.slice (some ⟨w.heap.size, 0, none⟩) n (grownCap w n 0 e)) (w.drew.alloc (.cells (Builtin.zeroCells z.cells n ++ Builtin.zeroCells z.cells (grownCap w n 0 e - n)) e)) := by
  have hn : n ≠ 0 := by omega
  have h63' : ¬ (9223372036854775807 < (n : Int)) := by omega
  have h48' : ¬ (281474976710656 < Builtin.nextslicecap n 0 * i.bytes) := by rw [nextslicecap_zero h0]; omega
  have hw : IntKind.i64.wrap (n : Int) = (n : Int) := by rw [IntKind.wrap_i64]; omega
  have hneg : ¬ ((n : Int) < 0) := by omega
  have h48'' : ¬ (281474976710656 < (n : Int) * (i.bytes : Int)) := by
    have : ((n * i.bytes : Nat) : Int) = (n : Int) * (i.bytes : Int) := Int.natCast_mul _ _
    omega
  have hns : ¬ (n * i.size = 0) := by
    have := Nat.mul_pos h0 hs; omega
  have hs0 : i.size ≠ 0 := by omega
  have hf : (Builtin.firstCells i.size 0 (.slice p 0 0)).run P w.drew = .ok #[] w.drew := by
    cases p with
    | none => exact run_firstCells_none ..
    | some a => simpa using run_firstCells_some (P := P) w.drew i.size 0 a 0 0 [] (by simp) (by simp)
  simp [Builtin.append_, run_underlying ht, run_underlying hu, sizeOf, typeInfo, zeroValue, hi, hz, hn, h63', h48', Question.forced, newRow, grownCap, asInt, asIntOf, hw, hneg, h48'', hf]
  exact fun hh => absurd hh hns
theorem hv_appZ {α : Type} {C : Cd α} {t u bytes T : Nat} {x y : Operand} {n : Int} {z : α} {zs : List α} {kk : IntKind} (ho : o.op = .call { callee := .builtin .append, args := #[x, y], argTypes := #[t, u] }) (ht : TyS S.P t T C.n bytes) (hu : S.P.underlying u = some (.int kk)) (hb : Nat.ble bytes 2048 = true) (hz : TyZ S.P T (C.e z))
    (h0 : 0 < n) (hm : mkL n z = some zs) :
    Hv S o H (fun β' c' => hO C β' c' T zs.length zs :: H) [(x, .vc (pO none 0 0)), (y, .vc (pI .i64 n))] (fun β' c' => .vc (pO β' zs.length c')) := by
  refine ⟨fun M w a h1 hins K Q hK => ?_⟩
  obtain ⟨it, zv, hit, hzz, hsz, hall⟩ := hz.z
  have hy : a.eval y = .int .i64 n := hins.2.1
  have hlen := mkL_len hm
  unfold mkL at hm
  split at hm
  case isFalse => cases hm
  rename_i hnn
  simp only [Option.some.injEq] at hm
  obtain ⟨i', hi', hs1, hs2, _⟩ := ht.s
  rw [hit] at hi'
  simp only [Option.some.injEq] at hi'
  subst hi'
  have hb' : bytes ≤ 2048 := by simpa using hb
  obtain ⟨m, rfl⟩ : ∃ m : Nat, n = m := ⟨n.toNat, (Int.toNat_of_nonneg hnn.1).symm⟩
  have hm0 : 0 < m := by omega
  simp only [Int.toNat_natCast] at hlen hm
  have hbn : m * it.bytes ≤ 281474976710656 := by
    rw [hs2]
    calc m * bytes ≤ 68719476736 * 2048 := Nat.mul_le_mul (by omega) hb'
      _ ≤ _ := by decide
  have hzc : zv.cells.size = it.size := by
    have := (hall M).len
    rw [hsz]; simpa using this
  have hgo : ∀ p, a.eval x = .slice p 0 0 → o.wp S.P a w K Q := by
    intro p hx
    have hr := run_append_zeros (P := S.P) w t u o.type T it zv kk ht.u hu hit hzz p .i64 m hm0 (by rw [hs1]; exact ht.pos) (by omega) hbn
    have hge := grownCap_ge w m 0 T
    have hcm : grownCap w m 0 T ≤ maxLen := grownCap_le_maxLen w m 0 T (by simp only [maxLen]; omega)
    have hzz' : Builtin.zeroCells zv.cells m = madeCells zv.cells (m * C.n) := by rw [← hs1, ← hzc]; rfl
    have hown : (w.drew.alloc (.cells (Builtin.zeroCells zv.cells m ++ Builtin.zeroCells zv.cells (grownCap w m 0 T - m)) T)).ownsRow 0 T C.n (sv (some w.heap.size) m (grownCap w m 0 T)) m (madeCells zv.cells (m * C.n)).toList := by
      refine ⟨by simp [madeCells], .inr ⟨w.heap.size, _, _, rfl, Nat.zero_le _, heap_alloc_new w.drew _, hge, hcm, ?_, ?_⟩⟩
      · rw [Array.size_append, size_zeroCells, size_zeroCells, hzc, hs1, ← Nat.add_mul]
        congr 1; omega
      · rw [Array.toList_append, hzz', List.take_left' (by simp [madeCells])]
    have hgr : w.grownBy (w.drew.alloc (.cells (Builtin.zeroCells zv.cells m ++ Builtin.zeroCells zv.cells (grownCap w m 0 T - m)) T)) none :=
      ⟨rfl, rfl, rfl, by simp, fun k hk _ => heap_alloc_old w.drew _ k hk⟩
    refine wp_run (w' := w.drew.alloc (.cells (Builtin.zeroCells zv.cells m ++ Builtin.zeroCells zv.cells (grownCap w m 0 T - m)) T)) (v := sv (some w.heap.size) m (grownCap w m 0 T)) ?_ (hK _ M _ (some w.heap.size) (grownCap w m 0 T) (mle.refl M) ?_ (by rw [hlen]; exact .inl rfl))
    · simp [execOp, ho, resolve, invoke, builtin, hx, hy, hr, sv]
    · refine h1.new_row hgr ⟨⟨_, by rw [hlen]; exact hown, ?_⟩, fun b hb => ?_⟩ (fun b hb => ?_)
      · rw [← hm]; exact zero_all (hall M) m
      · have e : w.heap.size = b := by simpa using hb
        exact h1.mem.none (by omega)
      · have e : w.heap.size = b := by simpa using hb
        omega
  rcases hins.1 with hx | ⟨_, _, _, a0, hx⟩
  · exact hgo none hx
  · exact hgo (some a0) hx
theorem r_appZ {α : Type} {C : Cd α} {t u bytes T d : Nat} {x y : Operand} {n : Int} {z : α} {zs : List α} {kk : IntKind} (ho : o.op = .call { callee := .builtin .append, args := #[x, y], argTypes := #[t, u] }) (ht : TyS S.P t T C.n bytes) (hu : S.P.underlying u = some (.int kk)) (hb : Nat.ble bytes 2048 = true) (hz : TyZ S.P T (C.e z))
    (hx : LookO E x (.vc (pO none 0 0))) (hy : LookO E y (.vc (pI .i64 n))) (h0 : 0 < n) (hm : mkL n z = some zs)
    (k : ∀ β' c', WL S ops κ rest (hO C β' c' T zs.length zs :: H) ((d, .vc (pO β' zs.length c')) :: E))
    (hd : o.dst = some d := by rfl) (hg : o.guard = none := by rfl) (hN : Nat.blt d S.N = true := by rfl) : WL S ops κ (o :: rest) H E :=
  r_hv (hv_appZ ho ht hu hb hz h0 hm) ⟨hx, hy, trivial⟩ (fun b c => k b c) hd hg hN
theorem r_newC {α : Type} (C : Cd α) (T : Nat) {cd : Code} (k : WC S cd κ (hO C none 0 T 0 ([] : List α) :: H) E) : WC S cd κ H E := by
  rintro a w ⟨M, h1, h2⟩
  exact k a w ⟨M, h1.new_row (grown_refl w none) ⟨⟨[], World.ownsRow_nil w 0 T C.n, trivial⟩, fun b hb => by cases hb⟩ (fun b hb => by cases hb), h2⟩
/-- A list of so many, of which there is one at least. -/
def mkP {α : Type} (n : Int) (z : α) : Option (List α) := if 0 < n then mkL n z else none
theorem mkP_some {α : Type} {n : Int} {z : α} {zs : List α} (h : mkP n z = some zs) : 0 < n ∧ mkL n z = some zs := by
  unfold mkP at h
  split at h
  · exact ⟨‹_›, h⟩
  · cases h
theorem r_eqL (h : H' = H) (k : WL S ops κ rest H' E) : WL S ops κ rest H E := h ▸ k
/-- A row that holds nothing is the first of the rows. -/
theorem r_nest1 {α : Type} (C : Cd α) (T : Nat) (k : WL S ops κ rest (H ++ inn C T [(none, 0, 0)] [([] : List α)]) E) : WL S ops κ rest H E :=
  r_newL C T (r_permL (by
    show (H ++ [_]).Perm (_ :: H)
    exact List.perm_append_comm) k)
theorem lenOk_one {α : Type} : LenOk [(none, 0, 0)] [([] : List α)] := lenOk_snoc (g := (none, 0, 0)) (r := ([] : List α)) lenOk_nil rfl
theorem mkL_hx {n : Int} {xs : List Nat} (h : mkL n 0 = some xs) : ∀ k ∈ xs, k < 1 := by
  unfold mkL at h
  split at h
  · simp only [Option.some.injEq] at h
    subst h
    intro k hk
    rw [List.eq_of_mem_replicate hk]; exact Nat.one_pos
  · cases h
theorem put_last {gs : List Hdr} {N z : Nat} (g : Hdr) (h : gs.length = N) : putK ((cH (gs ++ [g])).e z) 0 [pO g.1 g.2.1 g.2.2] = some ((cH (gs ++ [g])).e N) := by
  show some [_] = some [_]
  rw [hdr_last g h]
theorem stL_hx1 {xs ys : List Nat} {N k : Nat} {j : Int} (hx : ∀ k ∈ xs, k < N) (h : stL xs j k = some ys) (hk : k = N) : ∀ i ∈ ys, i < N + 1 :=
  stL_hx (fun i hi => Nat.lt_succ_of_lt (hx i hi)) h (by omega)
theorem rdL_dropI {α : Type} {xs : List α} {lo j : Int} {z : α} (h0 : 0 ≤ lo) (h : rdL (xs.drop lo.toNat) j = some z) : rdL xs (lo + j) = some z := by
  obtain ⟨h1, h2, h3⟩ := rdL_some h
  unfold rdL
  rw [if_pos (by omega), show (lo + j).toNat = lo.toNat + j.toNat by omega, ← List.getElem?_drop]
  exact h3
/-- An element of a cut of an owned list. -/
theorem t_ixC {α : Type} {C : Cd α} {xs : List α} {z : α} {t e bytes n c T : Nat} {x y : Operand} {β : Option Nat} {lo j : Int} {k : IntKind} (i : Nat) (ho : o.op = .indexAddr t x y) (ht : TyS S.P t e C.n bytes) (hi : H[i]? = some (hO C β c T n xs)) (hn : xs.length = n) (h0 : 0 ≤ lo) (hj : rdL (xs.drop lo.toNat) j = some z) :
    Tr S o H H [(x, .vc (pC (pO β n c) lo.toNat C.n)), (y, .vc (pI k j))] (.vc (pE β (lo + j) C.n 0)) := by
  refine ⟨fun M w a h hin K Q hkk => ?_⟩
  have hy : a.eval y = .int k j := hin.2.1
  obtain ⟨j0, jl, _⟩ := rdL_some hj
  rw [List.length_drop, hn] at jl
  obtain ⟨p, n', cc, hp, h1, h2, hx⟩ := hin.1
  obtain ⟨i', hi', hk, _⟩ := ht.s
  obtain ⟨⟨vs, how, _⟩, _⟩ := h.own _ (List.mem_of_getElem? hi)
  rcases hp with hp | ⟨_, hz, _⟩
  rotate_left
  · omega
  rcases how.2 with ⟨h3, h4⟩ | ⟨g, cap, cur, h3, _, _, hnc, _⟩
  · have : n = 0 := h4
    omega
  · have h3' : sv β n c = .slice (some ⟨g, 0, none⟩) n cap := h3
    cases β with
    | none => simp [sv] at h3'
    | some b =>
      unfold sv at hp h3'
      simp only [Option.map_some, Value.slice.injEq, Option.some.injEq, Addr.mk.injEq, and_true] at hp h3'
      obtain ⟨rfl, rfl, rfl⟩ := hp
      obtain ⟨rfl, _, rfl⟩ := h3'
      have hne : ¬ (cc = lo.toNat) := by
        have : n' ≤ cc := hnc
        omega
      rw [if_neg hne] at hx
      have hjn : j < ((n' - lo.toNat : Nat) : Int) := by omega
      refine wp_run (v := .pointer (some ⟨b, (lo + j).toNat * C.n + 0, none⟩)) ?_ (hkk _ M w (mle.refl M) h ⟨b, rfl, rfl⟩)
      have e : (lo + j).toNat = lo.toNat + j.toNat := by omega
      simp [execOp, ho, hx, hy, Instr.indexAt, asIntOf, run_underlying ht.u, j0, hjn, sizeOf, typeInfo, hi', hk, add_pl, e, Nat.add_mul]
/-- The length of a cut. -/
theorem t_lnC {t e k bytes n c l z : Nat} {m : Int} {β : Option Nat} {x : Operand} (ho : o.op = .call { callee := .builtin .len, args := #[x], argTypes := #[t] }) (ht : TyS S.P t e k bytes) (hm : m = ((n - l : Nat) : Int)) :
    Tr S o H H [(x, .vc (pC (pO β n c) l z))] (.vc (pI .i64 m)) := by
  subst hm
  refine ⟨fun M w a h hin K Q hkk => ?_⟩
  obtain ⟨p, n', cc, hp, h1, h2, hx⟩ := hin.1
  have hn : n' = n := by
    rcases hp with hp | ⟨_, hz, _, _, hp⟩
    · unfold sv at hp
      simp only [Value.slice.injEq] at hp
      exact hp.2.1
    · simp only [Value.slice.injEq] at hp
      omega
  subst hn
  refine wp_run (v := .int .i64 ((n' - l : Nat) : Int)) ?_ (hkk _ M w (mle.refl M) h rfl)
  simp [execOp, ho, resolve, invoke, builtin, Builtin.len_, hx, run_underlying ht.u, goInt]
theorem cut_len {α : Type} {rs : List (List α)} {xs : List Nat} {zs : List (List α)} {n : Nat} {lo : Int} (h : slL (selL rs xs) lo ((selL rs xs).length : Int) = some zs) (hn : xs.length = n) : (zs.length : Int) = ((n - lo.toNat : Nat) : Int) := by
  rw [(cut_lo h).2.2, List.length_drop, selL_len, hn]
theorem pickH_all {H : List HA} : ∀ (t k : Nat), k + t = H.length → pickH H (List.range' k t) = some (H.drop k)
  | 0, k, h => by rw [List.drop_eq_nil_of_le (by omega)]; rfl
  | t + 1, k, h => by
    have hk : k < H.length := by omega
    show (match H[k]?, pickH H (List.range' (k + 1) t) with
      | some e, some r => some (e :: r)
      | _, _ => none) = _
    rw [pickH_all t (k + 1) (by omega), List.getElem?_eq_getElem hk, List.drop_eq_getElem_cons hk]
/-- A call that is handed no rows: what is owned stays as it is. -/
theorem r_callN {f d : Nat} {pre : List VP} {post : List HA → VP → Prop} {xs : List Operand} {ts : Array TypeId} (ho : o.op = .call { callee := .value (.func f), args := xs.toArray, argTypes := ts }) (c : CtO S.P f [] pre post) (hi : SubI E (xs.zip pre))
    (k : ∀ Ho q, post Ho q → WL S ops κ rest (Ho ++ H) ((d, q) :: E)) (hl : xs.length = pre.length := by rfl)
    (hd : o.dst = some d := by rfl) (hg : o.guard = none := by rfl) (hN : Nat.blt d S.N = true := by rfl) : WL S ops κ (o :: rest) H E :=
  r_callO [] (List.range' 0 H.length) ho c hi rfl (by rw [pickH_all H.length 0 (by omega), List.drop_zero]) (by simpa using List.nodup_range') k hl hd hg hN
end
end Go.Proofs.YtkjnngaceacmdaaGreat
