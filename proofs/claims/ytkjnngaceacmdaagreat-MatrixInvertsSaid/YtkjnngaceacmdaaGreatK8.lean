/- Cuts of slices, copies, and regions that draw their order. -/
import Derived.Test.YtkjnngaceacmdaaGreatK7
set_option linter.unusedVariables false
namespace Go.Proofs.YtkjnngaceacmdaaGreat

section
variable {S : Sx} {κ : Kt} {H H' : List HA} {E : Env} {ops : Array Oper} {rest : List Oper} {o : Oper}
theorem pS_cut {α : Type} {C : Cd α} {xs : List α} {M : Mem} {p : Option Addr} {n c l h m : Nat} (hv : (pS C xs).h M (.slice p n c)) (hlh : l ≤ h) (hhn : h ≤ xs.length) (hhm : h ≤ m) (hmc : m ≤ c) :
    (pS C ((xs.drop l).take (h - l))).h M (.slice (if m = l then p else p.map (·.add (l * C.n))) (h - l) (m - l)) := by
  obtain ⟨p', c', e, h1, h2, h3⟩ := hv
  simp only [Value.slice.injEq] at e
  obtain ⟨rfl, rfl, rfl⟩ := e
  have hlen : ((xs.drop l).take (h - l)).length = h - l := by simp; omega
  refine ⟨_, _, by rw [hlen], by omega, by omega, fun j x hj => ?_⟩
  rw [List.getElem?_take] at hj
  split at hj
  · rename_i hjl
    rw [List.getElem?_drop] at hj
    obtain ⟨b, off, rfl, hc⟩ := h3 _ x hj
    have hml : ¬ m = l := by omega
    refine ⟨b, off + l * C.n, by simp [hml, add_pl], ?_⟩
    rw [Nat.add_mul, ← Nat.add_assoc] at hc
    exact hc
  · cases hj
theorem slL_some {α : Type} {xs zs : List α} {lo hi : Int} (h : slL xs lo hi = some zs) : zs = (xs.drop lo.toNat).take (hi.toNat - lo.toNat) ∧ 0 ≤ lo ∧ lo ≤ hi ∧ hi ≤ xs.length := by
  unfold slL at h
  split at h
  · simp only [Option.some.injEq] at h; exact ⟨h.symm, ‹_›⟩
  · cases h
theorem run_sb {P : Program} {w : World} {k : IntKind} {i : Int} {y : Nat} {code : BoundsCode} (h0 : 0 ≤ i) (h1 : i ≤ y) : (Instr.sliceBound (.int k i) y code).run P w = .ok i.toNat w := run_sliceBound w k i y code h0 h1
/-- xs[:hi] -/
theorem t_cutH {α : Type} {C : Cd α} {xs zs : List α} {t e bytes : Nat} {x y : Operand} {hi : Int} {k : IntKind} (ho : o.op = .slice t x none (some y) none) (ht : TyS S.P t e C.n bytes) (h : slL xs 0 hi = some zs) :
    Tr S o H H [(x, .vc (pS C xs)), (y, .vc (pI k hi))] (.vc (pS C zs)) := by
  refine ⟨fun M w a hs hin K Q hk => ?_⟩
  obtain ⟨rfl, _, h0, hl⟩ := slL_some h
  obtain ⟨p, c, hx, h1, h2, h3⟩ := hin.1
  have hy : a.eval y = .int k hi := hin.2.1
  obtain ⟨i, hi', hk', _⟩ := ht.s
  refine wp_run (v := .slice (if c = 0 then p else p.map (·.add (0 * C.n))) (hi.toNat - 0) (c - 0)) ?_ (hk _ M w (mle.refl M) hs (pS_cut (l := 0) (h := hi.toNat) (m := c) ⟨p, c, rfl, h1, h2, h3⟩ (by omega) (by omega) (by omega) (Nat.le_refl _)))
  have hb := run_sb (P := S.P) (w := w) (k := k) (i := hi) (y := c) (code := .sliceAcap) h0 (by omega)
  simp [execOp, ho, hx, hy, Instr.sliceAt, Instr.slice, Instr.sliceBounds, run_underlying ht.u, sizeOf, typeInfo, hi', hb]
/-- xs[lo:] -/
theorem t_cutL {α : Type} {C : Cd α} {xs zs : List α} {t e bytes : Nat} {x y : Operand} {lo : Int} {k : IntKind} (ho : o.op = .slice t x (some y) none none) (ht : TyS S.P t e C.n bytes) (h : slL xs lo xs.length = some zs) :
    Tr S o H H [(x, .vc (pS C xs)), (y, .vc (pI k lo))] (.vc (pS C zs)) := by
  refine ⟨fun M w a hs hin K Q hk => ?_⟩
  obtain ⟨rfl, h0, hl, _⟩ := slL_some h
  obtain ⟨p, c, hx, h1, h2, h3⟩ := hin.1
  have hy : a.eval y = .int k lo := hin.2.1
  obtain ⟨i, hi', hk', _⟩ := ht.s
  refine wp_run (v := .slice (if c = lo.toNat then p else p.map (·.add (lo.toNat * C.n))) (xs.length - lo.toNat) (c - lo.toNat)) ?_ (hk _ M w (mle.refl M) hs (pS_cut (l := lo.toNat) (h := xs.length) (m := c) ⟨p, c, rfl, h1, h2, h3⟩ (by omega) (by omega) (by omega) (Nat.le_refl _)))
  have hb := run_sb (P := S.P) (w := w) (k := k) (i := lo) (y := xs.length) (code := .sliceB) h0 hl
  simp [execOp, ho, hx, hy, Instr.sliceAt, Instr.slice, Instr.sliceBounds, run_underlying ht.u, sizeOf, typeInfo, hi', hk', hb]
/-- xs[:hi:mx] -/
theorem t_cutHM {α : Type} {C : Cd α} {xs zs : List α} {t e bytes : Nat} {x y z : Operand} {hi : Int} {k k' : IntKind} (ho : o.op = .slice t x none (some y) (some z)) (ht : TyS S.P t e C.n bytes) (h : slL xs 0 hi = some zs) :
    Tr S o H H [(x, .vc (pS C xs)), (y, .vc (pI k hi)), (z, .vc (pI k' hi))] (.vc (pS C zs)) := by
  refine ⟨fun M w a hs hin K Q hk => ?_⟩
  obtain ⟨rfl, _, h0, hl⟩ := slL_some h
  obtain ⟨p, c, hx, h1, h2, h3⟩ := hin.1
  have hy : a.eval y = .int k hi := hin.2.1
  have hz : a.eval z = .int k' hi := hin.2.2.1
  obtain ⟨i, hi', hk', _⟩ := ht.s
  refine wp_run (v := .slice (if hi.toNat = 0 then p else p.map (·.add (0 * C.n))) (hi.toNat - 0) (hi.toNat - 0)) ?_ (hk _ M w (mle.refl M) hs (pS_cut (l := 0) (h := hi.toNat) (m := hi.toNat) ⟨p, c, rfl, h1, h2, h3⟩ (by omega) (by omega) (by omega) (by omega)))
  have hb := run_sb (P := S.P) (w := w) (k := k') (i := hi) (y := c) (code := .slice3Acap) h0 (by omega)
  have hb2 := run_sb (P := S.P) (w := w) (k := k) (i := hi) (y := hi.toNat) (code := .slice3B) h0 (by omega)
  simp [execOp, ho, hx, hy, hz, Instr.sliceAt, Instr.slice, Instr.sliceBounds, run_underlying ht.u, sizeOf, typeInfo, hi', hb, hb2]
theorem flat_tk {α : Type} (C : Cd α) : ∀ (xs : List α) (m : Nat), (flat C xs).take (m * C.n) = flat C (xs.take m) ∧ (flat C xs).drop (m * C.n) = flat C (xs.drop m)
  | [], m => by simp [flat]
  | x :: xs, 0 => by simp [flat]
  | x :: xs, m + 1 => by
    obtain ⟨h1, h2⟩ := flat_tk C xs m
    have hl := C.len x
    have e : (m + 1) * C.n = (C.e x).length + m * C.n := by rw [hl, Nat.add_mul, Nat.one_mul]; omega
    have hf : flat C (x :: xs) = C.e x ++ flat C xs := by simp [flat]
    refine ⟨?_, ?_⟩
    · rw [hf, e, List.take_length_add_append, h1]; simp [flat]
    · rw [hf, e, List.drop_length_add_append, h2]; simp [flat]
/-- What a copy leaves. -/
def cpL {α : Type} (xs ys : List α) : List α := ys.take (min ys.length xs.length) ++ xs.drop (min ys.length xs.length)
theorem cpL_len {α : Type} {xs ys : List α} {n : Nat} (h : xs.length = n) : (cpL xs ys).length = n := by
  unfold cpL; simp; omega
theorem t_cp {α : Type} {C : Cd α} {xs ys : List α} {t bytes n c T : Nat} {β : Option Nat} {x y : Operand} (i : Nat) (ho : o.op = .call { callee := .builtin .copy, args := #[x, y], argTypes := #[t, t] }) (ht : TyS S.P t T C.n bytes) (hi : H[i]? = some (hO C β c T n xs)) (hn : xs.length = n) (hH : setK H i (hO C β c T n (cpL xs ys)) = some H') :
    Tr S o H H' [(x, .vc (pO β n c)), (y, .vc (pS C ys))] (.vc (pI .i64 (min ys.length xs.length : Nat))) := by
  refine ⟨fun M w a h hin K Q hkk => ?_⟩
  rw [setK_eq hH] at hkk
  have hx0 := hin.1
  have hy : (pS C ys).h M (a.eval y) := hin.2.1
  obtain ⟨it, hit, hs1, hs2, _⟩ := ht.s
  obtain ⟨⟨vs, how, hall⟩, hnone⟩ := h.own _ (List.mem_of_getElem? hi)
  have hl0 : ∀ (x : Addr), (loadCells x 0).run S.P w = .ok #[] w := fun x => by simpa using run_loadCells_list (P := S.P) w x [] (by simp)
  have hsame : H.set i (hO C β c T n xs) = H := List.ext_getElem? fun j => by
    rw [List.getElem?_set]
    split
    · rename_i e; subst e
      split
      · exact hi.symm
      · rename_i hl; exact (List.getElem?_eq_none (Nat.not_lt.1 hl)).symm
    · rfl
  have hzero : min ys.length xs.length = 0 → cpL xs ys = xs := fun e => by unfold cpL; rw [e]; simp
  rcases hx0 with hx | ⟨_, hn0, _, a0, hx⟩
  rotate_left
  · have hxs : xs = [] := List.eq_nil_of_length_eq_zero (hn.trans hn0)
    rw [hzero (by simp [hxs]), hsame] at hkk
    refine wp_run (w' := w) (v := .int .i64 0) ?_ (hkk _ M w (mle.refl M) h (by simp [hxs]; rfl))
    obtain ⟨p, cy, hys, _⟩ := hy
    cases p <;> simp [execOp, ho, resolve, invoke, builtin, hx, hys, Builtin.copy_, run_underlying ht.u, Builtin.lenOf, Builtin.firstCells, sizeOf, typeInfo, hit, hl0, storeCells, goInt]
  rcases sl_firsts h hy with ⟨rfl, p, cy, hys⟩ | ⟨ad, cy, news, hpos, hys, hnl, hnews, hnall⟩
  · rw [hzero (by simp), hsame] at hkk
    refine wp_run (w' := w) (v := .int .i64 0) ?_ (hkk _ M w (mle.refl M) h (by simp; rfl))
    cases p <;> cases β <;> simp [execOp, ho, resolve, invoke, builtin, hx, hys, sv, Builtin.copy_, run_underlying ht.u, Builtin.lenOf, Builtin.firstCells, sizeOf, typeInfo, hit, hl0, storeCells, goInt]
  · by_cases hn0 : n = 0
    · have hx0 : xs = [] := List.eq_nil_of_length_eq_zero (hn.trans hn0)
      rw [hzero (by simp [hx0]), hsame] at hkk
      refine wp_run (w' := w) (v := .int .i64 0) ?_ (hkk _ M w (mle.refl M) h (by simp [hx0]; rfl))
      subst hn0
      cases β <;> simp [execOp, ho, resolve, invoke, builtin, hx, hys, sv, Builtin.copy_, run_underlying ht.u, Builtin.lenOf, Builtin.firstCells, sizeOf, typeInfo, hit, hl0, storeCells, goInt]
    · rcases how.2 with ⟨h3, h4⟩ | ⟨g, cap, cur, h3, _, hg', hnc, _⟩
      · exact absurd h4 hn0
      · cases β with
        | none => simp [sv] at h3
        | some b =>
          have hm : min ys.length n ≤ ys.length := Nat.min_le_left _ _
          have hcl : (news.take (min ys.length n * C.n)).length = min ys.length n * C.n := by
            rw [List.length_take, hnl]
            exact Nat.min_eq_left (Nat.mul_le_mul_right _ hm)
          have hload := run_loadCells_list (P := S.P) w ad (news.take (min ys.length n * C.n)) (fun j u hj => hnews j u (by
            rw [List.getElem?_take] at hj
            split at hj
            · exact hj
            · cases hj))
          rw [hcl] at hload
          have hcs : All2 M (flat C (ys.take (min ys.length n))) (news.take (min ys.length n * C.n)) := by
            have := hnall.take (min ys.length n * C.n)
            rwa [(flat_tk C ys _).1] at this
          have hlv : (flat C xs).length = vs.length := hall.len.symm
          have hfl := flat_len C xs
          have hle : min ys.length n * C.n ≤ vs.length := by
            rw [← hlv, hfl, hn]
            exact Nat.mul_le_mul_right _ (Nat.min_le_right _ _)
          obtain ⟨w', hr, ho', hg⟩ := run_storeCells_own (P := S.P) 0 (news.take (min ys.length n * C.n)) 0 w vs how (by rw [hcl]; omega) (All2.one hcs)
          refine wp_run (w' := w') (v := .int .i64 (min ys.length n : Nat)) ?_ (hkk _ M w' (mle.refl M) (h.put hi hg ⟨⟨_, ho', ?_⟩, hnone⟩ (.inl rfl)) (by rw [hn]; rfl))
          · simp [execOp, ho, resolve, invoke, builtin, hx, hys, sv, Builtin.copy_, run_underlying ht.u, Builtin.lenOf, Builtin.firstCells, sizeOf, typeInfo, hit, hs1, hload, hr, goInt]
          · simp only [Nat.zero_add, List.take_zero, List.nil_append, hcl]
            unfold cpL
            rw [hn, flat_app]
            refine hcs.app ?_
            have := hall.drop (min ys.length n * C.n)
            rwa [show (hO C (some b) c T n xs).ps = flat C xs from rfl, (flat_tk C xs _).2] at this
theorem t_min {x y : Operand} {u v : Int} {ts : Array TypeId} (ho : o.op = .call { callee := .builtin .min, args := #[x, y], argTypes := ts }) : Tr S o H H [(x, .vc (pI .i64 u)), (y, .vc (pI .i64 v))] (.vc (pI .i64 (min u v))) := by
  refine ⟨fun M w a hs hin K Q hk => ?_⟩
  have hx : a.eval x = .int .i64 u := hin.1
  have hy : a.eval y = .int .i64 v := hin.2.1
  have e : (if v < u then v else u) = min u v := by split <;> omega
  refine wp_run (v := .int .i64 (min u v)) ?_ (hk _ M w (mle.refl M) hs rfl)
  simp [execOp, ho, resolve, invoke, builtin, hx, hy, Builtin.min_, Builtin.min2, e]
theorem t_max {x y : Operand} {u v : Int} {ts : Array TypeId} (ho : o.op = .call { callee := .builtin .max, args := #[x, y], argTypes := ts }) : Tr S o H H [(x, .vc (pI .i64 u)), (y, .vc (pI .i64 v))] (.vc (pI .i64 (max u v))) := by
  refine ⟨fun M w a hs hin K Q hk => ?_⟩
  have hx : a.eval x = .int .i64 u := hin.1
  have hy : a.eval y = .int .i64 v := hin.2.1
  have e : (if v > u then v else u) = max u v := by split <;> omega
  refine wp_run (v := .int .i64 (max u v)) ?_ (hk _ M w (mle.refl M) hs rfl)
  simp [execOp, ho, resolve, invoke, builtin, hx, hy, Builtin.max_, Builtin.max2, e]
def bindB (e : Edge) : Bool := Region.binds .any e
def maskOf (ms : List Nat) (o : Oper) : Nat := o.after.toList.foldl (fun s e => bif bindB e then s ||| (2 ^ e.on ||| ms.getD e.on 0) else s) 0
/-- The masks that are handed in are right. -/
def mskB (ms : List Nat) : List Oper → List Nat → Bool
  | o :: l, m :: r => Nat.beq (maskOf ms o) m && mskB ms l r
  | [], [] => true
  | _, _ => false
theorem mskB_at {ms : List Nat} : ∀ {l : List Oper} {r : List Nat}, mskB ms l r = true → ∀ (i : Nat), (∀ o, l[i]? = some o → r[i]? = some (maskOf ms o)) ∧ (l[i]? = none → r[i]? = none)
  | [], [], _, i => ⟨fun o h => by simp at h, fun _ => by simp⟩
  | o :: l, m :: r, h, i => by
    simp only [mskB, Bool.and_eq_true] at h
    cases i with
    | zero => exact ⟨fun o' ho => by simp at ho; subst ho; simp [Nat.eq_of_beq_eq_true h.1], fun hn => by simp at hn⟩
    | succ i => simpa using mskB_at h.2 i
  | [], _ :: _, h, _ => by simp [mskB] at h
  | _ :: _, [], h, _ => by simp [mskB] at h
/-- The edges that bind lead back. -/
def backB : List Oper → Nat → Bool
  | [], _ => true
  | o :: l, i => o.after.toList.all (fun e => !bindB e || Nat.blt e.on i) && backB l (i + 1)
/-- What an operation may lean on. -/
structure Clo (ops : List Oper) (L : Nat → Prop) : Prop where
  h : ∀ (i : Nat) o, ops[i]? = some o → L i → ∀ e ∈ o.after.toList, bindB e = true → L e.on
theorem fold_bit {ms : List Nat} {j : Nat} : ∀ (es : List Edge) (s : Nat), (es.foldl (fun s e => bif bindB e then s ||| (2 ^ e.on ||| ms.getD e.on 0) else s) s).testBit j = true →
    s.testBit j = true ∨ ∃ e ∈ es, bindB e = true ∧ (e.on = j ∨ (ms.getD e.on 0).testBit j = true)
  | [], s, h => .inl h
  | e :: es, s, h => by
    simp only [List.foldl_cons] at h
    rcases fold_bit es _ h with h1 | ⟨e', he, hb, hj⟩
    · cases hb : bindB e with
      | false => rw [hb] at h1; simp at h1; exact .inl h1
      | true =>
        rw [hb] at h1
        simp only [cond_true, Nat.testBit_or, Bool.or_eq_true] at h1
        rcases h1 with h1 | h1 | h1
        · exact .inl h1
        · refine .inr ⟨e, by simp, hb, .inl ?_⟩
          simpa [Nat.testBit_two_pow] using h1
        · exact .inr ⟨e, by simp, hb, .inr h1⟩
    · exact .inr ⟨e', by simp [he], hb, hj⟩
theorem backB_at : ∀ {l : List Oper} {k : Nat}, backB l k = true → ∀ (i : Nat) o, l[i]? = some o → ∀ e ∈ o.after.toList, bindB e = true → e.on < k + i
  | [], _, _, i, o, ho => by simp at ho
  | x :: l, k, hk, i, o, ho => by
    intro e he hbe
    simp only [backB, Bool.and_eq_true] at hk
    cases i with
    | zero =>
      simp at ho; subst ho
      have := List.all_eq_true.1 hk.1 e he
      rw [hbe] at this
      simpa using this
    | succ i =>
      have := backB_at hk.2 i o (by simpa using ho) e he hbe
      omega
theorem msk_bit {L : Nat → Prop} {l : List Oper} {ms : List Nat} (hm : mskB ms l ms = true) (hb : backB l 0 = true) (i j : Nat) (hbit : (ms.getD i 0).testBit j = true) (hd : ∀ o, l[i]? = some o → ∀ e ∈ o.after.toList, bindB e = true → L e.on) (hc : Clo l L) : L j := by
  induction i using Nat.strongRecOn generalizing j with
  | _ i ih =>
    cases ho : l[i]? with
    | none =>
      rw [List.getD_eq_getElem?_getD, (mskB_at hm i).2 ho] at hbit
      simp at hbit
    | some o =>
      rw [List.getD_eq_getElem?_getD, (mskB_at hm i).1 o ho] at hbit
      rcases fold_bit _ _ hbit with h1 | ⟨e, he, hbe, hj⟩
      · simp at h1
      · have hon := hd o ho e he hbe
        have hlt := backB_at hb i o ho e he hbe
        rw [Nat.zero_add] at hlt
        rcases hj with rfl | hj
        · exact hon
        · exact ih e.on hlt j hj (fun o' ho' e' he' hb' => hc.h e.on o' ho' hon e' he' hb')
def dstIdx (d : Nat) : List Oper → Nat → Option Nat
  | [], _ => none
  | o :: l, i => match o.dst with
    | some x => bif Nat.beq x d then some i else dstIdx d l (i + 1)
    | none => dstIdx d l (i + 1)
theorem dstIdx_none {d : Nat} : ∀ {l : List Oper} {i : Nat}, dstIdx d l i = none → ∀ (j : Nat) o, l[j]? = some o → o.dst ≠ some d
  | [], _, _, j, o, ho => by simp at ho
  | x :: l, i, h, j, o, ho => by
    simp only [dstIdx] at h
    cases hx : x.dst with
    | none =>
      rw [hx] at h
      cases j with
      | zero => simp at ho; subst ho; rw [hx]; simp
      | succ j => exact dstIdx_none h j o (by simpa using ho)
    | some y =>
      rw [hx] at h
      cases hb : Nat.beq y d with
      | true => simp [hb] at h
      | false =>
        simp only [hb, cond_false] at h
        cases j with
        | zero =>
          simp at ho; subst ho; rw [hx]
          intro e
          simp only [Option.some.injEq] at e
          subst e; simp at hb
        | succ j => exact dstIdx_none h j o (by simpa using ho)
theorem dstIdx_some {d : Nat} : ∀ {l : List Oper} {i k : Nat}, dstIdx d l i = some k → i ≤ k ∧ ∃ o, l[k - i]? = some o ∧ o.dst = some d
  | [], _, _, h => by simp [dstIdx] at h
  | x :: l, i, k, h => by
    simp only [dstIdx] at h
    cases hx : x.dst with
    | none =>
      rw [hx] at h
      obtain ⟨h1, o, h2, h3⟩ := dstIdx_some h
      exact ⟨by omega, o, by rw [show k - i = (k - (i + 1)) + 1 by omega]; simpa using h2, h3⟩
    | some y =>
      rw [hx] at h
      cases hb : Nat.beq y d with
      | true =>
        simp only [hb, cond_true, Option.some.injEq] at h
        subst h
        exact ⟨Nat.le_refl _, x, by simp, by rw [hx, Nat.eq_of_beq_eq_true hb]⟩
      | false =>
        simp only [hb, cond_false] at h
        obtain ⟨h1, o, h2, h3⟩ := dstIdx_some h
        exact ⟨by omega, o, by rw [show k - i = (k - (i + 1)) + 1 by omega]; simpa using h2, h3⟩
/-- No two operations write one slot. -/
def uniqB : List Oper → Bool
  | [] => true
  | o :: l => (match o.dst with
    | some d => (dstIdx d l 0).isNone
    | none => true) && uniqB l
theorem uniq_eq : ∀ {l : List Oper}, uniqB l = true → ∀ {i j : Nat} {x y : Oper} {d : Nat}, l[i]? = some x → l[j]? = some y → x.dst = some d → y.dst = some d → i = j
  | [], _, i, j, x, y, d, hi, _, _, _ => by simp at hi
  | o :: l, h, i, j, x, y, d, hi, hj, hx, hy => by
    simp only [uniqB, Bool.and_eq_true] at h
    have hno : ∀ (k : Nat) z, l[k]? = some z → o.dst = some d → z.dst = some d → False := by
      intro k z hk ho hz
      have h1 := h.1
      rw [ho] at h1
      simp only [Option.isNone_iff_eq_none] at h1
      exact dstIdx_none h1 k z hk hz
    cases i with
    | zero =>
      cases j with
      | zero => rfl
      | succ j =>
        simp at hi hj
        subst hi
        exact (hno j y hj hx hy).elim
    | succ i =>
      cases j with
      | zero =>
        simp at hi hj
        subst hj
        exact (hno i x hi hy hx).elim
      | succ j => simp at hi hj; exact congrArg (· + 1) (uniq_eq h.2 hi hj hx hy)
/-- What an operation of such a region leaves: a value, a new variable, or a value that tells a new row's block and room. -/
inductive Ou
  | v (p : VP)
  | a (T : Nat) (zs : List CP)
  | g (f : Option Nat → Nat → VP)
abbrev Gh : Type := Nat → Option Nat × Nat
def Gh.set (G : Gh) (i : Nat) (x : Option Nat × Nat) : Gh := fun j => bif Nat.beq j i then x else G j
def Ou.val? (G : Gh) (j : Nat) : Option Ou → Option VP
  | some (.v p) => some p
  | some (.g f) => some (f (G j).1 (G j).2)
  | _ => none
/-- What a slot holds when operation i reads it. -/
def lookR (ops : List Oper) (ms : List Nat) (E : Env) (outs : List Ou) (G : Gh) (i d : Nat) : Option VP :=
  match dstIdx d ops 0 with
  | none => look E d
  | some j => bif (ms.getD i 0).testBit j then Ou.val? G j outs[j]? else bif (ms.getD j 0).testBit i then look E d else none
def LookD (ops : List Oper) (ms : List Nat) (E : Env) (outs : List Ou) (G : Gh) (i : Nat) : Operand → VP → Prop
  | .tmp d, p => lookR ops ms E outs G i d = some p
  | .const v, p => ∀ M, p.h M v
  | .func f, p => ∀ M, p.h M (.func (.func f) #[] #[])
  | .global _, _ => False
def SubD (ops : List Oper) (ms : List Nat) (E : Env) (outs : List Ou) (G : Gh) (i : Nat) : List (Operand × VP) → Prop
  | [] => True
  | (x, p) :: l => LookD ops ms E outs G i x p ∧ SubD ops ms E outs G i l
/-- How many operations that write ran before operation i, at least and at most. -/
def loB (ms hv : List Nat) (i : Nat) : Nat := hv.countP fun j => (ms.getD i 0).testBit j
def hiB (ms hv : List Nat) (i : Nat) : Nat := hv.countP fun j => !Nat.beq j i && !(ms.getD j 0).testBit i
def AllT (Φ : Nat → Prop) : Nat → Nat → Prop
  | _, 0 => True
  | lo, n + 1 => Φ lo ∧ AllT Φ (lo + 1) n
theorem AllT.at {Φ : Nat → Prop} : ∀ {n lo : Nat}, AllT Φ lo n → ∀ s, lo ≤ s → s < lo + n → Φ s
  | 0, lo, _, s, h1, h2 => by omega
  | n + 1, lo, h, s, h1, h2 => by
    by_cases e : s = lo
    · subst e; exact h.1
    · exact AllT.at h.2 s (by omega) (by omega)
/-- An operation of such a region. -/
inductive DOp (S : Sx) (Hs : Gh → Nat → List HA) (hv : List Nat) (ops : List Oper) (ms : List Nat) (E : Env) (outs : List Ou) (i : Nat) (o : Oper) : Ou → Prop
  | run {out : VP} {ins : Gh → List (Operand × VP)} {lo n : Nat} (t : AllT (fun s => ∀ G A, Tr S o (Hs G s ++ A) (Hs G s ++ A) (ins G) out) lo n) (hs : ∀ G, SubD ops ms E outs G i (ins G)) (hg : o.guard = none := by rfl) (h1 : loB ms hv i = lo := by rfl) (h2 : Nat.ble (hiB ms hv i + 1) (lo + n) = true := by rfl) (h3 : hv.contains i = false := by rfl) : DOp S Hs hv ops ms E outs i o (.v out)
  | runG {out : VP} {ins : Gh → List (Operand × VP)} {lo n : Nat} {j d : Nat} {b : Bool} (t : AllT (fun s => ∀ G A, Tr S o (Hs G s ++ A) (Hs G s ++ A) (ins G) out) lo n) (hs : ∀ G, SubD ops ms E outs G i (ins G)) (hg : o.guard = some (j, b) := by rfl) (hd : (ops[j]?).bind (·.dst) = some d := by rfl) (hl : ∀ G, lookR ops ms E outs G i d = some (.vc (pB b)) := by intro; rfl) (h1 : loB ms hv i = lo := by rfl) (h2 : Nat.ble (hiB ms hv i + 1) (lo + n) = true := by rfl) (h3 : hv.contains i = false := by rfl) : DOp S Hs hv ops ms E outs i o (.v out)
  | skip {j d : Nat} {b b' : Bool} (hg : o.guard = some (j, b) := by rfl) (hd : (ops[j]?).bind (·.dst) = some d := by rfl) (hl : ∀ G, lookR ops ms E outs G i d = some (.vc (pB b')) := by intro; rfl) (hb : (b' != b) = true := by rfl) (h3 : hv.contains i = false := by rfl) : DOp S Hs hv ops ms E outs i o (.v .any)
  | skipN {j d : Nat} {b b' : Bool} (hg : o.guard = some (j, b) := by rfl) (hd : (ops[j]?).bind (·.dst) = some d := by rfl) (hl : ∀ G, lookR ops ms E outs G i d = some (.vc (pB b')) := by intro; rfl) (hb : (b' != b) = true := by rfl) (h3 : hv.contains i = false := by rfl) : DOp S Hs hv ops ms E outs i o (.v .un)
  | skipU {j d : Nat} {b : Bool} (hg : o.guard = some (j, b) := by rfl) (hd : (ops[j]?).bind (·.dst) = some d := by rfl) (hl : ∀ G, lookR ops ms E outs G i d = some .un := by intro; rfl) (h3 : hv.contains i = false := by rfl) : DOp S Hs hv ops ms E outs i o (.v .un)
  | alc {T : Nat} {zs : List CP} (hz : TyZ S.P T zs) (ho : o.op = .alloc T := by rfl) (hg : o.guard = none := by rfl) (h3 : hv.contains i = false := by rfl) : DOp S Hs hv ops ms E outs i o (.a T zs)
  | hvy {out : Option Nat → Nat → VP} {ins : Gh → List (Operand × VP)} (s : Nat) (t : ∀ G A, Hv S o (Hs G s ++ A) (fun b c => Hs (G.set i (b, c)) (s + 1) ++ A) (ins G) out) (hs : ∀ G, SubD ops ms E outs G i (ins G)) (hg : o.guard = none := by rfl) (h1 : loB ms hv i = s := by rfl) (h2 : hiB ms hv i = s := by rfl) (h3 : hv.contains i = true := by rfl) : DOp S Hs hv ops ms E outs i o (.g out)
def DOps (S : Sx) (Hs : Gh → Nat → List HA) (hv : List Nat) (ops : List Oper) (ms : List Nat) (E : Env) (outs : List Ou) : Nat → List Oper → List Ou → Prop
  | _, _, [] => True
  | i, o :: l, out :: r => (o.dst.all (Nat.blt · S.N) = true ∧ DOp S Hs hv ops ms E outs i o out) ∧ DOps S Hs hv ops ms E outs (i + 1) l r
  | _, [], _ :: _ => False
theorem DOps.at {S : Sx} {Hs : Gh → Nat → List HA} {hv : List Nat} {ops : List Oper} {ms : List Nat} {E : Env} {outs : List Ou} : ∀ {k : Nat} {l : List Oper} {r : List Ou}, DOps S Hs hv ops ms E outs k l r → ∀ (i : Nat) out, r[i]? = some out → ∃ o, l[i]? = some o ∧ o.dst.all (Nat.blt · S.N) = true ∧ DOp S Hs hv ops ms E outs (k + i) o out
  | _, _, [], _, i, out, h => by simp at h
  | k, o :: l, out :: r, h, 0, out', h' => by
    simp at h'; subst h'; exact ⟨o, rfl, h.1.1, h.1.2⟩
  | k, o :: l, out :: r, h, i + 1, out', h' => by
    obtain ⟨o', h1, h2, h3⟩ := DOps.at h.2 i out' (by simpa using h')
    exact ⟨o', by simpa using h1, h2, by rwa [show k + (i + 1) = k + 1 + i by omega]⟩
  | _, [], _ :: _, h, _, _, _ => h.elim
/-- What an operation leaves, when the new variables and rows have their blocks. -/
def Ou.vp (bs : Nat → Nat) (G : Gh) (i : Nat) : Ou → VP
  | .v p => p
  | .a _ _ => .vc (pP (some (bs i)) 0)
  | .g f => f (G i).1 (G i).2
def entA (outs : List Ou) (bs : Nat → Nat) (i : Nat) : HA :=
  match outs[i]? with
  | some (.a T zs) => ⟨some (bs i), 1, T, zs.length, 1, zs⟩
  | _ => ⟨some (bs i), 1, 0, 0, 1, []⟩
/-- The tail's operations follow one another, and all the others. -/
def tailB (ops : List Oper) (ms : List Nat) (m : Nat) : Nat → Bool
  | 0 => true
  | n + 1 => tailB ops ms m n && Nat.beq ((ms.getD (m + n) 0) &&& (2 ^ (m + n) - 1)) (2 ^ (m + n) - 1)
theorem tailB_at {ops : List Oper} {ms : List Nat} {m : Nat} : ∀ {n : Nat}, tailB ops ms m n = true → ∀ t, t < n → ∀ j, j < m + t → (ms.getD (m + t) 0).testBit j = true
  | 0, _, t, ht, _, _ => by omega
  | n + 1, h, t, ht, j, hj => by
    simp only [tailB, Bool.and_eq_true] at h
    by_cases e : t = n
    · subst e
      have h2 := Nat.eq_of_beq_eq_true h.2
      have h3 : (2 ^ (m + t) - 1).testBit j = true := by simp [Nat.testBit_two_pow_sub_one, hj]
      rw [← h2, Nat.testBit_and, Bool.and_eq_true] at h3
      exact h3.1
    · exact tailB_at h.1 t (by omega) j hj
/-- How many of the operations that write have run. -/
def stg (hv : List Nat) (listed : Array Bool) : Nat := hv.countP fun j => listed.getD j false
/-- The state while such a region runs: which operations have run. -/
structure DI (S : Sx) (Hs : Gh → Nat → List HA) (hv : List Nat) (ops : List Oper) (E : Env) (outs : List Ou) (listed : Array Bool) (a : Act) (w : World) : Prop where
  sz : listed.size = ops.length
  clo : Clo ops (fun i => listed.getD i false = true)
  pre : ∀ i, listed.getD i false = true → i < outs.length
  st : ∃ (M : Mem) (bs : Nat → Nat) (ord : List Nat) (G : Gh), St S M w (Hs G (stg hv listed) ++ ord.map (entA outs bs)) ∧ ord.Nodup ∧ (∀ (i T : Nat) (zs : List CP), outs[i]? = some (.a T zs) → listed.getD i false = true → i ∈ ord) ∧ (∀ i ∈ ord, listed.getD i false = true) ∧
    a.tmps.size = S.N ∧ a.defers = [] ∧
    (∀ (i : Nat) out o d, outs[i]? = some out → ops[i]? = some o → o.dst = some d → listed.getD i false = true → ∃ v, a.tmps[d]? = some v ∧ (out.vp bs G i).h M v) ∧
    (∀ d p, look E d = some p → (∀ (i : Nat) o, ops[i]? = some o → o.dst = some d → listed.getD i false = false) → ∃ v, a.tmps[d]? = some v ∧ p.h M v)
theorem ready_mem {ops : Array Oper} {listed : Array Bool} {i : Nat} (h : i ∈ Region.ready .any ops listed) (hs : listed.size = ops.size) : listed.getD i false = false ∧ i < ops.size ∧ ∃ o, ops[i]? = some o ∧ ∀ e ∈ o.after.toList, bindB e = true → listed.getD e.on false = true := by
  unfold Region.ready at h
  obtain ⟨h1, h2⟩ := List.mem_filter.1 h
  have hi : i < ops.size := List.mem_range.1 h1
  simp only [Bool.and_eq_true] at h2
  refine ⟨?_, hi, ops[i], by simp [hi], fun e he hb => ?_⟩
  · have := h2.1
    have hl : i < listed.size := by omega
    simp only [Array.getD_eq_getD_getElem?, Array.getElem?_eq_getElem hl, Option.getD_some] at this ⊢
    simpa using this
  · have h3 := h2.2
    simp only [Array.getElem?_eq_getElem hi, Option.map_some, Option.getD_some] at h3
    have h4 := Array.all_eq_true'.1 h3 e (by simpa using he)
    unfold bindB at hb
    simpa [hb] using h4
end
end Go.Proofs.YtkjnngaceacmdaaGreat
