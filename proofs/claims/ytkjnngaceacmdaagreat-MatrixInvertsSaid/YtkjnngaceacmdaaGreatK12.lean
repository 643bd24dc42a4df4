/- Rows that are owned inside a list that is owned. -/
import Derived.Test.YtkjnngaceacmdaaGreatD1
set_option linter.unusedVariables false
namespace Go.Proofs.YtkjnngaceacmdaaGreat

/-- A slice's block, length and room. -/
abbrev Hdr : Type := Option Nat × Nat × Nat
def hdr (gs : List Hdr) (k : Nat) : Hdr := gs.getD k (none, 0, 0)
/-- A list of such slices, each by its place among the rows. -/
def cH (gs : List Hdr) : Cd Nat := ⟨1, fun k => [pO (hdr gs k).1 (hdr gs k).2.1 (hdr gs k).2.2], fun _ => rfl⟩
/-- The rows. -/
def inn {α : Type} (C : Cd α) (T : Nat) : List Hdr → List (List α) → List HA
  | g :: gs, r :: rs => hO C g.1 g.2.2 T g.2.1 r :: inn C T gs rs
  | _, _ => []
theorem inn_at {α : Type} {C : Cd α} {T : Nat} : ∀ {gs : List Hdr} {rs : List (List α)} {k : Nat} {r : List α}, gs.length = rs.length → rs[k]? = some r → (inn C T gs rs)[k]? = some (hO C (hdr gs k).1 (hdr gs k).2.2 T (hdr gs k).2.1 r)
  | [], [], k, r, _, h => by simp at h
  | g :: gs, x :: rs, 0, r, _, h => by simp at h; subst h; rfl
  | g :: gs, x :: rs, k + 1, r, hl, h => by
    have := inn_at (C := C) (T := T) (gs := gs) (rs := rs) (k := k) (r := r) (by simpa using hl) (by simpa using h)
    simpa [inn, hdr] using this
  | [], _ :: _, _, _, hl, _ => by simp at hl
  | _ :: _, [], _, _, hl, _ => by simp at hl
theorem inn_set {α : Type} {C : Cd α} {T : Nat} : ∀ {gs : List Hdr} {rs : List (List α)} {k : Nat} {r : List α}, gs.length = rs.length → (inn C T gs rs).set k (hO C (hdr gs k).1 (hdr gs k).2.2 T (hdr gs k).2.1 r) = inn C T gs (rs.set k r)
  | [], [], k, r, _ => by simp [inn]
  | g :: gs, x :: rs, 0, r, _ => rfl
  | g :: gs, x :: rs, k + 1, r, hl => by
    have := inn_set (C := C) (T := T) (gs := gs) (rs := rs) (k := k) (r := r) (by simpa using hl)
    simp only [inn, List.set_cons_succ]
    rw [← this]; rfl
  | [], _ :: _, _, _, hl => by simp at hl
  | _ :: _, [], _, _, hl => by simp at hl
theorem inn_len {α : Type} {C : Cd α} {T : Nat} : ∀ {gs : List Hdr} {rs : List (List α)}, gs.length = rs.length → (inn C T gs rs).length = rs.length
  | [], [], _ => rfl
  | g :: gs, x :: rs, hl => by simp [inn, inn_len (C := C) (T := T) (gs := gs) (rs := rs) (by simpa using hl)]
  | [], _ :: _, hl => by simp at hl
  | _ :: _, [], hl => by simp at hl
theorem inn_snoc {α : Type} {C : Cd α} {T : Nat} (g : Hdr) (r : List α) : ∀ {gs : List Hdr} {rs : List (List α)}, gs.length = rs.length → inn C T (gs ++ [g]) (rs ++ [r]) = inn C T gs rs ++ [hO C g.1 g.2.2 T g.2.1 r]
  | [], [], _ => rfl
  | y :: gs, x :: rs, hl => by simp [inn, inn_snoc g r (C := C) (T := T) (gs := gs) (rs := rs) (by simpa using hl)]
  | [], _ :: _, hl => by simp at hl
  | _ :: _, [], hl => by simp at hl
/-- Another header behind the others changes nothing of what is there. -/
theorem cH_snoc {gs : List Hdr} (g : Hdr) {xs : List Nat} (h : ∀ k ∈ xs, k < gs.length) : flat (cH (gs ++ [g])) xs = flat (cH gs) xs := by
  induction xs with
  | nil => rfl
  | cons k xs ih =>
    have hk : hdr (gs ++ [g]) k = hdr gs k := by
      unfold hdr
      simp only [List.getD_eq_getElem?_getD]
      rw [List.getElem?_append_left (h k (by simp))]
    have e1 : (cH (gs ++ [g])).e k = (cH gs).e k := by simp only [cH, hk]
    have := ih fun j hj => h j (by simp [hj])
    simp only [flat, List.flatMap_cons] at this ⊢
    rw [e1, this]
/-- Where a row of such a list lies among all rows. -/
theorem at_m {H : List HA} {e : HA} {k : Nat} (m : Nat) {R : List HA} (hd : H.drop m = R) (h : R[k]? = some e) : H[m + k]? = some e := by
  subst hd
  rw [← h, List.getElem?_drop]
theorem setK_m : ∀ (m : Nat) {H R : List HA} {k : Nat} {x : HA}, H.drop m = R → k < R.length → setK H (m + k) x = some (H.take m ++ R.set k x)
  | 0, H, R, k, x, hd, hk => by
    simp only [List.drop_zero] at hd
    subst hd
    simp only [Nat.zero_add, List.take_zero, List.nil_append]
    have key : ∀ (H : List HA) (i : Nat) (x : HA), i < H.length → setK H i x = some (H.set i x) := by
      intro H
      induction H with
      | nil => intro i x h; simp at h
      | cons e H ih =>
        intro i x h
        cases i with
        | zero => rfl
        | succ i => simp [setK, ih i x (by simpa using h)]
    exact key H k x hk
  | m + 1, [], R, k, x, hd, hk => by simp at hd; subst hd; simp at hk
  | m + 1, e :: H, R, k, x, hd, hk => by
    have := setK_m m (H := H) (R := R) (k := k) (x := x) (by simpa using hd) hk
    rw [show m + 1 + k = (m + k) + 1 by omega]
    simp [setK, this]
theorem inn_atA {α : Type} {C : Cd α} {T : Nat} {gs : List Hdr} {rs : List (List α)} {k : Nat} {r : List α} (A : List HA) (hl : gs.length = rs.length) (h : rs[k]? = some r) : (inn C T gs rs ++ A)[k]? = some (hO C (hdr gs k).1 (hdr gs k).2.2 T (hdr gs k).2.1 r) := by
  have hk := (List.getElem?_eq_some_iff.1 h).1
  rw [List.getElem?_append_left (by rw [inn_len hl]; exact hk)]
  exact inn_at hl h
/-- The list that the places stand for. -/
def selL {α : Type} (rs : List (List α)) (xs : List Nat) : List (List α) := xs.map fun k => rs.getD k []
theorem selL_len {α : Type} (rs : List (List α)) (xs : List Nat) : (selL rs xs).length = xs.length := by simp [selL]
/-- What the headers say of the rows' lengths. -/
def LenOk {α : Type} (gs : List Hdr) (rs : List (List α)) : Prop := gs.length = rs.length ∧ ∀ k r, rs[k]? = some r → r.length = (hdr gs k).2.1
theorem get_row {α : Type} {rs : List (List α)} {N k : Nat} (h : rs.length = N) (hk : k < N) : rs[k]? = some (rs.getD k []) := by
  have : k < rs.length := by omega
  simp [List.getD_eq_getElem?_getD, List.getElem?_eq_getElem this]
theorem rdL_mem {α : Type} {xs : List α} {j : Int} {z : α} (h : rdL xs j = some z) : z ∈ xs := by
  obtain ⟨_, _, hz⟩ := rdL_some h
  exact List.mem_of_getElem? hz
theorem lt_len {α : Type} {rs : List (List α)} {N : Nat} {xs : List Nat} (h : rs.length = N) (hx : ∀ k ∈ xs, k < N) : ∀ k ∈ xs, k < rs.length := fun k hk => h ▸ hx k hk
theorem set_len {α : Type} {rs : List (List α)} {N k : Nat} {r : List α} (h : rs.length = N) : (rs.set k r).length = N := by simpa using h
theorem set_ok {α : Type} {gs : List Hdr} {rs : List (List α)} {N k : Nat} {r : List α} (hl : LenOk gs rs) (h : rs.length = N) (hk : k < N) (hr : r.length = (rs.getD k []).length) : LenOk gs (rs.set k r) := by
  refine ⟨by simpa using hl.1, fun j x hj => ?_⟩
  rw [List.getElem?_set] at hj
  split at hj
  · rename_i e; subst e
    split at hj
    · simp only [Option.some.injEq] at hj
      subst hj
      rw [hr]; exact hl.2 _ _ (get_row h hk)
    · cases hj
  · exact hl.2 j x hj
theorem stL_hx {xs ys : List Nat} {N k : Nat} {j : Int} (hx : ∀ k ∈ xs, k < N) (h : stL xs j k = some ys) (hk : k < N) : ∀ i ∈ ys, i < N := by
  unfold stL at h
  split at h
  · simp only [Option.some.injEq] at h
    subst h
    intro i hi
    rcases List.mem_or_eq_of_mem_set hi with h1 | h1
    · exact hx i h1
    · rw [h1]; exact hk
  · cases h
theorem apL_hx {α : Type} {rs : List (List α)} {xs ys : List Nat} {N : Nat} (hx : ∀ k ∈ xs, k < N) (hl : rs.length = N) (h : apL xs [rs.length] = some ys) : ∀ k ∈ ys, k < N + 1 := by
  unfold apL at h
  split at h
  · simp only [Option.some.injEq] at h
    subst h
    intro k hk
    rcases List.mem_append.1 hk with h1 | h1
    · have := hx k h1; omega
    · simp at h1; omega
  · cases h
theorem lenOk_nil {α : Type} : LenOk [] ([] : List (List α)) := ⟨rfl, fun k r h => by simp at h⟩
theorem lenOk_snoc {α : Type} {gs : List Hdr} {rs : List (List α)} {g : Hdr} {r : List α} (hl : LenOk gs rs) (hr : r.length = g.2.1) : LenOk (gs ++ [g]) (rs ++ [r]) := by
  refine ⟨by simp [hl.1], fun k x hk => ?_⟩
  rw [List.getElem?_append] at hk
  unfold hdr
  rw [List.getD_eq_getElem?_getD, List.getElem?_append]
  split at hk
  · rename_i hlt
    rw [if_pos (by rw [hl.1]; exact hlt)]
    have := hl.2 k x hk
    unfold hdr at this
    rwa [List.getD_eq_getElem?_getD] at this
  · rename_i hge
    rw [if_neg (by rw [hl.1]; exact hge), hl.1]
    by_cases e : k - rs.length = 0
    · rw [e] at hk ⊢; simp at hk ⊢; rw [← hk]; exact hr
    · obtain ⟨q, hq⟩ := Nat.exists_eq_succ_of_ne_zero e
      rw [hq] at hk; simp at hk
theorem snoc_len {α : Type} {rs : List (List α)} {N : Nat} {r : List α} (h : rs.length = N) : (rs ++ [r]).length = N + 1 := by simp [h]
/-- The store's place among the rows. -/
theorem stN {α : Type} {C : Cd α} {T N k : Nat} {H : List HA} {gs : List Hdr} {rs : List (List α)} {r : List α} (m : Nat) (hd : H.drop m = inn C T gs rs) (hl : LenOk gs rs) (h : rs.length = N) (hk : k < N) : setK H (m + k) (hO C (hdr gs k).1 (hdr gs k).2.2 T (hdr gs k).2.1 r) = some (H.take m ++ inn C T gs (rs.set k r)) := by
  rw [setK_m m hd (by rw [inn_len hl.1]; omega), inn_set hl.1]
section
variable {S : Sx} {κ : Kt} {H H' : List HA} {E : Env} {ops : Array Oper} {rest : List Oper} {o : Oper}
theorem pO_frz {α : Type} {C : Cd α} {xs : List α} {n c : Nat} {β : Option Nat} {M M' : Mem} {v : Value} (hn : xs.length = n) (h : (pO β n c).h M v) (hS : (pS C xs).h M' (sv β n c)) : (pS C xs).h M' v := by
  rcases h with rfl | ⟨_, h0, _, a0, rfl⟩
  · exact hS
  · have hx : xs = [] := List.eq_nil_of_length_eq_zero (hn.trans h0)
    subst hx
    exact ⟨_, _, rfl, by simp, by simp, fun j x hj => by simp at hj⟩
theorem St.frz_inn {α : Type} {C : Cd α} {T : Nat} {w : World} {pre : List HA} : ∀ {gs : List Hdr} {rs : List (List α)} {M : Mem}, LenOk gs rs → St S M w (pre ++ inn C T gs rs) →
    ∃ M', mle M M' ∧ St S M' w pre ∧ ∀ k r, rs[k]? = some r → (pS C r).h M' (sv (hdr gs k).1 (hdr gs k).2.1 (hdr gs k).2.2)
  | [], [], M, _, h => ⟨M, mle.refl M, by simpa [inn] using h, fun k r hk => by simp at hk⟩
  | g :: gs, x :: rs, M, hl, h => by
    have h0 := hl.2 0 x rfl
    obtain ⟨M1, g1, g2, g3⟩ := h.frzv (i := pre.length) (C := C) (xs := x) (β := g.1) (c := g.2.2) (T := T) (n := g.2.1) (by simp [inn]) h0
    have he : (pre ++ inn C T (g :: gs) (x :: rs)).eraseIdx pre.length = pre ++ inn C T gs rs := by
      rw [List.eraseIdx_append_of_length_le (Nat.le_refl _)]; simp [inn]
    rw [he] at g2
    obtain ⟨M2, k1, k2, k3⟩ := St.frz_inn (gs := gs) (rs := rs) ⟨by simpa using hl.1, fun k r hk => by
      have := hl.2 (k + 1) r (by simpa using hk)
      simpa [hdr] using this⟩ g2
    refine ⟨M2, g1.trans k1, k2, fun k r hk => ?_⟩
    cases k with
    | zero => simp at hk; subst hk; exact (pS C x).mono k1 g3
    | succ k => have := k3 k r (by simpa using hk); simpa [hdr] using this
  | [], _ :: _, _, hl, _ => by have := hl.1; simp at this
  | _ :: _, [], _, hl, _ => by have := hl.1; simp at this
theorem sel_all {α : Type} {C : Cd α} {gs : List Hdr} {rs : List (List α)} {M M' : Mem} (hl : LenOk gs rs) (hf : ∀ k r, rs[k]? = some r → (pS C r).h M' (sv (hdr gs k).1 (hdr gs k).2.1 (hdr gs k).2.2)) : ∀ {xs : List Nat} {vs : List Value}, (∀ k ∈ xs, k < rs.length) → All2 M (flat (cH gs) xs) vs → All2 M' (flat (cSl C) (selL rs xs)) vs
  | [], [], _, _ => trivial
  | [], _ :: _, _, h => h.elim
  | k :: xs, [], _, h => h.elim
  | k :: xs, v :: vs, hx, h => by
    have hk := hx k (by simp)
    have hr : rs[k]? = some rs[k] := List.getElem?_eq_getElem hk
    refine ⟨?_, sel_all hl hf (fun j hj => hx j (by simp [hj])) h.2⟩
    have h1 : (pO (hdr gs k).1 (hdr gs k).2.1 (hdr gs k).2.2).h M v := h.1
    have e1 : rs.getD k [] = rs[k] := by simp [List.getD_eq_getElem?_getD, hr]
    show (pS C (rs.getD k [])).h M' v
    rw [e1]
    exact pO_frz (hl.2 k _ hr) h1 (hf k _ hr)
/-- The rows are written no more; the list that holds them may be. -/
theorem hs_unnest {α : Type} {C : Cd α} {T T' n c : Nat} {β : Option Nat} {gs : List Hdr} {rs : List (List α)} {xs : List Nat} (i m : Nat) (hd : H.drop m = inn C T gs rs) (hi : (H.take m)[i]? = some (hO (cH gs) β c T' n xs)) (hl : LenOk gs rs) (hx : ∀ k ∈ xs, k < rs.length) {a : Act} {w : World} (h : hs S H E a w) :
    hs S ((H.take m).set i (hO (cSl C) β c T' n (selL rs xs))) E a w := by
  obtain ⟨M, h1, h2⟩ := h
  rw [← List.take_append_drop m H, hd] at h1
  obtain ⟨M', g1, g2, g3⟩ := h1.frz_inn hl
  obtain ⟨⟨vs, how, hall⟩, hnone⟩ := g2.own _ (List.mem_of_getElem? hi)
  exact ⟨M', g2.put hi (grown_refl w _) ⟨⟨vs, how, sel_all hl g3 hx hall⟩, hnone⟩ (.inl rfl), h2.mono g1⟩
theorem r_unL {α : Type} {C : Cd α} {T T' n c : Nat} {β : Option Nat} {gs : List Hdr} {rs : List (List α)} {xs : List Nat} (i m : Nat) (hd : H.drop m = inn C T gs rs) (hi : (H.take m)[i]? = some (hO (cH gs) β c T' n xs)) (hl : LenOk gs rs) (hx : ∀ k ∈ xs, k < rs.length)
    (k : WL S ops κ rest ((H.take m).set i (hO (cSl C) β c T' n (selL rs xs))) E) : WL S ops κ rest H E := fun a w hh => k a w (hs_unnest i m hd hi hl hx hh)
theorem erase_perm {α : Type} : ∀ (l : List α) (i : Nat) (h : i < l.length), ([l[i]] ++ l.eraseIdx i).Perm l
  | [], i, h => by simp at h
  | x :: l, 0, h => by simp
  | x :: l, i + 1, h => by
    have := erase_perm l i (by simpa using h)
    simp only [List.getElem_cons_succ, List.eraseIdx_cons_succ, List.singleton_append] at this ⊢
    exact (List.Perm.swap _ _ _).trans (this.cons x)
/-- A row that lies among the others goes to those of the list. -/
theorem r_mergeL {α : Type} {C : Cd α} {T : Nat} {X' : List HA} {gs : List Hdr} {rs : List (List α)} {r : List α} {g : Hdr} (i m : Nat) (hd : H.drop m = inn C T gs rs) (hi : (H.take m)[i]? = some (hO C g.1 g.2.2 T g.2.1 r)) (hX : delK (H.take m) i = some X') (hl : LenOk gs rs)
    (k : WL S ops κ rest (X' ++ inn C T (gs ++ [g]) (rs ++ [r])) E) : WL S ops κ rest H E := by
  rintro a w ⟨M, h1, h2⟩
  refine k a w ⟨M, ?_, h2⟩
  rw [← List.take_append_drop m H, hd] at h1
  refine h1.perm ?_
  rw [inn_snoc g r hl.1, delK_eq hX, ← List.append_assoc]
  have hlt := (List.getElem?_eq_some_iff.1 hi).1
  have e := (List.getElem?_eq_some_iff.1 hi).2
  have p1 : ((H.take m).eraseIdx i ++ [hO C g.1 g.2.2 T g.2.1 r]).Perm (H.take m) := by
    refine List.perm_append_comm.trans ?_
    rw [← e]
    exact erase_perm _ _ hlt
  refine (List.Perm.trans ?_ (p1.append_right (inn C T gs rs)))
  rw [List.append_assoc, List.append_assoc]
  exact List.perm_append_comm.append_left _
theorem tr_cast {ins : List (Operand × VP)} {out : VP} (t : Tr S o H H ins out) (h : H' = H) : Tr S o H H' ins out := h ▸ t
/-- A cut of a slice that is owned, from a place on. -/
def pC (P0 : CP) (l sz : Nat) : CP := ⟨fun M v => ∃ p n c, P0.h M (.slice p n c) ∧ l ≤ n ∧ n ≤ c ∧ v = .slice (if c = l then p else p.map (·.add (l * sz))) (n - l) (c - l),
  fun hm ⟨p, n, c, h1, h2⟩ => ⟨p, n, c, P0.mono hm h1, h2⟩, fun h => by obtain ⟨p, n, c, _, _, _, rfl⟩ := h; rfl⟩
theorem t_cutC {t e k0 bytes n c i : Nat} {β : Option Nat} {x y : Operand} {lo : Int} {k : IntKind} {ea : HA} (ho : o.op = .slice t x (some y) none none) (ht : TyS S.P t e k0 bytes) (hi : H[i]? = some ea) (hβ : ea.β = β) (hc : ea.c = c) (hn : ea.n = n) (h0 : 0 ≤ lo) (hl : lo ≤ (n : Int)) :
    Tr S o H H [(x, .vc (pO β n c)), (y, .vc (pI k lo))] (.vc (pC (pO β n c) lo.toNat k0)) := by
  refine ⟨fun M w a hs hin K Q hk => ?_⟩
  have hy : a.eval y = .int k lo := hin.2.1
  obtain ⟨it, hit, hk', _⟩ := ht.s
  obtain ⟨⟨vs, how, _⟩, _⟩ := hs.own ea (List.mem_of_getElem? hi)
  rw [hβ, hc, hn] at how
  have hform : ∃ p cc, a.eval x = .slice p n cc ∧ n ≤ cc ∧ (pO β n c).h M (.slice p n cc) := by
    rcases hin.1 with hx | ⟨h1, h2, h3, a0, hx⟩
    · rcases how.2 with ⟨h3, h4⟩ | ⟨g, cap, cur, h3, _, _, hnc, _⟩
      · refine ⟨none, 0, by rw [hx, h3, h4], by omega, .inl (by rw [h3, h4])⟩
      · exact ⟨some ⟨g, 0, none⟩, cap, by rw [hx, h3], hnc, .inl h3.symm⟩
    · exact ⟨some a0, 0, by rw [hx, h2], by omega, .inr ⟨h1, h2, h3, a0, by rw [h2]⟩⟩
  obtain ⟨p, cc, hx, hnc, hp⟩ := hform
  refine wp_run (v := .slice (if cc = lo.toNat then p else p.map (·.add (lo.toNat * k0))) (n - lo.toNat) (cc - lo.toNat)) ?_ (hk _ M w (mle.refl M) hs ⟨p, n, cc, hp, by omega, hnc, rfl⟩)
  have hb := run_sb (P := S.P) (w := w) (k := k) (i := lo) (y := n) (code := .sliceB) h0 hl
  simp [execOp, ho, hx, hy, Instr.sliceAt, Instr.slice, Instr.sliceBounds, run_underlying ht.u, sizeOf, typeInfo, hit, hk', hb]
/-- What is lent of a list that holds rows: the cut of it, as if nothing wrote the rows any more. -/
theorem lend_cut {α : Type} {C : Cd α} {T T' n c l : Nat} {β : Option Nat} {gs : List Hdr} {rs : List (List α)} {xs : List Nat} (i m : Nat) (A : List HA) (hd : H.drop m = inn C T gs rs ++ A) (hi : (H.take m)[i]? = some (hO (cH gs) β c T' n xs)) (hl : LenOk gs rs) (hx : ∀ k ∈ xs, k < rs.length) (hn : xs.length = n) :
    ∀ M w, St S M w H → ∃ Mb, mle M Mb ∧ Mok Mb w ∧ ∀ v, (pC (pO β n c) l 1).h M v → (pS (cSl C) ((selL rs xs).drop l)).h Mb v := by
  intro M w h
  have hp : (H.take m ++ inn C T gs rs).Sublist H := by
    have : H = H.take m ++ (inn C T gs rs ++ A) := by rw [← hd, List.take_append_drop]
    conv => rhs; rw [this]
    exact List.Sublist.append (List.Sublist.refl _) (List.sublist_append_left _ _)
  have h1 := h.sub (fun e he => hp.subset he) ((hp.filterMap _).nodup h.nodup)
  obtain ⟨M', g1, g2, g3⟩ := h1.frz_inn hl
  obtain ⟨⟨vs, how, hall⟩, hnone⟩ := g2.own _ (List.mem_of_getElem? hi)
  have g4 : St S M' w ((H.take m).set i (hO (cSl C) β c T' n (selL rs xs))) := g2.put hi (grown_refl w _) ⟨⟨vs, how, sel_all hl g3 hx hall⟩, hnone⟩ (.inl rfl)
  have hil := (List.getElem?_eq_some_iff.1 hi).1
  obtain ⟨Mb, k1, k2, k3⟩ := g4.frzv (i := i) (C := cSl C) (xs := selL rs xs) (by rw [List.getElem?_set_self hil]) ((selL_len rs xs).trans hn)
  refine ⟨Mb, g1.trans k1, k2.mem, fun v hv => ?_⟩
  obtain ⟨p, n', c', hv1, hv2, hv3, rfl⟩ := hv
  have hS := pO_frz (C := cSl C) (M' := Mb) ((selL_len rs xs).trans hn) hv1 k3
  have hn' : n' = (selL rs xs).length := by
    obtain ⟨_, _, e, _⟩ := hS
    simp only [Value.slice.injEq] at e
    exact e.2.1
  subst hn'
  have := pS_cut (l := l) (h := (selL rs xs).length) (m := c') hS hv2 (Nat.le_refl _) hv3 (Nat.le_refl _)
  rwa [List.take_of_length_le (by simp)] at this
/-- Of the first rows some are kept; those behind them all. -/
theorem St.split {M : Mem} {w : World} {X X' R : List HA} {l : List Nat} (h : St S M w (X ++ R)) (hp : pickH X l = some X') (hl : l.Nodup) : St S M w (X' ++ R) := by
  have hn := h.nodup
  rw [List.filterMap_append] at hn
  obtain ⟨n1, n2, n3⟩ := List.nodup_append.1 hn
  have hX : St S M w X := h.sub (fun e he => List.mem_append.2 (.inl he)) n1
  have hX' := hX.pick hp hl
  have hm : ∀ e ∈ X', e ∈ X := fun e he => by
    obtain ⟨j, hj⟩ := List.getElem?_of_mem he
    obtain ⟨i, _, hi⟩ := pickH_mem hp j e hj
    exact List.mem_of_getElem? hi
  refine h.sub (fun e he => ?_) ?_
  · rcases List.mem_append.1 he with he | he
    · exact List.mem_append.2 (.inl (hm e he))
    · exact List.mem_append.2 (.inr he)
  · rw [List.filterMap_append]
    refine List.nodup_append.2 ⟨hX'.nodup, n2, fun x hx y hy => n3 x ?_ y hy⟩
    obtain ⟨e, he, heb⟩ := List.mem_filterMap.1 hx
    exact List.mem_filterMap.2 ⟨e, hm e he, heb⟩
theorem hs_backA {X' R : List HA} {E' : Env} (m : Nat) (l : List Nat) (hd : H.drop m = R) (hp : pickH (H.take m) l = some X') (hl : l.Nodup) (hE : SubE E E') {a : Act} {w : World} (h : hs S H E a w) : hs S (X' ++ R) E' a w := by
  obtain ⟨M, h1, h2⟩ := h
  rw [← List.take_append_drop m H, hd] at h1
  exact ⟨M, h1.split hp hl, h2.size, h2.defers, fun d p hd => h2.get d p (hE.get d p hd)⟩
theorem r_backA {PJ : List HA → Env → Prop} {X' R : List HA} {E' : Env} (J : ∀ H E, PJ H E → WX S .normal κ H E) (h : PJ (X' ++ R) E') (m : Nat) (l : List Nat) (hd : H.drop m = R) (hp : pickH (H.take m) l = some X') (hE : SubE E E') (hl : l.Nodup := by decide) : WX S .normal κ H E :=
  fun a w hh => J _ _ h a w (hs_backA m l hd hp hl hE hh)
theorem pickH_app {X A B : List HA} : ∀ {is js : List Nat}, pickH X is = some A → pickH X js = some B → pickH X (is ++ js) = some (A ++ B)
  | [], js, h1, h2 => by simp [pickH] at h1; subst h1; simpa using h2
  | i :: is, js, h1, h2 => by
    simp only [pickH] at h1
    cases hi : X[i]? with
    | none => rw [hi] at h1; simp at h1
    | some e =>
      cases hr : pickH X is with
      | none => rw [hi, hr] at h1; simp at h1
      | some A' =>
        rw [hi, hr] at h1
        simp only [Option.some.injEq] at h1
        subst h1
        have := pickH_app hr h2
        simp [pickH, hi, this]
/-- A call of a function value that is handed rows, those at the end among them. -/
theorem r_callvA {f d : Nat} {cs : List CP} {A B R : List HA} {pre : List VP} {post : List HA → VP → Prop} {xs : List Operand} {y : Operand} {ts : Array TypeId} (m : Nat) (is js : List Nat) (ho : o.op = .call { callee := .value y, args := xs.toArray, argTypes := ts }) (c : CtO S.P f (A ++ R) (pre ++ cs.map .vc) post) (hi : SubI E ((y, .vc (pF f cs)) :: xs.zip pre)) (hR : H.drop m = R) (h1 : pickH (H.take m) is = some A) (h2 : pickH (H.take m) js = some B) (hn : (is ++ js).Nodup)
    (k : ∀ Ho q, post Ho q → WL S ops κ rest (Ho ++ B) ((d, q) :: E)) (hl : xs.length = pre.length := by rfl)
    (hd : o.dst = some d := by rfl) (hg : o.guard = none := by rfl) (hN : Nat.blt d S.N = true := by rfl) : WL S ops κ (o :: rest) H E := by
  have key : WL S ops κ (o :: rest) ((A ++ R) ++ B) E := by
    refine r_callvO (List.range' 0 (A ++ R).length) (List.range' (A ++ R).length B.length) ho c hi ?_ (pick_range B _ _ rfl) ?_ k hl hd hg hN
    · have := pick_range (A ++ R) 0 [] rfl
      have e : ∀ (X Y : List HA) (l : List Nat) (Z : List HA), pickH X l = some Z → pickH (X ++ Y) l = some Z := by
        intro X Y l
        induction l with
        | nil => intro Z hz; simpa [pickH] using hz
        | cons i l ih =>
          intro Z hz
          simp only [pickH] at hz
          cases hxi : X[i]? with
          | none => rw [hxi] at hz; simp at hz
          | some e =>
            cases hr : pickH X l with
            | none => rw [hxi, hr] at hz; simp at hz
            | some Z' =>
              rw [hxi, hr] at hz
              have hlt := (List.getElem?_eq_some_iff.1 hxi).1
              simp only [pickH, List.getElem?_append_left hlt, hxi, ih _ hr]
              exact hz
      exact e _ _ _ _ (by simpa using this)
    · rw [List.nodup_append]
      refine ⟨List.nodup_range', List.nodup_range', fun x hx y hy => ?_⟩
      simp only [List.mem_range'_1] at hx hy
      omega
  rintro a w ⟨M, h3, h4⟩
  rw [← List.take_append_drop m H, hR] at h3
  have h5 := h3.split (pickH_app h1 h2) hn
  refine key a w ⟨M, h5.perm ?_, h4⟩
  rw [List.append_assoc, List.append_assoc]
  exact (List.perm_append_comm).append_left A
end
end Go.Proofs.YtkjnngaceacmdaaGreat
