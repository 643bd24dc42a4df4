/- Rows inside an owned list: more places, cuts that are lent, ends. -/
import Derived.Test.YtkjnngaceacmdaaGreatK12
set_option linter.unusedVariables false
namespace Go.Proofs.YtkjnngaceacmdaaGreat

theorem stNA {α : Type} {C : Cd α} {T N k : Nat} {H A : List HA} {gs : List Hdr} {rs : List (List α)} {r : List α} (m : Nat) (hd : H.drop m = inn C T gs rs ++ A) (hl : LenOk gs rs) (h : rs.length = N) (hk : k < N) : setK H (m + k) (hO C (hdr gs k).1 (hdr gs k).2.2 T (hdr gs k).2.1 r) = some (H.take m ++ (inn C T gs (rs.set k r) ++ A)) := by
  rw [setK_m m hd (by rw [List.length_append, inn_len hl.1]; omega), inn_setA A hl.1 (by omega)]
/-- A row's place, and its length. -/
theorem inn_p {α : Type} {C : Cd α} {T N k : Nat} {H : List HA} {gs : List Hdr} {rs : List (List α)} (m : Nat) (hd : H.drop m = inn C T gs rs) (hl : LenOk gs rs) (h : rs.length = N) (hk : k < N) : H[m + k]? = some (hO C (hdr gs k).1 (hdr gs k).2.2 T (hdr gs k).2.1 (rs.getD k [])) :=
  at_m m hd (inn_at hl.1 (get_row h hk))
theorem inn_pA {α : Type} {C : Cd α} {T N k : Nat} {H A : List HA} {gs : List Hdr} {rs : List (List α)} (m : Nat) (hd : H.drop m = inn C T gs rs ++ A) (hl : LenOk gs rs) (h : rs.length = N) (hk : k < N) : H[m + k]? = some (hO C (hdr gs k).1 (hdr gs k).2.2 T (hdr gs k).2.1 (rs.getD k [])) :=
  at_m m hd (inn_atA A hl.1 (get_row h hk))
theorem row_len {α : Type} {N k : Nat} {gs : List Hdr} {rs : List (List α)} (hl : LenOk gs rs) (h : rs.length = N) (hk : k < N) : (rs.getD k []).length = (hdr gs k).2.1 := hl.2 _ _ (get_row h hk)
/-- A cut from a place on. -/
theorem cut_lo {α : Type} {ys zs : List α} {lo : Int} (h : slL ys lo (ys.length : Int) = some zs) : 0 ≤ lo ∧ lo ≤ (ys.length : Int) ∧ zs = ys.drop lo.toNat := by
  unfold slL at h
  split at h
  · rename_i hc
    refine ⟨hc.1, hc.2.1, ?_⟩
    have := Option.some.inj h
    rw [← this, List.take_of_length_le (by simp)]
  · cases h
theorem cut_hi {α : Type} {rs : List (List α)} {xs : List Nat} {zs : List (List α)} {n : Nat} {lo : Int} (h : slL (selL rs xs) lo ((selL rs xs).length : Int) = some zs) (hn : xs.length = n) : lo ≤ (n : Int) := by
  have := (cut_lo h).2.1
  rw [selL_len, hn] at this; exact this
theorem hdr_last {gs : List Hdr} {N : Nat} (g : Hdr) (h : gs.length = N) : hdr (gs ++ [g]) N = g := by
  subst h; simp [hdr]
section
variable {S : Sx} {κ : Kt} {H H' : List HA} {E : Env} {ops : Array Oper} {rest : List Oper} {o : Oper}
theorem r_unC {α : Type} {C : Cd α} {T T' n c : Nat} {β : Option Nat} {gs : List Hdr} {rs : List (List α)} {xs : List Nat} {cd : Code} (i m : Nat) (hd : H.drop m = inn C T gs rs) (hi : (H.take m)[i]? = some (hO (cH gs) β c T' n xs)) (hl : LenOk gs rs) (hx : ∀ k ∈ xs, k < rs.length)
    (k : WC S cd κ ((H.take m).set i (hO (cSl C) β c T' n (selL rs xs))) E) : WC S cd κ H E := fun a w hh => k a w (hs_unnest i m hd hi hl hx hh)
theorem r_nestL {α : Type} (C : Cd α) (T : Nat) (k : WL S ops κ rest (H ++ inn C T [] []) E) : WL S ops κ rest H E := by simpa [inn] using k
/-- What is lent: the first argument, a cut of a list of rows; the others are as they were. -/
theorem lend1 {α : Type} {C : Cd α} {P1 : CP} {zs ys : List (List α)} {q : List VP} (hz : zs = ys) (hlend : ∀ M w, St S M w H → ∃ Mb, mle M Mb ∧ Mok Mb w ∧ ∀ v, P1.h M v → (pS (cSl C) ys).h Mb v) :
    ∀ M w, St S M w H → ∃ Mb, mle M Mb ∧ Mok Mb w ∧ ∀ vs, AllV M (.vc P1 :: q) vs → AllV Mb (.vc (pS (cSl C) zs) :: q) vs := by
  subst hz
  intro M w h
  obtain ⟨Mb, h1, h2, h3⟩ := hlend M w h
  refine ⟨Mb, h1, h2, fun vs hvs => ?_⟩
  have mono : ∀ {ps : List VP} {us : List Value}, AllV M ps us → AllV Mb ps us := by
    intro ps
    induction ps with
    | nil => intro us hu; cases us with
      | nil => trivial
      | cons => exact hu.elim
    | cons p ps ih => intro us hu; cases us with
      | nil => exact hu.elim
      | cons u us => exact ⟨VP.mono h1 hu.1, ih hu.2⟩
  cases vs with
  | nil => exact hvs.elim
  | cons v vs => exact ⟨h3 v hvs.1, mono hvs.2⟩
theorem mid_perm (X R B : List HA) : ((X ++ B) ++ R).Perm ((X ++ R) ++ B) := by
  rw [List.append_assoc, List.append_assoc]
  exact List.perm_append_comm.append_left X
theorem recode {T c n : Nat} {β : Option Nat} {gs : List Hdr} {xs : List Nat} {N : Nat} (g : Hdr) (hN : gs.length = N) (hx : ∀ k ∈ xs, k < N) : hO (cH (gs ++ [g])) β c T n xs = hO (cH gs) β c T n xs := by
  show HA.mk β c T _ n _ = HA.mk β c T _ n _
  rw [cH_snoc g (fun k hk => hN ▸ hx k hk)]; rfl
theorem ve_last {gs : List Hdr} {N : Nat} (b : Option Nat) (n c : Nat) (h : gs.length = N) : VE (cH (gs ++ [(b, n, c)])) (.vc (pO b n c)) N := ⟨trivial, by show [_] = [_]; rw [hdr_last _ h]⟩
/-- A list of one new row, which is to go behind the others. -/
theorem t_bsH {t e bytes : Nat} {x : Operand} {gs : List Hdr} {α : Type} {rs : List (List α)} {b : Option Nat} {n c : Nat} (ho : o.op = .buildSlice t 1 ((List.range' 0 1).zip [x]).toArray) (ht : TyS S.P t e 1 bytes) (hl : gs.length = rs.length) (h : H' = H) :
    Tr S o H H' [(x, .vc (pO b n c))] (.vc (pS (cH (gs ++ [(b, n, c)])) [rs.length])) :=
  tr_cast (t_bs (C := cH (gs ++ [(b, n, c)])) (xs := [x]) (ps := [.vc (pO b n c)]) (zs := [rs.length]) ho ht rfl ⟨ve_last b n c hl, trivial⟩ rfl) h
/-- The end of a function that hands rows of a list back. -/
theorem r_doneA {P : Program} {fn : Func} {w0 : World} {M0 : Mem} {B : List Nat} {post : List HA → VP → Prop} {N : Nat} {e : Exit} {rs : List ResultVar} {ps : List VP} {R Ho : List HA} (he : e = .ret ∨ e = .normal) (hrs : fn.results = rs.toArray) (hv : RVs ⟨P, w0, M0, B, N⟩ H E rs ps) (hl : Nat.ble ps.length 4 = true)
    (m : Nat) (is : List Nat) (hd : H.drop m = R) (hp : pickH (H.take m) is = some Ho) (hn : is.Nodup) (hpost : post (Ho ++ R) (tupV ps)) :
    WX ⟨P, w0, M0, B, N⟩ e (.base (bodyPost P fn (Rp P w0 M0 B post))) H E := by
  rintro a w ⟨M, h1, h2⟩
  obtain ⟨vs, hall, hr⟩ := run_rvs h1 h2 hv
  have hres : (results fn a.tmps).run P w = .ok (if h : vs.toArray.size = 1 then vs.toArray[0] else .tuple vs.toArray) w := by
    have e : results fn a.tmps = (do let vs ← fn.results.mapM (rvOne a.tmps); pure (if h : vs.size = 1 then vs[0] else .tuple vs)) := rfl
    rw [e, hrs, List.mapM_toArray]
    simp [hr]
  rw [← List.take_append_drop m H, hd] at h1
  have hR : Rp P w0 M0 B post (.returned (if h : vs.toArray.size = 1 then vs.toArray[0] else .tuple vs.toArray)) w :=
    ⟨_, M, Ho ++ R, tupV ps, hpost, rfl, (h1.split hp hn).reN P 0, tup_h (by simpa using hl) hall⟩
  rcases he with rfl | rfl <;> exact ⟨h2.defers, _, hres, hR⟩
end
end Go.Proofs.YtkjnngaceacmdaaGreat
