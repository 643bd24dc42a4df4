/- Calls that are handed rows and variables while the rows of a list lie at the end. -/
import Derived.Test.YtkjnngaceacmdaaGreatK13
set_option linter.unusedVariables false
namespace Go.Proofs.YtkjnngaceacmdaaGreat
section
variable {S : Sx} {κ : Kt} {H H' : List HA} {E : Env} {ops : Array Oper} {rest : List Oper} {o : Oper}
theorem pickH_left {X Y : List HA} : ∀ (l : List Nat) (Z : List HA), pickH X l = some Z → pickH (X ++ Y) l = some Z
  | [], Z, h => by simpa [pickH] using h
  | i :: l, Z, h => by
    simp only [pickH] at h
    cases hxi : X[i]? with
    | none => rw [hxi] at h; simp at h
    | some e =>
      cases hr : pickH X l with
      | none => rw [hxi, hr] at h; simp at h
      | some Z' =>
        rw [hxi, hr] at h
        have hlt := (List.getElem?_eq_some_iff.1 hxi).1
        simp only [pickH, List.getElem?_append_left hlt, hxi, pickH_left l _ hr]
        exact h
theorem pick_two (X Y : List HA) : pickH (X ++ Y) (List.range' 0 X.length) = some X ∧ pickH (X ++ Y) (List.range' X.length Y.length) = some Y ∧ (List.range' 0 X.length ++ List.range' X.length Y.length).Nodup := by
  refine ⟨?_, pick_range Y _ _ rfl, ?_⟩
  · have := pick_range X 0 [] rfl
    exact pickH_left _ _ (by simpa using this)
  · rw [List.nodup_append]
    refine ⟨List.nodup_range', List.nodup_range', fun x hx y hy => ?_⟩
    simp only [List.mem_range'_1] at hx hy
    omega
/-- A call that is handed some of what is owned, and the rows at the end. -/
theorem r_callA {f d : Nat} {A B R : List HA} {pre : List VP} {post : List HA → VP → Prop} {xs : List Operand} {ts : Array TypeId} (m : Nat) (is js : List Nat) (ho : o.op = .call { callee := .value (.func f), args := xs.toArray, argTypes := ts }) (c : CtO S.P f (A ++ R) pre post) (hi : SubI E (xs.zip pre)) (hR : H.drop m = R) (h1 : pickH (H.take m) is = some A) (h2 : pickH (H.take m) js = some B) (hn : (is ++ js).Nodup)
    (k : ∀ Ho q, post Ho q → WL S ops κ rest (Ho ++ B) ((d, q) :: E)) (hl : xs.length = pre.length := by rfl)
    (hd : o.dst = some d := by rfl) (hg : o.guard = none := by rfl) (hN : Nat.blt d S.N = true := by rfl) : WL S ops κ (o :: rest) H E := by
  obtain ⟨p1, p2, p3⟩ := pick_two (A ++ R) B
  have key : WL S ops κ (o :: rest) ((A ++ R) ++ B) E := r_callO _ _ ho c hi p1 p2 p3 k hl hd hg hN
  rintro a w ⟨M, h3, h4⟩
  rw [← List.take_append_drop m H, hR] at h3
  have h5 := h3.split (pickH_app h1 h2) hn
  refine key a w ⟨M, h5.perm ?_, h4⟩
  rw [List.append_assoc, List.append_assoc]
  exact (List.perm_append_comm).append_left A
theorem r_eqX {e : Exit} (h : H' = H) (k : WX S e κ H' E) : WX S e κ H E := h ▸ k
theorem r_mergeX {α : Type} {C : Cd α} {T : Nat} {X' : List HA} {gs : List Hdr} {rs : List (List α)} {r : List α} {g : Hdr} {e : Exit} (i m : Nat) (hd : H.drop m = inn C T gs rs) (hi : (H.take m)[i]? = some (hO C g.1 g.2.2 T g.2.1 r)) (hX : delK (H.take m) i = some X') (hl : LenOk gs rs)
    (k : WX S e κ (X' ++ inn C T (gs ++ [g]) (rs ++ [r])) E) : WX S e κ H E := by
  rintro a w ⟨M, h1, h2⟩
  refine k a w ⟨M, ?_, h2⟩
  rw [← List.take_append_drop m H, hd] at h1
  refine h1.perm ?_
  rw [inn_snoc g r hl.1, delK_eq hX, ← List.append_assoc]
  have hlt := (List.getElem?_eq_some_iff.1 hi).1
  have e := (List.getElem?_eq_some_iff.1 hi).2
  have p1 : ((H.take m).eraseIdx i ++ [hO C g.1 g.2.2 T g.2.1 r]).Perm (H.take m) := by
    refine List.perm_append_comm.trans ?_
    rw [← e]
    exact erase_perm _ _ hlt
  refine (List.Perm.trans ?_ (p1.append_right (inn C T gs rs)))
  rw [List.append_assoc, List.append_assoc]
  exact (List.perm_append_comm (l₁ := inn C T gs rs)).append_left _
/-- What a place holds, spelt otherwise. -/
theorem r_reX {e : Exit} {p p' : VP} (d : Nat) (hl : look E d = some p) (he : p = p') (k : WX S e κ H ((d, p') :: E)) : WX S e κ H E := by
  subst he
  rintro a w ⟨M, h1, h2⟩
  refine k a w ⟨M, h1, h2.size, h2.defers, fun x q hx => ?_⟩
  by_cases hd : x = d
  · subst hd
    have : look ((x, p) :: E) x = some p := by simp [look]
    rw [this] at hx
    cases hx
    exact h2.get x p hl
  · refine h2.get x q ?_
    have : look ((d, p) :: E) x = look E x := by
      have e : Nat.beq d x = false := by
        cases hb : Nat.beq d x
        · rfl
        · exact absurd (Nat.eq_of_beq_eq_true hb).symm hd
      show (bif Nat.beq d x then some p else look E x) = look E x
      rw [e]; rfl
    rwa [← this]
theorem lt_snoc {a N : Nat} (h : a = N) : a < N + 1 := by omega
theorem lt_succ' {a N : Nat} (h : a < N) : a < N + 1 := by omega
theorem hdr_at {gs : List Hdr} {N : Nat} (g : Hdr) (h : gs.length = N) : VP.vc (pO g.1 g.2.1 g.2.2) = .vc (pO (hdr (gs ++ [g]) N).1 (hdr (gs ++ [g]) N).2.1 (hdr (gs ++ [g]) N).2.2) := by rw [hdr_last g h]
theorem apL_hx2 {xs ys : List Nat} {N j : Nat} (hx : ∀ k ∈ xs, k < N) (hj : j < N) (h : apL xs [j] = some ys) : ∀ k ∈ ys, k < N := by
  unfold apL at h
  split at h
  · simp only [Option.some.injEq] at h
    subst h
    intro k hk
    rcases List.mem_append.1 hk with h1 | h1
    · exact hx k h1
    · rw [List.mem_singleton.1 h1]; exact hj
  · cases h
/-- An operation of such a region that writes nothing. -/
theorem d0 {S : Sx} {Hs : Gh → Nat → List HA} {hv : List Nat} {ops : List Oper} {ms : List Nat} {E : Env} {outs : List Ou} {i : Nat} {o : Oper} {out : VP} {ins : Gh → List (Operand × VP)} {lo : Nat} (t : ∀ {G : Gh} {A : List HA}, Tr S o (Hs G lo ++ A) (Hs G lo ++ A) (ins G) out) (hs : ∀ {G : Gh}, SubD ops ms E outs G i (ins G)) (hd : o.dst.all (Nat.blt · S.N) = true := by rfl) (hg : o.guard = none := by rfl) (h1 : loB ms hv i = lo := by rfl) (h2 : Nat.ble (hiB ms hv i + 1) (lo + 1) = true := by rfl) (h3 : hv.contains i = false := by rfl) : o.dst.all (Nat.blt · S.N) = true ∧ DOp S Hs hv ops ms E outs i o (.v out) :=
  ⟨hd, .run (lo := lo) (n := 1) ⟨fun G A => t, trivial⟩ (fun G => hs) hg h1 h2 h3⟩
theorem d1 {S : Sx} {Hs : Gh → Nat → List HA} {hv : List Nat} {ops : List Oper} {ms : List Nat} {E : Env} {outs : List Ou} {i : Nat} {o : Oper} {out : VP} {ins : Gh → List (Operand × VP)} (lo : Nat) (t : ∀ {G : Gh} {A : List HA}, Tr S o (Hs G lo ++ A) (Hs G lo ++ A) (ins G) out) (hs : ∀ {G : Gh}, SubD ops ms E outs G i (ins G)) (hd : o.dst.all (Nat.blt · S.N) = true := by rfl) (hg : o.guard = none := by rfl) (h1 : loB ms hv i = lo := by rfl) (h2 : Nat.ble (hiB ms hv i + 1) (lo + 1) = true := by rfl) (h3 : hv.contains i = false := by rfl) : o.dst.all (Nat.blt · S.N) = true ∧ DOp S Hs hv ops ms E outs i o (.v out) :=
  ⟨hd, .run (lo := lo) (n := 1) ⟨fun G A => t, trivial⟩ (fun G => hs) hg h1 h2 h3⟩
theorem g0 {S : Sx} {Hs : Gh → Nat → List HA} {hv : List Nat} {ops : List Oper} {ms : List Nat} {E : Env} {outs : List Ou} {i : Nat} {o : Oper} {out : VP} {ins : Gh → List (Operand × VP)} {j d : Nat} {b : Bool} {lo : Nat} (t : ∀ {G : Gh} {A : List HA}, Tr S o (Hs G lo ++ A) (Hs G lo ++ A) (ins G) out) (hs : ∀ {G : Gh}, SubD ops ms E outs G i (ins G)) (hd : o.dst.all (Nat.blt · S.N) = true := by rfl) (hg : o.guard = some (j, b) := by rfl) (hdd : (ops[j]?).bind (·.dst) = some d := by rfl) (hl : ∀ G, lookR ops ms E outs G i d = some (.vc (pB b)) := by intro; rfl) (h1 : loB ms hv i = lo := by rfl) (h2 : Nat.ble (hiB ms hv i + 1) (lo + 1) = true := by rfl) (h3 : hv.contains i = false := by rfl) : o.dst.all (Nat.blt · S.N) = true ∧ DOp S Hs hv ops ms E outs i o (.v out) :=
  ⟨hd, .runG (lo := lo) (n := 1) ⟨fun G A => t, trivial⟩ (fun G => hs) hg hdd hl h1 h2 h3⟩
theorem g1 {S : Sx} {Hs : Gh → Nat → List HA} {hv : List Nat} {ops : List Oper} {ms : List Nat} {E : Env} {outs : List Ou} {i : Nat} {o : Oper} {out : VP} {ins : Gh → List (Operand × VP)} {j d : Nat} {b : Bool} (lo : Nat) (t : ∀ {G : Gh} {A : List HA}, Tr S o (Hs G lo ++ A) (Hs G lo ++ A) (ins G) out) (hs : ∀ {G : Gh}, SubD ops ms E outs G i (ins G)) (hd : o.dst.all (Nat.blt · S.N) = true := by rfl) (hg : o.guard = some (j, b) := by rfl) (hdd : (ops[j]?).bind (·.dst) = some d := by rfl) (hl : ∀ G, lookR ops ms E outs G i d = some (.vc (pB b)) := by intro; rfl) (h1 : loB ms hv i = lo := by rfl) (h2 : Nat.ble (hiB ms hv i + 1) (lo + 1) = true := by rfl) (h3 : hv.contains i = false := by rfl) : o.dst.all (Nat.blt · S.N) = true ∧ DOp S Hs hv ops ms E outs i o (.v out) :=
  ⟨hd, .runG (lo := lo) (n := 1) ⟨fun G A => t, trivial⟩ (fun G => hs) hg hdd hl h1 h2 h3⟩
end
end Go.Proofs.YtkjnngaceacmdaaGreat
