/- Determinants by the first row; what row operations do to them. -/
import Derived.Test.YtkjnngaceacmdaaMR
set_option linter.unusedVariables false
namespace Go.Proofs.Ytkjnngaceacmdaa

structure Alt (h : Nat) (D : (Nat → Nat → Rat) → Rat) : Prop where
  cong : ∀ g g' : Nat → Nat → Rat, (∀ i, i < h → g i = g' i) → D g = D g'
  lin : ∀ (g : Nat → Nat → Rat) (u v : Nat → Rat) (a : Rat) (i : Nat), i < h → D (upd g i (fun c => u c - a * v c)) = D (upd g i u) - a * D (upd g i v)
  swap : ∀ (g : Nat → Nat → Rat) (i j : Nat), i < h → j < h → i ≠ j → D (swp g i j) = -(D g)
theorem Alt.zero {h : Nat} {D : (Nat → Nat → Rat) → Rat} (a : Alt h D) {g : Nat → Nat → Rat} {i : Nat} (hi : i < h) (hz : g i = fun _ => 0) : D g = 0 := by
  have := a.lin g (g i) (g i) 1 i hi
  have e : (fun c => g i c - 1 * g i c) = g i := by funext c; rw [hz]; grind
  have e2 : upd g i (g i) = g := by
    funext j
    unfold upd
    split
    · rename_i h; rw [h]
    · rfl
  rw [e, e2] at this
  grind
theorem upd_self {α : Type} {g : Nat → α} {i : Nat} : upd g i (g i) = g := by
  funext j
  unfold upd
  split
  · rename_i h; rw [h]
  · rfl
theorem Alt.same {h : Nat} {D : (Nat → Nat → Rat) → Rat} (a : Alt h D) {g : Nat → Nat → Rat} {i j : Nat} (hi : i < h) (hj : j < h) (hne : i ≠ j) (he : g i = g j) : D g = 0 := by
  have h1 := a.swap g i j hi hj hne
  have e : swp g i j = g := by
    funext l
    unfold swp
    split
    · rename_i h; rw [h, he]
    · split
      · rename_i h; rw [h, he]
      · rfl
  rw [e] at h1
  grind
theorem Alt.add {h : Nat} {D : (Nat → Nat → Rat) → Rat} (a : Alt h D) {g : Nat → Nat → Rat} {b : Rat} {i j : Nat} (hi : i < h) (hj : j < h) (hne : i ≠ j) : D (upd g i (fun c => g i c - b * g j c)) = D g := by
  rw [a.lin g (g i) (g j) b i hi, upd_self, a.same (g := upd g i (g j)) hi hj hne (by rw [upd_same, upd_ne (fun e => hne e.symm)])]
  grind
end Go.Proofs.Ytkjnngaceacmdaa
