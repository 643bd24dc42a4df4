/-
  No cell of these rows narrows 'for every input' (looked for: loops, veiled, ifaces, maps, wideKeys, modest, calm, conditions, laid).
  DERIVED. THE GIVEN ROWS OF THIS SEAT. 7 by the template 'for every input the law returns true; each argument reads behind the call as it read before'; 0 by the template 'total and deterministic' (their statements: YtkjnngaceacmdaaGreatTotals.lean).
  GIVEN WITH THE SEED: the statements are not yours to turn. If you find one false, say at which input.
  Laid BY PROGRAM, IN A SANDBOX (cutbox-rows.mjs): the forced cells as the released guide's own fill.sh prints them over the translation 29abb3d4500ec655… (all of the seat's roots in one cut). By AI agents, Wed Nov 11 2026. No macro, syntax, notation, axiom, sorry.
-/
import Derived.Test.YtkjnngaceacmdaaGreatChecked
import GoSem.Claim
import GoSem.ClaimJoined
import GoSem.ClaimMapViews
import Derived.JoinedTies
import Derived.KernelRfl
namespace Go.Proofs.YtkjnngaceacmdaaGreat
/- THE CELL 'sum', in the pinned program and in every row, IS THE sha256 OF THE DUMP (.gsa) THAT YtkjnngaceacmdaaGreatProg.lean LOADS. Nothing in Lean hashes anything: it is a label: what it is worth is what the hold of that sum in a sandbox is worth. -/
noncomputable def Tryz.pinned : Pinned := { name := "ytkjnngaceacmdaagreat", sum := "29abb3d4500ec655b347014a22fa03b2505864ad07d200ffd7b4b4a700204115", checked := Tryz.checked }
namespace Rows
def none {H : Type} : Left H := { results := [], args := [] }

/-- 'gantrylaw21.EnergyMomenta': WHATEVER THE INPUT: true; the input reads as it did. -/
def energyMomentaSpec : ChangeSpec := { name := "energyMomenta", fn := fun _ => fun
  | [d1, d2, d3, d4] => { results := [.lit (.bool true)], args := [d1, d2, d3, d4] }
  | _ => none }
def energyMomentaRow : OpenClaim := { program := "ytkjnngaceacmdaagreat", sum := "29abb3d4500ec655b347014a22fa03b2505864ad07d200ffd7b4b4a700204115", func := "gantry/gantrylaw21.EnergyMomenta", spec := "energyMomenta", unfollowed := true, recurses := true, apart := false }
def EnergyMomentaSaid : Prop := energyMomentaRow.holds Tryz.pinned (OpenSpec.ofChange energyMomentaSpec)

/-- ITS FALSE NEIGHBOUR: 'it returns false'. Refute it at one input. -/
def energyMomentaWrong : ChangeSpec := { name := "energyMomenta", fn := fun _ => fun
  | [d1, d2, d3, d4] => { results := [.lit (.bool false)], args := [d1, d2, d3, d4] }
  | _ => none }
def EnergyMomentaWrongFalsely : Prop := energyMomentaRow.holds Tryz.pinned (OpenSpec.ofChange energyMomentaWrong)

/-- 'gantrylaw21.EnergyFree': WHATEVER THE INPUT: true; the input reads as it did. -/
def energyFreeSpec : ChangeSpec := { name := "energyFree", fn := fun _ => fun
  | [d1, d2] => { results := [.lit (.bool true)], args := [d1, d2] }
  | _ => none }
def energyFreeRow : OpenClaim := { program := "ytkjnngaceacmdaagreat", sum := "29abb3d4500ec655b347014a22fa03b2505864ad07d200ffd7b4b4a700204115", func := "gantry/gantrylaw21.EnergyFree", spec := "energyFree", unfollowed := true, recurses := true, apart := false }
def EnergyFreeSaid : Prop := energyFreeRow.holds Tryz.pinned (OpenSpec.ofChange energyFreeSpec)

/-- ITS FALSE NEIGHBOUR: 'it returns false'. Refute it at one input. -/
def energyFreeWrong : ChangeSpec := { name := "energyFree", fn := fun _ => fun
  | [d1, d2] => { results := [.lit (.bool false)], args := [d1, d2] }
  | _ => none }
def EnergyFreeWrongFalsely : Prop := energyFreeRow.holds Tryz.pinned (OpenSpec.ofChange energyFreeWrong)

/-- 'gantrylaw21.EnergySums': WHATEVER THE INPUT: true; the input reads as it did. -/
def energySumsSpec : ChangeSpec := { name := "energySums", fn := fun _ => fun
  | [d1, d2] => { results := [.lit (.bool true)], args := [d1, d2] }
  | _ => none }
def energySumsRow : OpenClaim := { program := "ytkjnngaceacmdaagreat", sum := "29abb3d4500ec655b347014a22fa03b2505864ad07d200ffd7b4b4a700204115", func := "gantry/gantrylaw21.EnergySums", spec := "energySums", unfollowed := true, recurses := true, apart := false }
def EnergySumsSaid : Prop := energySumsRow.holds Tryz.pinned (OpenSpec.ofChange energySumsSpec)

/-- ITS FALSE NEIGHBOUR: 'it returns false'. Refute it at one input. -/
def energySumsWrong : ChangeSpec := { name := "energySums", fn := fun _ => fun
  | [d1, d2] => { results := [.lit (.bool false)], args := [d1, d2] }
  | _ => none }
def EnergySumsWrongFalsely : Prop := energySumsRow.holds Tryz.pinned (OpenSpec.ofChange energySumsWrong)

/-- 'gantrylaw09.MatrixDets': WHATEVER THE INPUT: true; the input reads as it did. -/
def matrixDetsSpec : ChangeSpec := { name := "matrixDets", fn := fun _ => fun
  | [d1, d2, d3] => { results := [.lit (.bool true)], args := [d1, d2, d3] }
  | _ => none }
def matrixDetsRow : OpenClaim := { program := "ytkjnngaceacmdaagreat", sum := "29abb3d4500ec655b347014a22fa03b2505864ad07d200ffd7b4b4a700204115", func := "gantry/gantrylaw09.MatrixDets", spec := "matrixDets", unfollowed := true, recurses := true, apart := false }
def MatrixDetsSaid : Prop := matrixDetsRow.holds Tryz.pinned (OpenSpec.ofChange matrixDetsSpec)

/-- ITS FALSE NEIGHBOUR: 'it returns false'. Refute it at one input. -/
def matrixDetsWrong : ChangeSpec := { name := "matrixDets", fn := fun _ => fun
  | [d1, d2, d3] => { results := [.lit (.bool false)], args := [d1, d2, d3] }
  | _ => none }
def MatrixDetsWrongFalsely : Prop := matrixDetsRow.holds Tryz.pinned (OpenSpec.ofChange matrixDetsWrong)

/-- 'gantrylaw09.MatrixSolves': WHATEVER THE INPUT: true; the input reads as it did. -/
def matrixSolvesSpec : ChangeSpec := { name := "matrixSolves", fn := fun _ => fun
  | [d1, d2, d3, d4] => { results := [.lit (.bool true)], args := [d1, d2, d3, d4] }
  | _ => none }
def matrixSolvesRow : OpenClaim := { program := "ytkjnngaceacmdaagreat", sum := "29abb3d4500ec655b347014a22fa03b2505864ad07d200ffd7b4b4a700204115", func := "gantry/gantrylaw09.MatrixSolves", spec := "matrixSolves", unfollowed := true, recurses := true, apart := false }
def MatrixSolvesSaid : Prop := matrixSolvesRow.holds Tryz.pinned (OpenSpec.ofChange matrixSolvesSpec)

/-- ITS FALSE NEIGHBOUR: 'it returns false'. Refute it at one input. -/
def matrixSolvesWrong : ChangeSpec := { name := "matrixSolves", fn := fun _ => fun
  | [d1, d2, d3, d4] => { results := [.lit (.bool false)], args := [d1, d2, d3, d4] }
  | _ => none }
def MatrixSolvesWrongFalsely : Prop := matrixSolvesRow.holds Tryz.pinned (OpenSpec.ofChange matrixSolvesWrong)

/-- 'gantrylaw09.MatrixInverts': WHATEVER THE INPUT: true; the input reads as it did. -/
def matrixInvertsSpec : ChangeSpec := { name := "matrixInverts", fn := fun _ => fun
  | [d1, d2, d3] => { results := [.lit (.bool true)], args := [d1, d2, d3] }
  | _ => none }
def matrixInvertsRow : OpenClaim := { program := "ytkjnngaceacmdaagreat", sum := "29abb3d4500ec655b347014a22fa03b2505864ad07d200ffd7b4b4a700204115", func := "gantry/gantrylaw09.MatrixInverts", spec := "matrixInverts", unfollowed := true, recurses := true, apart := false }
def MatrixInvertsSaid : Prop := matrixInvertsRow.holds Tryz.pinned (OpenSpec.ofChange matrixInvertsSpec)

/-- ITS FALSE NEIGHBOUR: 'it returns false'. Refute it at one input. -/
def matrixInvertsWrong : ChangeSpec := { name := "matrixInverts", fn := fun _ => fun
  | [d1, d2, d3] => { results := [.lit (.bool false)], args := [d1, d2, d3] }
  | _ => none }
def MatrixInvertsWrongFalsely : Prop := matrixInvertsRow.holds Tryz.pinned (OpenSpec.ofChange matrixInvertsWrong)

/-- 'gantrylaw09.MatrixProducts': WHATEVER THE INPUT: true; the input reads as it did. -/
def matrixProductsSpec : ChangeSpec := { name := "matrixProducts", fn := fun _ => fun
  | [d1, d2, d3, d4, d5] => { results := [.lit (.bool true)], args := [d1, d2, d3, d4, d5] }
  | _ => none }
def matrixProductsRow : OpenClaim := { program := "ytkjnngaceacmdaagreat", sum := "29abb3d4500ec655b347014a22fa03b2505864ad07d200ffd7b4b4a700204115", func := "gantry/gantrylaw09.MatrixProducts", spec := "matrixProducts", unfollowed := true, recurses := true, apart := false }
def MatrixProductsSaid : Prop := matrixProductsRow.holds Tryz.pinned (OpenSpec.ofChange matrixProductsSpec)

/-- ITS FALSE NEIGHBOUR: 'it returns false'. Refute it at one input. -/
def matrixProductsWrong : ChangeSpec := { name := "matrixProducts", fn := fun _ => fun
  | [d1, d2, d3, d4, d5] => { results := [.lit (.bool false)], args := [d1, d2, d3, d4, d5] }
  | _ => none }
def MatrixProductsWrongFalsely : Prop := matrixProductsRow.holds Tryz.pinned (OpenSpec.ofChange matrixProductsWrong)

/- THE SECOND FORM. 'bulk': how many values and letters a reading holds, each counted each time it is reached (what is shared counts as often as it is met; a slice's spare places count too). A statement '..UptoSaid' is the law's where the arguments, and the package variables that the reading takes, are together of bulk at most 1048576: NARROWER than '..Said'. Prove '..Said' where nothing that the law and all that it calls make is longer than what came in: it says more and counts as full. Else prove '..UptoSaid'. A law counts once. -/
mutual
def uptoBulk {H : Type} : DataW H → Nat
  | .lit (.string bytes) => bytes.length + 1
  | .lit _ => 1
  | .nil => 1
  | .ptr d => uptoBulk d + 1
  | .slice elems spare => uptoBulkAll elems + uptoBulkAll spare + 1
  | .agg parts => uptoBulkAll parts + 1
  | .iface _ d => uptoBulk d + 1
  | .map entries => uptoBulkEntries entries + 1
  | .held _ => 1
def uptoBulkAll {H : Type} : List (DataW H) → Nat
  | [] => 0
  | d :: r => uptoBulk d + uptoBulkAll r
def uptoBulkEntries {H : Type} : List (Lit × DataW H) → Nat
  | [] => 0
  | x :: r => uptoBulkEntry x + uptoBulkEntries r
def uptoBulkEntry {H : Type} : Lit × DataW H → Nat
  | (.string bytes, d) => bytes.length + uptoBulk d + 1
  | (_, d) => uptoBulk d + 1
 end
def uptoSmall : (H : Type) → List (DataW H) → Bool := fun _ ds => decide (uptoBulkAll ds ≤ 1048576)
def OpenSpec.upto (s : _root_.Go.ChangeSpec) : _root_.Go.OpenSpec := { _root_.Go.OpenSpec.ofChange s with cond := some uptoSmall }

/-- 'gantrylaw21.EnergyMomenta', WHERE WHAT IT READS IS OF BULK AT MOST 1048576: true; the input reads as it did. -/
def energyMomentaUptoRow : OpenClaim := { program := "ytkjnngaceacmdaagreat", sum := "29abb3d4500ec655b347014a22fa03b2505864ad07d200ffd7b4b4a700204115", func := "gantry/gantrylaw21.EnergyMomenta", spec := "energyMomenta", unfollowed := true, recurses := true, apart := false, narrowed := true }
def EnergyMomentaUptoSaid : Prop := energyMomentaUptoRow.holds Tryz.pinned (OpenSpec.upto energyMomentaSpec)

/-- 'gantrylaw21.EnergyFree', WHERE WHAT IT READS IS OF BULK AT MOST 1048576: true; the input reads as it did. -/
def energyFreeUptoRow : OpenClaim := { program := "ytkjnngaceacmdaagreat", sum := "29abb3d4500ec655b347014a22fa03b2505864ad07d200ffd7b4b4a700204115", func := "gantry/gantrylaw21.EnergyFree", spec := "energyFree", unfollowed := true, recurses := true, apart := false, narrowed := true }
def EnergyFreeUptoSaid : Prop := energyFreeUptoRow.holds Tryz.pinned (OpenSpec.upto energyFreeSpec)

/-- 'gantrylaw21.EnergySums', WHERE WHAT IT READS IS OF BULK AT MOST 1048576: true; the input reads as it did. -/
def energySumsUptoRow : OpenClaim := { program := "ytkjnngaceacmdaagreat", sum := "29abb3d4500ec655b347014a22fa03b2505864ad07d200ffd7b4b4a700204115", func := "gantry/gantrylaw21.EnergySums", spec := "energySums", unfollowed := true, recurses := true, apart := false, narrowed := true }
def EnergySumsUptoSaid : Prop := energySumsUptoRow.holds Tryz.pinned (OpenSpec.upto energySumsSpec)

/-- 'gantrylaw09.MatrixDets', WHERE WHAT IT READS IS OF BULK AT MOST 1048576: true; the input reads as it did. -/
def matrixDetsUptoRow : OpenClaim := { program := "ytkjnngaceacmdaagreat", sum := "29abb3d4500ec655b347014a22fa03b2505864ad07d200ffd7b4b4a700204115", func := "gantry/gantrylaw09.MatrixDets", spec := "matrixDets", unfollowed := true, recurses := true, apart := false, narrowed := true }
def MatrixDetsUptoSaid : Prop := matrixDetsUptoRow.holds Tryz.pinned (OpenSpec.upto matrixDetsSpec)

/-- 'gantrylaw09.MatrixSolves', WHERE WHAT IT READS IS OF BULK AT MOST 1048576: true; the input reads as it did. -/
def matrixSolvesUptoRow : OpenClaim := { program := "ytkjnngaceacmdaagreat", sum := "29abb3d4500ec655b347014a22fa03b2505864ad07d200ffd7b4b4a700204115", func := "gantry/gantrylaw09.MatrixSolves", spec := "matrixSolves", unfollowed := true, recurses := true, apart := false, narrowed := true }
def MatrixSolvesUptoSaid : Prop := matrixSolvesUptoRow.holds Tryz.pinned (OpenSpec.upto matrixSolvesSpec)

/-- 'gantrylaw09.MatrixInverts', WHERE WHAT IT READS IS OF BULK AT MOST 1048576: true; the input reads as it did. -/
def matrixInvertsUptoRow : OpenClaim := { program := "ytkjnngaceacmdaagreat", sum := "29abb3d4500ec655b347014a22fa03b2505864ad07d200ffd7b4b4a700204115", func := "gantry/gantrylaw09.MatrixInverts", spec := "matrixInverts", unfollowed := true, recurses := true, apart := false, narrowed := true }
def MatrixInvertsUptoSaid : Prop := matrixInvertsUptoRow.holds Tryz.pinned (OpenSpec.upto matrixInvertsSpec)

/-- 'gantrylaw09.MatrixProducts', WHERE WHAT IT READS IS OF BULK AT MOST 1048576: true; the input reads as it did. -/
def matrixProductsUptoRow : OpenClaim := { program := "ytkjnngaceacmdaagreat", sum := "29abb3d4500ec655b347014a22fa03b2505864ad07d200ffd7b4b4a700204115", func := "gantry/gantrylaw09.MatrixProducts", spec := "matrixProducts", unfollowed := true, recurses := true, apart := false, narrowed := true }
def MatrixProductsUptoSaid : Prop := matrixProductsUptoRow.holds Tryz.pinned (OpenSpec.upto matrixProductsSpec)

end Rows
end Go.Proofs.YtkjnngaceacmdaaGreat
