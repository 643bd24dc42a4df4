/-
  No cell of these rows narrows 'for every input' (looked for: loops, veiled, ifaces, maps, wideKeys, modest, calm, conditions, laid).
  DERIVED. THE GIVEN ROWS OF THIS SEAT. 4 by the template 'for every input the law returns true; each argument reads behind the call as it read before'; 0 by the template 'total and deterministic' (their statements: YtldhbdgfpjoamaaGreatTotals.lean).
  GIVEN WITH THE SEED: the statements are not yours to turn. If you find one false, say at which input.
  Laid BY PROGRAM, IN A SANDBOX (cutbox-rows.mjs): the forced cells as the released guide's own fill.sh prints them over the translation e7254f9e62e26e75… (all of the seat's roots in one cut). By AI agents, Wed Nov 11 2026. No macro, syntax, notation, axiom, sorry.
-/
import Derived.Test.YtldhbdgfpjoamaaGreatChecked
import GoSem.Claim
import GoSem.ClaimJoined
import GoSem.ClaimMapViews
import Derived.JoinedTies
import Derived.KernelRfl
namespace Go.Proofs.YtldhbdgfpjoamaaGreat
/- THE CELL 'sum', in the pinned program and in every row, IS THE sha256 OF THE DUMP (.gsa) THAT YtldhbdgfpjoamaaGreatProg.lean LOADS. Nothing in Lean hashes anything: it is a label: what it is worth is what the hold of that sum in a sandbox is worth. -/
noncomputable def Tryz.pinned : Pinned := { name := "ytldhbdgfpjoamaagreat", sum := "e7254f9e62e26e7526eca87b5221d6c9c61554b7f5cbc0b62123f8d5779bc71d", checked := Tryz.checked }
namespace Rows
def none {H : Type} : Left H := { results := [], args := [] }

/-- 'gantrylaw21.EnergyPresses': WHATEVER THE INPUT: true; the input reads as it did. -/
def energyPressesSpec : ChangeSpec := { name := "energyPresses", fn := fun _ => fun
  | [d1, d2, d3] => { results := [.lit (.bool true)], args := [d1, d2, d3] }
  | _ => none }
def energyPressesRow : OpenClaim := { program := "ytldhbdgfpjoamaagreat", sum := "e7254f9e62e26e7526eca87b5221d6c9c61554b7f5cbc0b62123f8d5779bc71d", func := "gantry/gantrylaw21.EnergyPresses", spec := "energyPresses", unfollowed := true, recurses := true, apart := false }
def EnergyPressesSaid : Prop := energyPressesRow.holds Tryz.pinned (OpenSpec.ofChange energyPressesSpec)

/-- ITS FALSE NEIGHBOUR: 'it returns false'. Refute it at one input. -/
def energyPressesWrong : ChangeSpec := { name := "energyPresses", fn := fun _ => fun
  | [d1, d2, d3] => { results := [.lit (.bool false)], args := [d1, d2, d3] }
  | _ => none }
def EnergyPressesWrongFalsely : Prop := energyPressesRow.holds Tryz.pinned (OpenSpec.ofChange energyPressesWrong)

/-- 'gantrylaw19.PressChecks': WHATEVER THE INPUT: true; the input reads as it did. -/
def pressChecksSpec : ChangeSpec := { name := "pressChecks", fn := fun _ => fun
  | [d1, d2, d3, d4, d5] => { results := [.lit (.bool true)], args := [d1, d2, d3, d4, d5] }
  | _ => none }
def pressChecksRow : OpenClaim := { program := "ytldhbdgfpjoamaagreat", sum := "e7254f9e62e26e7526eca87b5221d6c9c61554b7f5cbc0b62123f8d5779bc71d", func := "gantry/gantrylaw19.PressChecks", spec := "pressChecks", unfollowed := true, recurses := true, apart := false }
def PressChecksSaid : Prop := pressChecksRow.holds Tryz.pinned (OpenSpec.ofChange pressChecksSpec)

/-- ITS FALSE NEIGHBOUR: 'it returns false'. Refute it at one input. -/
def pressChecksWrong : ChangeSpec := { name := "pressChecks", fn := fun _ => fun
  | [d1, d2, d3, d4, d5] => { results := [.lit (.bool false)], args := [d1, d2, d3, d4, d5] }
  | _ => none }
def PressChecksWrongFalsely : Prop := pressChecksRow.holds Tryz.pinned (OpenSpec.ofChange pressChecksWrong)

/-- 'gantrylaw19.PressScaled': WHATEVER THE INPUT: true; the input reads as it did. -/
def pressScaledSpec : ChangeSpec := { name := "pressScaled", fn := fun _ => fun
  | [d1, d2, d3] => { results := [.lit (.bool true)], args := [d1, d2, d3] }
  | _ => none }
def pressScaledRow : OpenClaim := { program := "ytldhbdgfpjoamaagreat", sum := "e7254f9e62e26e7526eca87b5221d6c9c61554b7f5cbc0b62123f8d5779bc71d", func := "gantry/gantrylaw19.PressScaled", spec := "pressScaled", unfollowed := true, recurses := true, apart := false }
def PressScaledSaid : Prop := pressScaledRow.holds Tryz.pinned (OpenSpec.ofChange pressScaledSpec)

/-- ITS FALSE NEIGHBOUR: 'it returns false'. Refute it at one input. -/
def pressScaledWrong : ChangeSpec := { name := "pressScaled", fn := fun _ => fun
  | [d1, d2, d3] => { results := [.lit (.bool false)], args := [d1, d2, d3] }
  | _ => none }
def PressScaledWrongFalsely : Prop := pressScaledRow.holds Tryz.pinned (OpenSpec.ofChange pressScaledWrong)

/-- 'gantrylaw19.PressSolves': WHATEVER THE INPUT: true; the input reads as it did. -/
def pressSolvesSpec : ChangeSpec := { name := "pressSolves", fn := fun _ => fun
  | [d1, d2, d3, d4] => { results := [.lit (.bool true)], args := [d1, d2, d3, d4] }
  | _ => none }
def pressSolvesRow : OpenClaim := { program := "ytldhbdgfpjoamaagreat", sum := "e7254f9e62e26e7526eca87b5221d6c9c61554b7f5cbc0b62123f8d5779bc71d", func := "gantry/gantrylaw19.PressSolves", spec := "pressSolves", unfollowed := true, recurses := true, apart := false }
def PressSolvesSaid : Prop := pressSolvesRow.holds Tryz.pinned (OpenSpec.ofChange pressSolvesSpec)

/-- ITS FALSE NEIGHBOUR: 'it returns false'. Refute it at one input. -/
def pressSolvesWrong : ChangeSpec := { name := "pressSolves", fn := fun _ => fun
  | [d1, d2, d3, d4] => { results := [.lit (.bool false)], args := [d1, d2, d3, d4] }
  | _ => none }
def PressSolvesWrongFalsely : Prop := pressSolvesRow.holds Tryz.pinned (OpenSpec.ofChange pressSolvesWrong)

/- THE SECOND FORM. 'bulk': how many values and letters a reading holds, each counted each time it is reached (what is shared counts as often as it is met; a slice's spare places count too). A statement '..UptoSaid' is the law's where the arguments, and the package variables that the reading takes, are together of bulk at most 1048576: NARROWER than '..Said'. Prove '..Said' where nothing that the law and all that it calls make is longer than what came in: it says more and counts as full. Else prove '..UptoSaid'. A law counts once. -/
mutual
def uptoBulk {H : Type} : DataW H → Nat
  | .lit (.string bytes) => bytes.length + 1
  | .lit _ => 1
  | .nil => 1
  | .ptr d => uptoBulk d + 1
  | .slice elems spare => uptoBulkAll elems + uptoBulkAll spare + 1
  | .agg parts => uptoBulkAll parts + 1
  | .iface _ d => uptoBulk d + 1
  | .map entries => uptoBulkEntries entries + 1
  | .held _ => 1
def uptoBulkAll {H : Type} : List (DataW H) → Nat
  | [] => 0
  | d :: r => uptoBulk d + uptoBulkAll r
def uptoBulkEntries {H : Type} : List (Lit × DataW H) → Nat
  | [] => 0
  | x :: r => uptoBulkEntry x + uptoBulkEntries r
def uptoBulkEntry {H : Type} : Lit × DataW H → Nat
  | (.string bytes, d) => bytes.length + uptoBulk d + 1
  | (_, d) => uptoBulk d + 1
 end
def uptoSmall : (H : Type) → List (DataW H) → Bool := fun _ ds => decide (uptoBulkAll ds ≤ 1048576)
def OpenSpec.upto (s : _root_.Go.ChangeSpec) : _root_.Go.OpenSpec := { _root_.Go.OpenSpec.ofChange s with cond := some uptoSmall }

/-- 'gantrylaw21.EnergyPresses', WHERE WHAT IT READS IS OF BULK AT MOST 1048576: true; the input reads as it did. -/
def energyPressesUptoRow : OpenClaim := { program := "ytldhbdgfpjoamaagreat", sum := "e7254f9e62e26e7526eca87b5221d6c9c61554b7f5cbc0b62123f8d5779bc71d", func := "gantry/gantrylaw21.EnergyPresses", spec := "energyPresses", unfollowed := true, recurses := true, apart := false, narrowed := true }
def EnergyPressesUptoSaid : Prop := energyPressesUptoRow.holds Tryz.pinned (OpenSpec.upto energyPressesSpec)

/-- 'gantrylaw19.PressChecks', WHERE WHAT IT READS IS OF BULK AT MOST 1048576: true; the input reads as it did. -/
def pressChecksUptoRow : OpenClaim := { program := "ytldhbdgfpjoamaagreat", sum := "e7254f9e62e26e7526eca87b5221d6c9c61554b7f5cbc0b62123f8d5779bc71d", func := "gantry/gantrylaw19.PressChecks", spec := "pressChecks", unfollowed := true, recurses := true, apart := false, narrowed := true }
def PressChecksUptoSaid : Prop := pressChecksUptoRow.holds Tryz.pinned (OpenSpec.upto pressChecksSpec)

/-- 'gantrylaw19.PressScaled', WHERE WHAT IT READS IS OF BULK AT MOST 1048576: true; the input reads as it did. -/
def pressScaledUptoRow : OpenClaim := { program := "ytldhbdgfpjoamaagreat", sum := "e7254f9e62e26e7526eca87b5221d6c9c61554b7f5cbc0b62123f8d5779bc71d", func := "gantry/gantrylaw19.PressScaled", spec := "pressScaled", unfollowed := true, recurses := true, apart := false, narrowed := true }
def PressScaledUptoSaid : Prop := pressScaledUptoRow.holds Tryz.pinned (OpenSpec.upto pressScaledSpec)

/-- 'gantrylaw19.PressSolves', WHERE WHAT IT READS IS OF BULK AT MOST 1048576: true; the input reads as it did. -/
def pressSolvesUptoRow : OpenClaim := { program := "ytldhbdgfpjoamaagreat", sum := "e7254f9e62e26e7526eca87b5221d6c9c61554b7f5cbc0b62123f8d5779bc71d", func := "gantry/gantrylaw19.PressSolves", spec := "pressSolves", unfollowed := true, recurses := true, apart := false, narrowed := true }
def PressSolvesUptoSaid : Prop := pressSolvesUptoRow.holds Tryz.pinned (OpenSpec.upto pressSolvesSpec)

end Rows
end Go.Proofs.YtldhbdgfpjoamaaGreat
