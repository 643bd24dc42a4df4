/-
  No cell of these rows narrows 'for every input' (looked for: loops, veiled, ifaces, maps, wideKeys, modest, calm, conditions, laid).
  DERIVED. THE GIVEN ROWS OF THIS SEAT. 7 by the template 'for every input the law returns true; each argument reads behind the call as it read before'; 0 by the template 'total and deterministic' (their statements: YtnmdhmfofbfkjaaGreatTotals.lean).
  GIVEN WITH THE SEED: the statements are not yours to turn. If you find one false, say at which input.
  Laid BY PROGRAM, IN A SANDBOX (cutbox-rows.mjs): the forced cells as the released guide's own fill.sh prints them over the translation 8a85a4c478e84a27… (all of the seat's roots in one cut). By AI agents, Wed Nov 11 2026. No macro, syntax, notation, axiom, sorry.
-/
import Derived.Test.YtnmdhmfofbfkjaaGreatChecked
import GoSem.Claim
import GoSem.ClaimJoined
import GoSem.ClaimMapViews
import Derived.JoinedTies
import Derived.KernelRfl
namespace Go.Proofs.YtnmdhmfofbfkjaaGreat
/- THE CELL 'sum', in the pinned program and in every row, IS THE sha256 OF THE DUMP (.gsa) THAT YtnmdhmfofbfkjaaGreatProg.lean LOADS. Nothing in Lean hashes anything: it is a label: what it is worth is what the hold of that sum in a sandbox is worth. -/
noncomputable def Tryz.pinned : Pinned := { name := "ytnmdhmfofbfkjaagreat", sum := "8a85a4c478e84a27049a2a8ef05a5d8d06226d39e97ad10b46274aa675e6e4c2", checked := Tryz.checked }
namespace Rows
def none {H : Type} : Left H := { results := [], args := [] }

/-- 'gantrylaw10.SimplexRange': WHATEVER THE INPUT: true; the input reads as it did. -/
def simplexRangeSpec : ChangeSpec := { name := "simplexRange", fn := fun _ => fun
  | [d1, d2, d3] => { results := [.lit (.bool true)], args := [d1, d2, d3] }
  | _ => none }
def simplexRangeRow : OpenClaim := { program := "ytnmdhmfofbfkjaagreat", sum := "8a85a4c478e84a27049a2a8ef05a5d8d06226d39e97ad10b46274aa675e6e4c2", func := "gantry/gantrylaw10.SimplexRange", spec := "simplexRange", unfollowed := true, recurses := true, apart := false }
def SimplexRangeSaid : Prop := simplexRangeRow.holds Tryz.pinned (OpenSpec.ofChange simplexRangeSpec)

/-- ITS FALSE NEIGHBOUR: 'it returns false'. Refute it at one input. -/
def simplexRangeWrong : ChangeSpec := { name := "simplexRange", fn := fun _ => fun
  | [d1, d2, d3] => { results := [.lit (.bool false)], args := [d1, d2, d3] }
  | _ => none }
def SimplexRangeWrongFalsely : Prop := simplexRangeRow.holds Tryz.pinned (OpenSpec.ofChange simplexRangeWrong)

/-- 'gantrylaw10.SimplexSolves': WHATEVER THE INPUT: true; the input reads as it did. -/
def simplexSolvesSpec : ChangeSpec := { name := "simplexSolves", fn := fun _ => fun
  | [d1, d2] => { results := [.lit (.bool true)], args := [d1, d2] }
  | _ => none }
def simplexSolvesRow : OpenClaim := { program := "ytnmdhmfofbfkjaagreat", sum := "8a85a4c478e84a27049a2a8ef05a5d8d06226d39e97ad10b46274aa675e6e4c2", func := "gantry/gantrylaw10.SimplexSolves", spec := "simplexSolves", unfollowed := true, recurses := true, apart := false }
def SimplexSolvesSaid : Prop := simplexSolvesRow.holds Tryz.pinned (OpenSpec.ofChange simplexSolvesSpec)

/-- ITS FALSE NEIGHBOUR: 'it returns false'. Refute it at one input. -/
def simplexSolvesWrong : ChangeSpec := { name := "simplexSolves", fn := fun _ => fun
  | [d1, d2] => { results := [.lit (.bool false)], args := [d1, d2] }
  | _ => none }
def SimplexSolvesWrongFalsely : Prop := simplexSolvesRow.holds Tryz.pinned (OpenSpec.ofChange simplexSolvesWrong)

/-- 'gantrylaw10.SimplexChecks': WHATEVER THE INPUT: true; the input reads as it did. -/
def simplexChecksSpec : ChangeSpec := { name := "simplexChecks", fn := fun _ => fun
  | [d1, d2, d3, d4, d5] => { results := [.lit (.bool true)], args := [d1, d2, d3, d4, d5] }
  | _ => none }
def simplexChecksRow : OpenClaim := { program := "ytnmdhmfofbfkjaagreat", sum := "8a85a4c478e84a27049a2a8ef05a5d8d06226d39e97ad10b46274aa675e6e4c2", func := "gantry/gantrylaw10.SimplexChecks", spec := "simplexChecks", unfollowed := true, recurses := true, apart := false }
def SimplexChecksSaid : Prop := simplexChecksRow.holds Tryz.pinned (OpenSpec.ofChange simplexChecksSpec)

/-- ITS FALSE NEIGHBOUR: 'it returns false'. Refute it at one input. -/
def simplexChecksWrong : ChangeSpec := { name := "simplexChecks", fn := fun _ => fun
  | [d1, d2, d3, d4, d5] => { results := [.lit (.bool false)], args := [d1, d2, d3, d4, d5] }
  | _ => none }
def SimplexChecksWrongFalsely : Prop := simplexChecksRow.holds Tryz.pinned (OpenSpec.ofChange simplexChecksWrong)

/-- 'gantrylaw10.SimplexCores': WHATEVER THE INPUT: true; the input reads as it did. -/
def simplexCoresSpec : ChangeSpec := { name := "simplexCores", fn := fun _ => fun
  | [d1, d2, d3] => { results := [.lit (.bool true)], args := [d1, d2, d3] }
  | _ => none }
def simplexCoresRow : OpenClaim := { program := "ytnmdhmfofbfkjaagreat", sum := "8a85a4c478e84a27049a2a8ef05a5d8d06226d39e97ad10b46274aa675e6e4c2", func := "gantry/gantrylaw10.SimplexCores", spec := "simplexCores", unfollowed := true, recurses := true, apart := false }
def SimplexCoresSaid : Prop := simplexCoresRow.holds Tryz.pinned (OpenSpec.ofChange simplexCoresSpec)

/-- ITS FALSE NEIGHBOUR: 'it returns false'. Refute it at one input. -/
def simplexCoresWrong : ChangeSpec := { name := "simplexCores", fn := fun _ => fun
  | [d1, d2, d3] => { results := [.lit (.bool false)], args := [d1, d2, d3] }
  | _ => none }
def SimplexCoresWrongFalsely : Prop := simplexCoresRow.holds Tryz.pinned (OpenSpec.ofChange simplexCoresWrong)

/-- 'gantrylaw10.SimplexDual': WHATEVER THE INPUT: true; the input reads as it did. -/
def simplexDualSpec : ChangeSpec := { name := "simplexDual", fn := fun _ => fun
  | [d1, d2, d3, d4] => { results := [.lit (.bool true)], args := [d1, d2, d3, d4] }
  | _ => none }
def simplexDualRow : OpenClaim := { program := "ytnmdhmfofbfkjaagreat", sum := "8a85a4c478e84a27049a2a8ef05a5d8d06226d39e97ad10b46274aa675e6e4c2", func := "gantry/gantrylaw10.SimplexDual", spec := "simplexDual", unfollowed := true, recurses := true, apart := false }
def SimplexDualSaid : Prop := simplexDualRow.holds Tryz.pinned (OpenSpec.ofChange simplexDualSpec)

/-- ITS FALSE NEIGHBOUR: 'it returns false'. Refute it at one input. -/
def simplexDualWrong : ChangeSpec := { name := "simplexDual", fn := fun _ => fun
  | [d1, d2, d3, d4] => { results := [.lit (.bool false)], args := [d1, d2, d3, d4] }
  | _ => none }
def SimplexDualWrongFalsely : Prop := simplexDualRow.holds Tryz.pinned (OpenSpec.ofChange simplexDualWrong)

/-- 'gantrylaw10.SimplexSame': WHATEVER THE INPUT: true; the input reads as it did. -/
def simplexSameSpec : ChangeSpec := { name := "simplexSame", fn := fun _ => fun
  | [d1, d2, d3] => { results := [.lit (.bool true)], args := [d1, d2, d3] }
  | _ => none }
def simplexSameRow : OpenClaim := { program := "ytnmdhmfofbfkjaagreat", sum := "8a85a4c478e84a27049a2a8ef05a5d8d06226d39e97ad10b46274aa675e6e4c2", func := "gantry/gantrylaw10.SimplexSame", spec := "simplexSame", unfollowed := true, recurses := true, apart := false }
def SimplexSameSaid : Prop := simplexSameRow.holds Tryz.pinned (OpenSpec.ofChange simplexSameSpec)

/-- ITS FALSE NEIGHBOUR: 'it returns false'. Refute it at one input. -/
def simplexSameWrong : ChangeSpec := { name := "simplexSame", fn := fun _ => fun
  | [d1, d2, d3] => { results := [.lit (.bool false)], args := [d1, d2, d3] }
  | _ => none }
def SimplexSameWrongFalsely : Prop := simplexSameRow.holds Tryz.pinned (OpenSpec.ofChange simplexSameWrong)

/-- 'gantrylaw10.SimplexMore': WHATEVER THE INPUT: true; the input reads as it did. -/
def simplexMoreSpec : ChangeSpec := { name := "simplexMore", fn := fun _ => fun
  | [d1, d2] => { results := [.lit (.bool true)], args := [d1, d2] }
  | _ => none }
def simplexMoreRow : OpenClaim := { program := "ytnmdhmfofbfkjaagreat", sum := "8a85a4c478e84a27049a2a8ef05a5d8d06226d39e97ad10b46274aa675e6e4c2", func := "gantry/gantrylaw10.SimplexMore", spec := "simplexMore", unfollowed := true, recurses := true, apart := false }
def SimplexMoreSaid : Prop := simplexMoreRow.holds Tryz.pinned (OpenSpec.ofChange simplexMoreSpec)

/-- ITS FALSE NEIGHBOUR: 'it returns false'. Refute it at one input. -/
def simplexMoreWrong : ChangeSpec := { name := "simplexMore", fn := fun _ => fun
  | [d1, d2] => { results := [.lit (.bool false)], args := [d1, d2] }
  | _ => none }
def SimplexMoreWrongFalsely : Prop := simplexMoreRow.holds Tryz.pinned (OpenSpec.ofChange simplexMoreWrong)

/- THE SECOND FORM. 'bulk': how many values and letters a reading holds, each counted each time it is reached (what is shared counts as often as it is met; a slice's spare places count too). A statement '..UptoSaid' is the law's where the arguments, and the package variables that the reading takes, are together of bulk at most 1048576: NARROWER than '..Said'. Prove '..Said' where nothing that the law and all that it calls make is longer than what came in: it says more and counts as full. Else prove '..UptoSaid'. A law counts once. -/
mutual
def uptoBulk {H : Type} : DataW H → Nat
  | .lit (.string bytes) => bytes.length + 1
  | .lit _ => 1
  | .nil => 1
  | .ptr d => uptoBulk d + 1
  | .slice elems spare => uptoBulkAll elems + uptoBulkAll spare + 1
  | .agg parts => uptoBulkAll parts + 1
  | .iface _ d => uptoBulk d + 1
  | .map entries => uptoBulkEntries entries + 1
  | .held _ => 1
def uptoBulkAll {H : Type} : List (DataW H) → Nat
  | [] => 0
  | d :: r => uptoBulk d + uptoBulkAll r
def uptoBulkEntries {H : Type} : List (Lit × DataW H) → Nat
  | [] => 0
  | x :: r => uptoBulkEntry x + uptoBulkEntries r
def uptoBulkEntry {H : Type} : Lit × DataW H → Nat
  | (.string bytes, d) => bytes.length + uptoBulk d + 1
  | (_, d) => uptoBulk d + 1
 end
def uptoSmall : (H : Type) → List (DataW H) → Bool := fun _ ds => decide (uptoBulkAll ds ≤ 1048576)
def OpenSpec.upto (s : _root_.Go.ChangeSpec) : _root_.Go.OpenSpec := { _root_.Go.OpenSpec.ofChange s with cond := some uptoSmall }

/-- 'gantrylaw10.SimplexRange', WHERE WHAT IT READS IS OF BULK AT MOST 1048576: true; the input reads as it did. -/
def simplexRangeUptoRow : OpenClaim := { program := "ytnmdhmfofbfkjaagreat", sum := "8a85a4c478e84a27049a2a8ef05a5d8d06226d39e97ad10b46274aa675e6e4c2", func := "gantry/gantrylaw10.SimplexRange", spec := "simplexRange", unfollowed := true, recurses := true, apart := false, narrowed := true }
def SimplexRangeUptoSaid : Prop := simplexRangeUptoRow.holds Tryz.pinned (OpenSpec.upto simplexRangeSpec)

/-- 'gantrylaw10.SimplexSolves', WHERE WHAT IT READS IS OF BULK AT MOST 1048576: true; the input reads as it did. -/
def simplexSolvesUptoRow : OpenClaim := { program := "ytnmdhmfofbfkjaagreat", sum := "8a85a4c478e84a27049a2a8ef05a5d8d06226d39e97ad10b46274aa675e6e4c2", func := "gantry/gantrylaw10.SimplexSolves", spec := "simplexSolves", unfollowed := true, recurses := true, apart := false, narrowed := true }
def SimplexSolvesUptoSaid : Prop := simplexSolvesUptoRow.holds Tryz.pinned (OpenSpec.upto simplexSolvesSpec)

/-- 'gantrylaw10.SimplexChecks', WHERE WHAT IT READS IS OF BULK AT MOST 1048576: true; the input reads as it did. -/
def simplexChecksUptoRow : OpenClaim := { program := "ytnmdhmfofbfkjaagreat", sum := "8a85a4c478e84a27049a2a8ef05a5d8d06226d39e97ad10b46274aa675e6e4c2", func := "gantry/gantrylaw10.SimplexChecks", spec := "simplexChecks", unfollowed := true, recurses := true, apart := false, narrowed := true }
def SimplexChecksUptoSaid : Prop := simplexChecksUptoRow.holds Tryz.pinned (OpenSpec.upto simplexChecksSpec)

/-- 'gantrylaw10.SimplexCores', WHERE WHAT IT READS IS OF BULK AT MOST 1048576: true; the input reads as it did. -/
def simplexCoresUptoRow : OpenClaim := { program := "ytnmdhmfofbfkjaagreat", sum := "8a85a4c478e84a27049a2a8ef05a5d8d06226d39e97ad10b46274aa675e6e4c2", func := "gantry/gantrylaw10.SimplexCores", spec := "simplexCores", unfollowed := true, recurses := true, apart := false, narrowed := true }
def SimplexCoresUptoSaid : Prop := simplexCoresUptoRow.holds Tryz.pinned (OpenSpec.upto simplexCoresSpec)

/-- 'gantrylaw10.SimplexDual', WHERE WHAT IT READS IS OF BULK AT MOST 1048576: true; the input reads as it did. -/
def simplexDualUptoRow : OpenClaim := { program := "ytnmdhmfofbfkjaagreat", sum := "8a85a4c478e84a27049a2a8ef05a5d8d06226d39e97ad10b46274aa675e6e4c2", func := "gantry/gantrylaw10.SimplexDual", spec := "simplexDual", unfollowed := true, recurses := true, apart := false, narrowed := true }
def SimplexDualUptoSaid : Prop := simplexDualUptoRow.holds Tryz.pinned (OpenSpec.upto simplexDualSpec)

/-- 'gantrylaw10.SimplexSame', WHERE WHAT IT READS IS OF BULK AT MOST 1048576: true; the input reads as it did. -/
def simplexSameUptoRow : OpenClaim := { program := "ytnmdhmfofbfkjaagreat", sum := "8a85a4c478e84a27049a2a8ef05a5d8d06226d39e97ad10b46274aa675e6e4c2", func := "gantry/gantrylaw10.SimplexSame", spec := "simplexSame", unfollowed := true, recurses := true, apart := false, narrowed := true }
def SimplexSameUptoSaid : Prop := simplexSameUptoRow.holds Tryz.pinned (OpenSpec.upto simplexSameSpec)

/-- 'gantrylaw10.SimplexMore', WHERE WHAT IT READS IS OF BULK AT MOST 1048576: true; the input reads as it did. -/
def simplexMoreUptoRow : OpenClaim := { program := "ytnmdhmfofbfkjaagreat", sum := "8a85a4c478e84a27049a2a8ef05a5d8d06226d39e97ad10b46274aa675e6e4c2", func := "gantry/gantrylaw10.SimplexMore", spec := "simplexMore", unfollowed := true, recurses := true, apart := false, narrowed := true }
def SimplexMoreUptoSaid : Prop := simplexMoreUptoRow.holds Tryz.pinned (OpenSpec.upto simplexMoreSpec)

end Rows
end Go.Proofs.YtnmdhmfofbfkjaaGreat
