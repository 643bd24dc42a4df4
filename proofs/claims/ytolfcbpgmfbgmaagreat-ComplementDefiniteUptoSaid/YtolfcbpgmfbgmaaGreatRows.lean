/-
  No cell of these rows narrows 'for every input' (looked for: loops, veiled, ifaces, maps, wideKeys, modest, calm, conditions, laid).
  DERIVED. THE GIVEN ROWS OF THIS SEAT. 7 by the template 'for every input the law returns true; each argument reads behind the call as it read before'; 0 by the template 'total and deterministic' (their statements: YtolfcbpgmfbgmaaGreatTotals.lean).
  GIVEN WITH THE SEED: the statements are not yours to turn. If you find one false, say at which input.
  Laid BY PROGRAM, IN A SANDBOX (cutbox-rows.mjs): the forced cells as the released guide's own fill.sh prints them over the translation a6c9e2310e1efa17… (all of the seat's roots in one cut). By AI agents, Wed Nov 11 2026. No macro, syntax, notation, axiom, sorry.
-/
import Derived.Test.YtolfcbpgmfbgmaaGreatChecked
import GoSem.Claim
import GoSem.ClaimJoined
import GoSem.ClaimMapViews
import Derived.JoinedTies
import Derived.KernelRfl
namespace Go.Proofs.YtolfcbpgmfbgmaaGreat
/- THE CELL 'sum', in the pinned program and in every row, IS THE sha256 OF THE DUMP (.gsa) THAT YtolfcbpgmfbgmaaGreatProg.lean LOADS. Nothing in Lean hashes anything: it is a label: what it is worth is what the hold of that sum in a sandbox is worth. -/
noncomputable def Tryz.pinned : Pinned := { name := "ytolfcbpgmfbgmaagreat", sum := "a6c9e2310e1efa1740c7f72a1ac99dc7470fb310cd779b555084ab5374fe8d57", checked := Tryz.checked }
namespace Rows
def none {H : Type} : Left H := { results := [], args := [] }

/-- 'gantrylaw11.ComplementSolves': WHATEVER THE INPUT: true; the input reads as it did. -/
def complementSolvesSpec : ChangeSpec := { name := "complementSolves", fn := fun _ => fun
  | [d1, d2, d3, d4] => { results := [.lit (.bool true)], args := [d1, d2, d3, d4] }
  | _ => none }
def complementSolvesRow : OpenClaim := { program := "ytolfcbpgmfbgmaagreat", sum := "a6c9e2310e1efa1740c7f72a1ac99dc7470fb310cd779b555084ab5374fe8d57", func := "gantry/gantrylaw11.ComplementSolves", spec := "complementSolves", unfollowed := true, recurses := true, apart := false }
def ComplementSolvesSaid : Prop := complementSolvesRow.holds Tryz.pinned (OpenSpec.ofChange complementSolvesSpec)

/-- ITS FALSE NEIGHBOUR: 'it returns false'. Refute it at one input. -/
def complementSolvesWrong : ChangeSpec := { name := "complementSolves", fn := fun _ => fun
  | [d1, d2, d3, d4] => { results := [.lit (.bool false)], args := [d1, d2, d3, d4] }
  | _ => none }
def ComplementSolvesWrongFalsely : Prop := complementSolvesRow.holds Tryz.pinned (OpenSpec.ofChange complementSolvesWrong)

/-- 'gantrylaw11.ComplementChecks': WHATEVER THE INPUT: true; the input reads as it did. -/
def complementChecksSpec : ChangeSpec := { name := "complementChecks", fn := fun _ => fun
  | [d1, d2, d3, d4] => { results := [.lit (.bool true)], args := [d1, d2, d3, d4] }
  | _ => none }
def complementChecksRow : OpenClaim := { program := "ytolfcbpgmfbgmaagreat", sum := "a6c9e2310e1efa1740c7f72a1ac99dc7470fb310cd779b555084ab5374fe8d57", func := "gantry/gantrylaw11.ComplementChecks", spec := "complementChecks", unfollowed := true, recurses := true, apart := false }
def ComplementChecksSaid : Prop := complementChecksRow.holds Tryz.pinned (OpenSpec.ofChange complementChecksSpec)

/-- ITS FALSE NEIGHBOUR: 'it returns false'. Refute it at one input. -/
def complementChecksWrong : ChangeSpec := { name := "complementChecks", fn := fun _ => fun
  | [d1, d2, d3, d4] => { results := [.lit (.bool false)], args := [d1, d2, d3, d4] }
  | _ => none }
def ComplementChecksWrongFalsely : Prop := complementChecksRow.holds Tryz.pinned (OpenSpec.ofChange complementChecksWrong)

/-- 'gantrylaw11.ComplementEnds': WHATEVER THE INPUT: true; the input reads as it did. -/
def complementEndsSpec : ChangeSpec := { name := "complementEnds", fn := fun _ => fun
  | [d1, d2] => { results := [.lit (.bool true)], args := [d1, d2] }
  | _ => none }
def complementEndsRow : OpenClaim := { program := "ytolfcbpgmfbgmaagreat", sum := "a6c9e2310e1efa1740c7f72a1ac99dc7470fb310cd779b555084ab5374fe8d57", func := "gantry/gantrylaw11.ComplementEnds", spec := "complementEnds", unfollowed := true, recurses := true, apart := false }
def ComplementEndsSaid : Prop := complementEndsRow.holds Tryz.pinned (OpenSpec.ofChange complementEndsSpec)

/-- ITS FALSE NEIGHBOUR: 'it returns false'. Refute it at one input. -/
def complementEndsWrong : ChangeSpec := { name := "complementEnds", fn := fun _ => fun
  | [d1, d2] => { results := [.lit (.bool false)], args := [d1, d2] }
  | _ => none }
def ComplementEndsWrongFalsely : Prop := complementEndsRow.holds Tryz.pinned (OpenSpec.ofChange complementEndsWrong)

/-- 'gantrylaw11.ComplementAll': WHATEVER THE INPUT: true; the input reads as it did. -/
def complementAllSpec : ChangeSpec := { name := "complementAll", fn := fun _ => fun
  | [d1, d2, d3] => { results := [.lit (.bool true)], args := [d1, d2, d3] }
  | _ => none }
def complementAllRow : OpenClaim := { program := "ytolfcbpgmfbgmaagreat", sum := "a6c9e2310e1efa1740c7f72a1ac99dc7470fb310cd779b555084ab5374fe8d57", func := "gantry/gantrylaw11.ComplementAll", spec := "complementAll", unfollowed := true, recurses := true, apart := false }
def ComplementAllSaid : Prop := complementAllRow.holds Tryz.pinned (OpenSpec.ofChange complementAllSpec)

/-- ITS FALSE NEIGHBOUR: 'it returns false'. Refute it at one input. -/
def complementAllWrong : ChangeSpec := { name := "complementAll", fn := fun _ => fun
  | [d1, d2, d3] => { results := [.lit (.bool false)], args := [d1, d2, d3] }
  | _ => none }
def ComplementAllWrongFalsely : Prop := complementAllRow.holds Tryz.pinned (OpenSpec.ofChange complementAllWrong)

/-- 'gantrylaw11.ComplementRefutes': WHATEVER THE INPUT: true; the input reads as it did. -/
def complementRefutesSpec : ChangeSpec := { name := "complementRefutes", fn := fun _ => fun
  | [d1, d2, d3, d4] => { results := [.lit (.bool true)], args := [d1, d2, d3, d4] }
  | _ => none }
def complementRefutesRow : OpenClaim := { program := "ytolfcbpgmfbgmaagreat", sum := "a6c9e2310e1efa1740c7f72a1ac99dc7470fb310cd779b555084ab5374fe8d57", func := "gantry/gantrylaw11.ComplementRefutes", spec := "complementRefutes", unfollowed := true, recurses := true, apart := false }
def ComplementRefutesSaid : Prop := complementRefutesRow.holds Tryz.pinned (OpenSpec.ofChange complementRefutesSpec)

/-- ITS FALSE NEIGHBOUR: 'it returns false'. Refute it at one input. -/
def complementRefutesWrong : ChangeSpec := { name := "complementRefutes", fn := fun _ => fun
  | [d1, d2, d3, d4] => { results := [.lit (.bool false)], args := [d1, d2, d3, d4] }
  | _ => none }
def ComplementRefutesWrongFalsely : Prop := complementRefutesRow.holds Tryz.pinned (OpenSpec.ofChange complementRefutesWrong)

/-- 'gantrylaw11.ComplementScaled': WHATEVER THE INPUT: true; the input reads as it did. -/
def complementScaledSpec : ChangeSpec := { name := "complementScaled", fn := fun _ => fun
  | [d1, d2, d3] => { results := [.lit (.bool true)], args := [d1, d2, d3] }
  | _ => none }
def complementScaledRow : OpenClaim := { program := "ytolfcbpgmfbgmaagreat", sum := "a6c9e2310e1efa1740c7f72a1ac99dc7470fb310cd779b555084ab5374fe8d57", func := "gantry/gantrylaw11.ComplementScaled", spec := "complementScaled", unfollowed := true, recurses := true, apart := false }
def ComplementScaledSaid : Prop := complementScaledRow.holds Tryz.pinned (OpenSpec.ofChange complementScaledSpec)

/-- ITS FALSE NEIGHBOUR: 'it returns false'. Refute it at one input. -/
def complementScaledWrong : ChangeSpec := { name := "complementScaled", fn := fun _ => fun
  | [d1, d2, d3] => { results := [.lit (.bool false)], args := [d1, d2, d3] }
  | _ => none }
def ComplementScaledWrongFalsely : Prop := complementScaledRow.holds Tryz.pinned (OpenSpec.ofChange complementScaledWrong)

/-- 'gantrylaw11.ComplementDefinite': WHATEVER THE INPUT: true; the input reads as it did. -/
def complementDefiniteSpec : ChangeSpec := { name := "complementDefinite", fn := fun _ => fun
  | [d1, d2] => { results := [.lit (.bool true)], args := [d1, d2] }
  | _ => none }
def complementDefiniteRow : OpenClaim := { program := "ytolfcbpgmfbgmaagreat", sum := "a6c9e2310e1efa1740c7f72a1ac99dc7470fb310cd779b555084ab5374fe8d57", func := "gantry/gantrylaw11.ComplementDefinite", spec := "complementDefinite", unfollowed := true, recurses := true, apart := false }
def ComplementDefiniteSaid : Prop := complementDefiniteRow.holds Tryz.pinned (OpenSpec.ofChange complementDefiniteSpec)

/-- ITS FALSE NEIGHBOUR: 'it returns false'. Refute it at one input. -/
def complementDefiniteWrong : ChangeSpec := { name := "complementDefinite", fn := fun _ => fun
  | [d1, d2] => { results := [.lit (.bool false)], args := [d1, d2] }
  | _ => none }
def ComplementDefiniteWrongFalsely : Prop := complementDefiniteRow.holds Tryz.pinned (OpenSpec.ofChange complementDefiniteWrong)

/- THE SECOND FORM. 'bulk': how many values and letters a reading holds, each counted each time it is reached (what is shared counts as often as it is met; a slice's spare places count too). A statement '..UptoSaid' is the law's where the arguments, and the package variables that the reading takes, are together of bulk at most 1048576: NARROWER than '..Said'. Prove '..Said' where nothing that the law and all that it calls make is longer than what came in: it says more and counts as full. Else prove '..UptoSaid'. A law counts once. -/
mutual
def uptoBulk {H : Type} : DataW H → Nat
  | .lit (.string bytes) => bytes.length + 1
  | .lit _ => 1
  | .nil => 1
  | .ptr d => uptoBulk d + 1
  | .slice elems spare => uptoBulkAll elems + uptoBulkAll spare + 1
  | .agg parts => uptoBulkAll parts + 1
  | .iface _ d => uptoBulk d + 1
  | .map entries => uptoBulkEntries entries + 1
  | .held _ => 1
def uptoBulkAll {H : Type} : List (DataW H) → Nat
  | [] => 0
  | d :: r => uptoBulk d + uptoBulkAll r
def uptoBulkEntries {H : Type} : List (Lit × DataW H) → Nat
  | [] => 0
  | x :: r => uptoBulkEntry x + uptoBulkEntries r
def uptoBulkEntry {H : Type} : Lit × DataW H → Nat
  | (.string bytes, d) => bytes.length + uptoBulk d + 1
  | (_, d) => uptoBulk d + 1
 end
def uptoSmall : (H : Type) → List (DataW H) → Bool := fun _ ds => decide (uptoBulkAll ds ≤ 1048576)
def OpenSpec.upto (s : _root_.Go.ChangeSpec) : _root_.Go.OpenSpec := { _root_.Go.OpenSpec.ofChange s with cond := some uptoSmall }

/-- 'gantrylaw11.ComplementSolves', WHERE WHAT IT READS IS OF BULK AT MOST 1048576: true; the input reads as it did. -/
def complementSolvesUptoRow : OpenClaim := { program := "ytolfcbpgmfbgmaagreat", sum := "a6c9e2310e1efa1740c7f72a1ac99dc7470fb310cd779b555084ab5374fe8d57", func := "gantry/gantrylaw11.ComplementSolves", spec := "complementSolves", unfollowed := true, recurses := true, apart := false, narrowed := true }
def ComplementSolvesUptoSaid : Prop := complementSolvesUptoRow.holds Tryz.pinned (OpenSpec.upto complementSolvesSpec)

/-- 'gantrylaw11.ComplementChecks', WHERE WHAT IT READS IS OF BULK AT MOST 1048576: true; the input reads as it did. -/
def complementChecksUptoRow : OpenClaim := { program := "ytolfcbpgmfbgmaagreat", sum := "a6c9e2310e1efa1740c7f72a1ac99dc7470fb310cd779b555084ab5374fe8d57", func := "gantry/gantrylaw11.ComplementChecks", spec := "complementChecks", unfollowed := true, recurses := true, apart := false, narrowed := true }
def ComplementChecksUptoSaid : Prop := complementChecksUptoRow.holds Tryz.pinned (OpenSpec.upto complementChecksSpec)

/-- 'gantrylaw11.ComplementEnds', WHERE WHAT IT READS IS OF BULK AT MOST 1048576: true; the input reads as it did. -/
def complementEndsUptoRow : OpenClaim := { program := "ytolfcbpgmfbgmaagreat", sum := "a6c9e2310e1efa1740c7f72a1ac99dc7470fb310cd779b555084ab5374fe8d57", func := "gantry/gantrylaw11.ComplementEnds", spec := "complementEnds", unfollowed := true, recurses := true, apart := false, narrowed := true }
def ComplementEndsUptoSaid : Prop := complementEndsUptoRow.holds Tryz.pinned (OpenSpec.upto complementEndsSpec)

/-- 'gantrylaw11.ComplementAll', WHERE WHAT IT READS IS OF BULK AT MOST 1048576: true; the input reads as it did. -/
def complementAllUptoRow : OpenClaim := { program := "ytolfcbpgmfbgmaagreat", sum := "a6c9e2310e1efa1740c7f72a1ac99dc7470fb310cd779b555084ab5374fe8d57", func := "gantry/gantrylaw11.ComplementAll", spec := "complementAll", unfollowed := true, recurses := true, apart := false, narrowed := true }
def ComplementAllUptoSaid : Prop := complementAllUptoRow.holds Tryz.pinned (OpenSpec.upto complementAllSpec)

/-- 'gantrylaw11.ComplementRefutes', WHERE WHAT IT READS IS OF BULK AT MOST 1048576: true; the input reads as it did. -/
def complementRefutesUptoRow : OpenClaim := { program := "ytolfcbpgmfbgmaagreat", sum := "a6c9e2310e1efa1740c7f72a1ac99dc7470fb310cd779b555084ab5374fe8d57", func := "gantry/gantrylaw11.ComplementRefutes", spec := "complementRefutes", unfollowed := true, recurses := true, apart := false, narrowed := true }
def ComplementRefutesUptoSaid : Prop := complementRefutesUptoRow.holds Tryz.pinned (OpenSpec.upto complementRefutesSpec)

/-- 'gantrylaw11.ComplementScaled', WHERE WHAT IT READS IS OF BULK AT MOST 1048576: true; the input reads as it did. -/
def complementScaledUptoRow : OpenClaim := { program := "ytolfcbpgmfbgmaagreat", sum := "a6c9e2310e1efa1740c7f72a1ac99dc7470fb310cd779b555084ab5374fe8d57", func := "gantry/gantrylaw11.ComplementScaled", spec := "complementScaled", unfollowed := true, recurses := true, apart := false, narrowed := true }
def ComplementScaledUptoSaid : Prop := complementScaledUptoRow.holds Tryz.pinned (OpenSpec.upto complementScaledSpec)

/-- 'gantrylaw11.ComplementDefinite', WHERE WHAT IT READS IS OF BULK AT MOST 1048576: true; the input reads as it did. -/
def complementDefiniteUptoRow : OpenClaim := { program := "ytolfcbpgmfbgmaagreat", sum := "a6c9e2310e1efa1740c7f72a1ac99dc7470fb310cd779b555084ab5374fe8d57", func := "gantry/gantrylaw11.ComplementDefinite", spec := "complementDefinite", unfollowed := true, recurses := true, apart := false, narrowed := true }
def ComplementDefiniteUptoSaid : Prop := complementDefiniteUptoRow.holds Tryz.pinned (OpenSpec.upto complementDefiniteSpec)

end Rows
end Go.Proofs.YtolfcbpgmfbgmaaGreat
