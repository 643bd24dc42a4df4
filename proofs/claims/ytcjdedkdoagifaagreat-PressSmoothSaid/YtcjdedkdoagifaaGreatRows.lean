/-
  No cell of these rows narrows 'for every input' (looked for: loops, veiled, ifaces, maps, wideKeys, modest, calm, conditions, laid).
  DERIVED. THE GIVEN ROWS OF THIS SEAT. 13 by the template 'for every input the law returns true; each argument reads behind the call as it read before'; 0 by the template 'total and deterministic' (their statements: YtcjdedkdoagifaaGreatTotals.lean).
  GIVEN WITH THE SEED: the statements are not yours to turn. If you find one false, say at which input.
  Laid BY PROGRAM, IN A SANDBOX (cutbox-rows.mjs): the forced cells as the released guide's own fill.sh prints them over the translation e932d441e07a529b… (all of the seat's roots in one cut). By AI agents, Wed Nov 11 2026. No macro, syntax, notation, axiom, sorry.
-/
import Derived.Test.YtcjdedkdoagifaaGreatChecked
import GoSem.Claim
import GoSem.ClaimJoined
import GoSem.ClaimMapViews
import Derived.JoinedTies
import Derived.KernelRfl
namespace Go.Proofs.YtcjdedkdoagifaaGreat
/- THE CELL 'sum', in the pinned program and in every row, IS THE sha256 OF THE DUMP (.gsa) THAT YtcjdedkdoagifaaGreatProg.lean LOADS. Nothing in Lean hashes anything: it is a label: what it is worth is what the hold of that sum in a sandbox is worth. -/
noncomputable def Tryz.pinned : Pinned := { name := "ytcjdedkdoagifaagreat", sum := "e932d441e07a529bee28215ad1c6d82847fdb86a6daf604960cc67c9e595b853", checked := Tryz.checked }
namespace Rows
def none {H : Type} : Left H := { results := [], args := [] }

/-- 'gantrylaw19.PressChecks': WHATEVER THE INPUT: true; the input reads as it did. -/
def pressChecksSpec : ChangeSpec := { name := "pressChecks", fn := fun _ => fun
  | [d1, d2, d3, d4, d5] => { results := [.lit (.bool true)], args := [d1, d2, d3, d4, d5] }
  | _ => none }
def pressChecksRow : OpenClaim := { program := "ytcjdedkdoagifaagreat", sum := "e932d441e07a529bee28215ad1c6d82847fdb86a6daf604960cc67c9e595b853", func := "gantry/gantrylaw19.PressChecks", spec := "pressChecks", unfollowed := true, recurses := true, apart := false }
def PressChecksSaid : Prop := pressChecksRow.holds Tryz.pinned (OpenSpec.ofChange pressChecksSpec)

/-- ITS FALSE NEIGHBOUR: 'it returns false'. Refute it at one input. -/
def pressChecksWrong : ChangeSpec := { name := "pressChecks", fn := fun _ => fun
  | [d1, d2, d3, d4, d5] => { results := [.lit (.bool false)], args := [d1, d2, d3, d4, d5] }
  | _ => none }
def PressChecksWrongFalsely : Prop := pressChecksRow.holds Tryz.pinned (OpenSpec.ofChange pressChecksWrong)

/-- 'gantrylaw19.PressLasts': WHATEVER THE INPUT: true; the input reads as it did. -/
def pressLastsSpec : ChangeSpec := { name := "pressLasts", fn := fun _ => fun
  | [d1, d2, d3] => { results := [.lit (.bool true)], args := [d1, d2, d3] }
  | _ => none }
def pressLastsRow : OpenClaim := { program := "ytcjdedkdoagifaagreat", sum := "e932d441e07a529bee28215ad1c6d82847fdb86a6daf604960cc67c9e595b853", func := "gantry/gantrylaw19.PressLasts", spec := "pressLasts", unfollowed := true, recurses := true, apart := false }
def PressLastsSaid : Prop := pressLastsRow.holds Tryz.pinned (OpenSpec.ofChange pressLastsSpec)

/-- ITS FALSE NEIGHBOUR: 'it returns false'. Refute it at one input. -/
def pressLastsWrong : ChangeSpec := { name := "pressLasts", fn := fun _ => fun
  | [d1, d2, d3] => { results := [.lit (.bool false)], args := [d1, d2, d3] }
  | _ => none }
def PressLastsWrongFalsely : Prop := pressLastsRow.holds Tryz.pinned (OpenSpec.ofChange pressLastsWrong)

/-- 'gantrylaw19.PressSmooth': WHATEVER THE INPUT: true; the input reads as it did. -/
def pressSmoothSpec : ChangeSpec := { name := "pressSmooth", fn := fun _ => fun
  | [d1, d2, d3] => { results := [.lit (.bool true)], args := [d1, d2, d3] }
  | _ => none }
def pressSmoothRow : OpenClaim := { program := "ytcjdedkdoagifaagreat", sum := "e932d441e07a529bee28215ad1c6d82847fdb86a6daf604960cc67c9e595b853", func := "gantry/gantrylaw19.PressSmooth", spec := "pressSmooth", unfollowed := true, recurses := true, apart := false }
def PressSmoothSaid : Prop := pressSmoothRow.holds Tryz.pinned (OpenSpec.ofChange pressSmoothSpec)

/-- ITS FALSE NEIGHBOUR: 'it returns false'. Refute it at one input. -/
def pressSmoothWrong : ChangeSpec := { name := "pressSmooth", fn := fun _ => fun
  | [d1, d2, d3] => { results := [.lit (.bool false)], args := [d1, d2, d3] }
  | _ => none }
def PressSmoothWrongFalsely : Prop := pressSmoothRow.holds Tryz.pinned (OpenSpec.ofChange pressSmoothWrong)

/-- 'gantrylaw19.PressScaled': WHATEVER THE INPUT: true; the input reads as it did. -/
def pressScaledSpec : ChangeSpec := { name := "pressScaled", fn := fun _ => fun
  | [d1, d2, d3] => { results := [.lit (.bool true)], args := [d1, d2, d3] }
  | _ => none }
def pressScaledRow : OpenClaim := { program := "ytcjdedkdoagifaagreat", sum := "e932d441e07a529bee28215ad1c6d82847fdb86a6daf604960cc67c9e595b853", func := "gantry/gantrylaw19.PressScaled", spec := "pressScaled", unfollowed := true, recurses := true, apart := false }
def PressScaledSaid : Prop := pressScaledRow.holds Tryz.pinned (OpenSpec.ofChange pressScaledSpec)

/-- ITS FALSE NEIGHBOUR: 'it returns false'. Refute it at one input. -/
def pressScaledWrong : ChangeSpec := { name := "pressScaled", fn := fun _ => fun
  | [d1, d2, d3] => { results := [.lit (.bool false)], args := [d1, d2, d3] }
  | _ => none }
def PressScaledWrongFalsely : Prop := pressScaledRow.holds Tryz.pinned (OpenSpec.ofChange pressScaledWrong)

/-- 'gantrylaw19.PressPower': WHATEVER THE INPUT: true; the input reads as it did. -/
def pressPowerSpec : ChangeSpec := { name := "pressPower", fn := fun _ => fun
  | [d1, d2] => { results := [.lit (.bool true)], args := [d1, d2] }
  | _ => none }
def pressPowerRow : OpenClaim := { program := "ytcjdedkdoagifaagreat", sum := "e932d441e07a529bee28215ad1c6d82847fdb86a6daf604960cc67c9e595b853", func := "gantry/gantrylaw19.PressPower", spec := "pressPower", unfollowed := true, recurses := true, apart := false }
def PressPowerSaid : Prop := pressPowerRow.holds Tryz.pinned (OpenSpec.ofChange pressPowerSpec)

/-- ITS FALSE NEIGHBOUR: 'it returns false'. Refute it at one input. -/
def pressPowerWrong : ChangeSpec := { name := "pressPower", fn := fun _ => fun
  | [d1, d2] => { results := [.lit (.bool false)], args := [d1, d2] }
  | _ => none }
def PressPowerWrongFalsely : Prop := pressPowerRow.holds Tryz.pinned (OpenSpec.ofChange pressPowerWrong)

/-- 'gantrylaw19.PressProblem': WHATEVER THE INPUT: true; the input reads as it did. -/
def pressProblemSpec : ChangeSpec := { name := "pressProblem", fn := fun _ => fun
  | [d1, d2, d3] => { results := [.lit (.bool true)], args := [d1, d2, d3] }
  | _ => none }
def pressProblemRow : OpenClaim := { program := "ytcjdedkdoagifaagreat", sum := "e932d441e07a529bee28215ad1c6d82847fdb86a6daf604960cc67c9e595b853", func := "gantry/gantrylaw19.PressProblem", spec := "pressProblem", unfollowed := true, recurses := true, apart := false }
def PressProblemSaid : Prop := pressProblemRow.holds Tryz.pinned (OpenSpec.ofChange pressProblemSpec)

/-- ITS FALSE NEIGHBOUR: 'it returns false'. Refute it at one input. -/
def pressProblemWrong : ChangeSpec := { name := "pressProblem", fn := fun _ => fun
  | [d1, d2, d3] => { results := [.lit (.bool false)], args := [d1, d2, d3] }
  | _ => none }
def PressProblemWrongFalsely : Prop := pressProblemRow.holds Tryz.pinned (OpenSpec.ofChange pressProblemWrong)

/-- 'gantrylaw19.PressSolves': WHATEVER THE INPUT: true; the input reads as it did. -/
def pressSolvesSpec : ChangeSpec := { name := "pressSolves", fn := fun _ => fun
  | [d1, d2, d3, d4] => { results := [.lit (.bool true)], args := [d1, d2, d3, d4] }
  | _ => none }
def pressSolvesRow : OpenClaim := { program := "ytcjdedkdoagifaagreat", sum := "e932d441e07a529bee28215ad1c6d82847fdb86a6daf604960cc67c9e595b853", func := "gantry/gantrylaw19.PressSolves", spec := "pressSolves", unfollowed := true, recurses := true, apart := false }
def PressSolvesSaid : Prop := pressSolvesRow.holds Tryz.pinned (OpenSpec.ofChange pressSolvesSpec)

/-- ITS FALSE NEIGHBOUR: 'it returns false'. Refute it at one input. -/
def pressSolvesWrong : ChangeSpec := { name := "pressSolves", fn := fun _ => fun
  | [d1, d2, d3, d4] => { results := [.lit (.bool false)], args := [d1, d2, d3, d4] }
  | _ => none }
def PressSolvesWrongFalsely : Prop := pressSolvesRow.holds Tryz.pinned (OpenSpec.ofChange pressSolvesWrong)

/-- 'gantrylaw18.ImpactProblem': WHATEVER THE INPUT: true; the input reads as it did. -/
def impactProblemSpec : ChangeSpec := { name := "impactProblem", fn := fun _ => fun
  | [d1, d2, d3, d4] => { results := [.lit (.bool true)], args := [d1, d2, d3, d4] }
  | _ => none }
def impactProblemRow : OpenClaim := { program := "ytcjdedkdoagifaagreat", sum := "e932d441e07a529bee28215ad1c6d82847fdb86a6daf604960cc67c9e595b853", func := "gantry/gantrylaw18.ImpactProblem", spec := "impactProblem", unfollowed := true, recurses := true, apart := false }
def ImpactProblemSaid : Prop := impactProblemRow.holds Tryz.pinned (OpenSpec.ofChange impactProblemSpec)

/-- ITS FALSE NEIGHBOUR: 'it returns false'. Refute it at one input. -/
def impactProblemWrong : ChangeSpec := { name := "impactProblem", fn := fun _ => fun
  | [d1, d2, d3, d4] => { results := [.lit (.bool false)], args := [d1, d2, d3, d4] }
  | _ => none }
def ImpactProblemWrongFalsely : Prop := impactProblemRow.holds Tryz.pinned (OpenSpec.ofChange impactProblemWrong)

/-- 'gantrylaw18.ImpactSolves': WHATEVER THE INPUT: true; the input reads as it did. -/
def impactSolvesSpec : ChangeSpec := { name := "impactSolves", fn := fun _ => fun
  | [d1, d2, d3, d4] => { results := [.lit (.bool true)], args := [d1, d2, d3, d4] }
  | _ => none }
def impactSolvesRow : OpenClaim := { program := "ytcjdedkdoagifaagreat", sum := "e932d441e07a529bee28215ad1c6d82847fdb86a6daf604960cc67c9e595b853", func := "gantry/gantrylaw18.ImpactSolves", spec := "impactSolves", unfollowed := true, recurses := true, apart := false }
def ImpactSolvesSaid : Prop := impactSolvesRow.holds Tryz.pinned (OpenSpec.ofChange impactSolvesSpec)

/-- ITS FALSE NEIGHBOUR: 'it returns false'. Refute it at one input. -/
def impactSolvesWrong : ChangeSpec := { name := "impactSolves", fn := fun _ => fun
  | [d1, d2, d3, d4] => { results := [.lit (.bool false)], args := [d1, d2, d3, d4] }
  | _ => none }
def ImpactSolvesWrongFalsely : Prop := impactSolvesRow.holds Tryz.pinned (OpenSpec.ofChange impactSolvesWrong)

/-- 'gantrylaw18.ImpactChecks': WHATEVER THE INPUT: true; the input reads as it did. -/
def impactChecksSpec : ChangeSpec := { name := "impactChecks", fn := fun _ => fun
  | [d1, d2, d3, d4, d5, d6, d7] => { results := [.lit (.bool true)], args := [d1, d2, d3, d4, d5, d6, d7] }
  | _ => none }
def impactChecksRow : OpenClaim := { program := "ytcjdedkdoagifaagreat", sum := "e932d441e07a529bee28215ad1c6d82847fdb86a6daf604960cc67c9e595b853", func := "gantry/gantrylaw18.ImpactChecks", spec := "impactChecks", unfollowed := true, recurses := true, apart := false }
def ImpactChecksSaid : Prop := impactChecksRow.holds Tryz.pinned (OpenSpec.ofChange impactChecksSpec)

/-- ITS FALSE NEIGHBOUR: 'it returns false'. Refute it at one input. -/
def impactChecksWrong : ChangeSpec := { name := "impactChecks", fn := fun _ => fun
  | [d1, d2, d3, d4, d5, d6, d7] => { results := [.lit (.bool false)], args := [d1, d2, d3, d4, d5, d6, d7] }
  | _ => none }
def ImpactChecksWrongFalsely : Prop := impactChecksRow.holds Tryz.pinned (OpenSpec.ofChange impactChecksWrong)

/-- 'gantrylaw18.ImpactEnergy': WHATEVER THE INPUT: true; the input reads as it did. -/
def impactEnergySpec : ChangeSpec := { name := "impactEnergy", fn := fun _ => fun
  | [d1, d2, d3, d4, d5, d6, d7] => { results := [.lit (.bool true)], args := [d1, d2, d3, d4, d5, d6, d7] }
  | _ => none }
def impactEnergyRow : OpenClaim := { program := "ytcjdedkdoagifaagreat", sum := "e932d441e07a529bee28215ad1c6d82847fdb86a6daf604960cc67c9e595b853", func := "gantry/gantrylaw18.ImpactEnergy", spec := "impactEnergy", unfollowed := true, recurses := true, apart := false }
def ImpactEnergySaid : Prop := impactEnergyRow.holds Tryz.pinned (OpenSpec.ofChange impactEnergySpec)

/-- ITS FALSE NEIGHBOUR: 'it returns false'. Refute it at one input. -/
def impactEnergyWrong : ChangeSpec := { name := "impactEnergy", fn := fun _ => fun
  | [d1, d2, d3, d4, d5, d6, d7] => { results := [.lit (.bool false)], args := [d1, d2, d3, d4, d5, d6, d7] }
  | _ => none }
def ImpactEnergyWrongFalsely : Prop := impactEnergyRow.holds Tryz.pinned (OpenSpec.ofChange impactEnergyWrong)

/-- 'gantrylaw18.ImpactMomentum': WHATEVER THE INPUT: true; the input reads as it did. -/
def impactMomentumSpec : ChangeSpec := { name := "impactMomentum", fn := fun _ => fun
  | [d1, d2, d3, d4] => { results := [.lit (.bool true)], args := [d1, d2, d3, d4] }
  | _ => none }
def impactMomentumRow : OpenClaim := { program := "ytcjdedkdoagifaagreat", sum := "e932d441e07a529bee28215ad1c6d82847fdb86a6daf604960cc67c9e595b853", func := "gantry/gantrylaw18.ImpactMomentum", spec := "impactMomentum", unfollowed := true, recurses := true, apart := false }
def ImpactMomentumSaid : Prop := impactMomentumRow.holds Tryz.pinned (OpenSpec.ofChange impactMomentumSpec)

/-- ITS FALSE NEIGHBOUR: 'it returns false'. Refute it at one input. -/
def impactMomentumWrong : ChangeSpec := { name := "impactMomentum", fn := fun _ => fun
  | [d1, d2, d3, d4] => { results := [.lit (.bool false)], args := [d1, d2, d3, d4] }
  | _ => none }
def ImpactMomentumWrongFalsely : Prop := impactMomentumRow.holds Tryz.pinned (OpenSpec.ofChange impactMomentumWrong)

/-- 'gantrylaw18.ImpactAlone': WHATEVER THE INPUT: true; the input reads as it did. -/
def impactAloneSpec : ChangeSpec := { name := "impactAlone", fn := fun _ => fun
  | [d1, d2, d3, d4, d5] => { results := [.lit (.bool true)], args := [d1, d2, d3, d4, d5] }
  | _ => none }
def impactAloneRow : OpenClaim := { program := "ytcjdedkdoagifaagreat", sum := "e932d441e07a529bee28215ad1c6d82847fdb86a6daf604960cc67c9e595b853", func := "gantry/gantrylaw18.ImpactAlone", spec := "impactAlone", unfollowed := true, recurses := true, apart := false }
def ImpactAloneSaid : Prop := impactAloneRow.holds Tryz.pinned (OpenSpec.ofChange impactAloneSpec)

/-- ITS FALSE NEIGHBOUR: 'it returns false'. Refute it at one input. -/
def impactAloneWrong : ChangeSpec := { name := "impactAlone", fn := fun _ => fun
  | [d1, d2, d3, d4, d5] => { results := [.lit (.bool false)], args := [d1, d2, d3, d4, d5] }
  | _ => none }
def ImpactAloneWrongFalsely : Prop := impactAloneRow.holds Tryz.pinned (OpenSpec.ofChange impactAloneWrong)

/- THE SECOND FORM. 'bulk': how many values and letters a reading holds, each counted each time it is reached (what is shared counts as often as it is met; a slice's spare places count too). A statement '..UptoSaid' is the law's where the arguments, and the package variables that the reading takes, are together of bulk at most 1048576: NARROWER than '..Said'. Prove '..Said' where nothing that the law and all that it calls make is longer than what came in: it says more and counts as full. Else prove '..UptoSaid'. A law counts once. -/
mutual
def uptoBulk {H : Type} : DataW H → Nat
  | .lit (.string bytes) => bytes.length + 1
  | .lit _ => 1
  | .nil => 1
  | .ptr d => uptoBulk d + 1
  | .slice elems spare => uptoBulkAll elems + uptoBulkAll spare + 1
  | .agg parts => uptoBulkAll parts + 1
  | .iface _ d => uptoBulk d + 1
  | .map entries => uptoBulkEntries entries + 1
  | .held _ => 1
def uptoBulkAll {H : Type} : List (DataW H) → Nat
  | [] => 0
  | d :: r => uptoBulk d + uptoBulkAll r
def uptoBulkEntries {H : Type} : List (Lit × DataW H) → Nat
  | [] => 0
  | x :: r => uptoBulkEntry x + uptoBulkEntries r
def uptoBulkEntry {H : Type} : Lit × DataW H → Nat
  | (.string bytes, d) => bytes.length + uptoBulk d + 1
  | (_, d) => uptoBulk d + 1
 end
def uptoSmall : (H : Type) → List (DataW H) → Bool := fun _ ds => decide (uptoBulkAll ds ≤ 1048576)
def OpenSpec.upto (s : _root_.Go.ChangeSpec) : _root_.Go.OpenSpec := { _root_.Go.OpenSpec.ofChange s with cond := some uptoSmall }

/-- 'gantrylaw19.PressChecks', WHERE WHAT IT READS IS OF BULK AT MOST 1048576: true; the input reads as it did. -/
def pressChecksUptoRow : OpenClaim := { program := "ytcjdedkdoagifaagreat", sum := "e932d441e07a529bee28215ad1c6d82847fdb86a6daf604960cc67c9e595b853", func := "gantry/gantrylaw19.PressChecks", spec := "pressChecks", unfollowed := true, recurses := true, apart := false, narrowed := true }
def PressChecksUptoSaid : Prop := pressChecksUptoRow.holds Tryz.pinned (OpenSpec.upto pressChecksSpec)

/-- 'gantrylaw19.PressLasts', WHERE WHAT IT READS IS OF BULK AT MOST 1048576: true; the input reads as it did. -/
def pressLastsUptoRow : OpenClaim := { program := "ytcjdedkdoagifaagreat", sum := "e932d441e07a529bee28215ad1c6d82847fdb86a6daf604960cc67c9e595b853", func := "gantry/gantrylaw19.PressLasts", spec := "pressLasts", unfollowed := true, recurses := true, apart := false, narrowed := true }
def PressLastsUptoSaid : Prop := pressLastsUptoRow.holds Tryz.pinned (OpenSpec.upto pressLastsSpec)

/-- 'gantrylaw19.PressSmooth', WHERE WHAT IT READS IS OF BULK AT MOST 1048576: true; the input reads as it did. -/
def pressSmoothUptoRow : OpenClaim := { program := "ytcjdedkdoagifaagreat", sum := "e932d441e07a529bee28215ad1c6d82847fdb86a6daf604960cc67c9e595b853", func := "gantry/gantrylaw19.PressSmooth", spec := "pressSmooth", unfollowed := true, recurses := true, apart := false, narrowed := true }
def PressSmoothUptoSaid : Prop := pressSmoothUptoRow.holds Tryz.pinned (OpenSpec.upto pressSmoothSpec)

/-- 'gantrylaw19.PressScaled', WHERE WHAT IT READS IS OF BULK AT MOST 1048576: true; the input reads as it did. -/
def pressScaledUptoRow : OpenClaim := { program := "ytcjdedkdoagifaagreat", sum := "e932d441e07a529bee28215ad1c6d82847fdb86a6daf604960cc67c9e595b853", func := "gantry/gantrylaw19.PressScaled", spec := "pressScaled", unfollowed := true, recurses := true, apart := false, narrowed := true }
def PressScaledUptoSaid : Prop := pressScaledUptoRow.holds Tryz.pinned (OpenSpec.upto pressScaledSpec)

/-- 'gantrylaw19.PressPower', WHERE WHAT IT READS IS OF BULK AT MOST 1048576: true; the input reads as it did. -/
def pressPowerUptoRow : OpenClaim := { program := "ytcjdedkdoagifaagreat", sum := "e932d441e07a529bee28215ad1c6d82847fdb86a6daf604960cc67c9e595b853", func := "gantry/gantrylaw19.PressPower", spec := "pressPower", unfollowed := true, recurses := true, apart := false, narrowed := true }
def PressPowerUptoSaid : Prop := pressPowerUptoRow.holds Tryz.pinned (OpenSpec.upto pressPowerSpec)

/-- 'gantrylaw19.PressProblem', WHERE WHAT IT READS IS OF BULK AT MOST 1048576: true; the input reads as it did. -/
def pressProblemUptoRow : OpenClaim := { program := "ytcjdedkdoagifaagreat", sum := "e932d441e07a529bee28215ad1c6d82847fdb86a6daf604960cc67c9e595b853", func := "gantry/gantrylaw19.PressProblem", spec := "pressProblem", unfollowed := true, recurses := true, apart := false, narrowed := true }
def PressProblemUptoSaid : Prop := pressProblemUptoRow.holds Tryz.pinned (OpenSpec.upto pressProblemSpec)

/-- 'gantrylaw19.PressSolves', WHERE WHAT IT READS IS OF BULK AT MOST 1048576: true; the input reads as it did. -/
def pressSolvesUptoRow : OpenClaim := { program := "ytcjdedkdoagifaagreat", sum := "e932d441e07a529bee28215ad1c6d82847fdb86a6daf604960cc67c9e595b853", func := "gantry/gantrylaw19.PressSolves", spec := "pressSolves", unfollowed := true, recurses := true, apart := false, narrowed := true }
def PressSolvesUptoSaid : Prop := pressSolvesUptoRow.holds Tryz.pinned (OpenSpec.upto pressSolvesSpec)

/-- 'gantrylaw18.ImpactProblem', WHERE WHAT IT READS IS OF BULK AT MOST 1048576: true; the input reads as it did. -/
def impactProblemUptoRow : OpenClaim := { program := "ytcjdedkdoagifaagreat", sum := "e932d441e07a529bee28215ad1c6d82847fdb86a6daf604960cc67c9e595b853", func := "gantry/gantrylaw18.ImpactProblem", spec := "impactProblem", unfollowed := true, recurses := true, apart := false, narrowed := true }
def ImpactProblemUptoSaid : Prop := impactProblemUptoRow.holds Tryz.pinned (OpenSpec.upto impactProblemSpec)

/-- 'gantrylaw18.ImpactSolves', WHERE WHAT IT READS IS OF BULK AT MOST 1048576: true; the input reads as it did. -/
def impactSolvesUptoRow : OpenClaim := { program := "ytcjdedkdoagifaagreat", sum := "e932d441e07a529bee28215ad1c6d82847fdb86a6daf604960cc67c9e595b853", func := "gantry/gantrylaw18.ImpactSolves", spec := "impactSolves", unfollowed := true, recurses := true, apart := false, narrowed := true }
def ImpactSolvesUptoSaid : Prop := impactSolvesUptoRow.holds Tryz.pinned (OpenSpec.upto impactSolvesSpec)

/-- 'gantrylaw18.ImpactChecks', WHERE WHAT IT READS IS OF BULK AT MOST 1048576: true; the input reads as it did. -/
def impactChecksUptoRow : OpenClaim := { program := "ytcjdedkdoagifaagreat", sum := "e932d441e07a529bee28215ad1c6d82847fdb86a6daf604960cc67c9e595b853", func := "gantry/gantrylaw18.ImpactChecks", spec := "impactChecks", unfollowed := true, recurses := true, apart := false, narrowed := true }
def ImpactChecksUptoSaid : Prop := impactChecksUptoRow.holds Tryz.pinned (OpenSpec.upto impactChecksSpec)

/-- 'gantrylaw18.ImpactEnergy', WHERE WHAT IT READS IS OF BULK AT MOST 1048576: true; the input reads as it did. -/
def impactEnergyUptoRow : OpenClaim := { program := "ytcjdedkdoagifaagreat", sum := "e932d441e07a529bee28215ad1c6d82847fdb86a6daf604960cc67c9e595b853", func := "gantry/gantrylaw18.ImpactEnergy", spec := "impactEnergy", unfollowed := true, recurses := true, apart := false, narrowed := true }
def ImpactEnergyUptoSaid : Prop := impactEnergyUptoRow.holds Tryz.pinned (OpenSpec.upto impactEnergySpec)

/-- 'gantrylaw18.ImpactMomentum', WHERE WHAT IT READS IS OF BULK AT MOST 1048576: true; the input reads as it did. -/
def impactMomentumUptoRow : OpenClaim := { program := "ytcjdedkdoagifaagreat", sum := "e932d441e07a529bee28215ad1c6d82847fdb86a6daf604960cc67c9e595b853", func := "gantry/gantrylaw18.ImpactMomentum", spec := "impactMomentum", unfollowed := true, recurses := true, apart := false, narrowed := true }
def ImpactMomentumUptoSaid : Prop := impactMomentumUptoRow.holds Tryz.pinned (OpenSpec.upto impactMomentumSpec)

/-- 'gantrylaw18.ImpactAlone', WHERE WHAT IT READS IS OF BULK AT MOST 1048576: true; the input reads as it did. -/
def impactAloneUptoRow : OpenClaim := { program := "ytcjdedkdoagifaagreat", sum := "e932d441e07a529bee28215ad1c6d82847fdb86a6daf604960cc67c9e595b853", func := "gantry/gantrylaw18.ImpactAlone", spec := "impactAlone", unfollowed := true, recurses := true, apart := false, narrowed := true }
def ImpactAloneUptoSaid : Prop := impactAloneUptoRow.holds Tryz.pinned (OpenSpec.upto impactAloneSpec)

end Rows
end Go.Proofs.YtcjdedkdoagifaaGreat
