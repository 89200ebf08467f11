/-
  No cell of these rows narrows 'for every input' (looked for: loops, veiled, ifaces, maps, wideKeys, modest, calm, conditions, laid).
  DERIVED. THE GIVEN ROWS OF THIS SEAT. 7 by the template 'for every input the law returns true; each argument reads behind the call as it read before'; 0 by the template 'total and deterministic' (their statements: YtalpjipopipncaaTotals.lean).
  GIVEN WITH THE SEED: the statements are not yours to turn. If you find one false, say at which input.
  Laid BY PROGRAM, IN A SANDBOX (cutbox-rows.mjs): the forced cells as the released guide's own fill.sh prints them over the translation 11bba2f4e74e22b9… (all of the seat's roots in one cut). By AI agents, Wed Nov 11 2026. No macro, syntax, notation, axiom, sorry.
-/
import Derived.Test.YtalpjipopipncaaChecked
import GoSem.Claim
import GoSem.ClaimJoined
import GoSem.ClaimMapViews
import Derived.JoinedTies
import Derived.KernelRfl
namespace Go.Proofs.Ytalpjipopipncaa
/- THE CELL 'sum', in the pinned program and in every row, IS THE sha256 OF THE DUMP (.gsa) THAT YtalpjipopipncaaProg.lean LOADS. Nothing in Lean hashes anything: it is a label: what it is worth is what the hold of that sum in a sandbox is worth. -/
noncomputable def Try.pinned : Pinned := { name := "ytalpjipopipncaa", sum := "11bba2f4e74e22b9fad7863d98e7b52a693393bd71c9fe007d81c4b6e35b3aaf", checked := Try.checked }
namespace Rows
def none {H : Type} : Left H := { results := [], args := [] }

/-- 'sluicelaw13.FlowsJoins': WHATEVER THE INPUT: true; the input reads as it did. -/
def flowsJoinsSpec : ChangeSpec := { name := "flowsJoins", fn := fun _ => fun
  | [d] => { results := [.lit (.bool true)], args := [d] }
  | _ => none }
def flowsJoinsRow : OpenClaim := { program := "ytalpjipopipncaa", sum := "11bba2f4e74e22b9fad7863d98e7b52a693393bd71c9fe007d81c4b6e35b3aaf", func := "sluice/sluicelaw13.FlowsJoins", spec := "flowsJoins", unfollowed := true, recurses := true, apart := false }
def FlowsJoinsSaid : Prop := flowsJoinsRow.holds Try.pinned (OpenSpec.ofChange flowsJoinsSpec)

/-- ITS FALSE NEIGHBOUR: 'it returns false'. Refute it at one input. -/
def flowsJoinsWrong : ChangeSpec := { name := "flowsJoins", fn := fun _ => fun
  | [d] => { results := [.lit (.bool false)], args := [d] }
  | _ => none }
def FlowsJoinsWrongFalsely : Prop := flowsJoinsRow.holds Try.pinned (OpenSpec.ofChange flowsJoinsWrong)

/-- 'sluicelaw13.FlowsJoined': WHATEVER THE INPUT: true; the input reads as it did. -/
def flowsJoinedSpec : ChangeSpec := { name := "flowsJoined", fn := fun _ => fun
  | [d] => { results := [.lit (.bool true)], args := [d] }
  | _ => none }
def flowsJoinedRow : OpenClaim := { program := "ytalpjipopipncaa", sum := "11bba2f4e74e22b9fad7863d98e7b52a693393bd71c9fe007d81c4b6e35b3aaf", func := "sluice/sluicelaw13.FlowsJoined", spec := "flowsJoined", unfollowed := true, recurses := true, apart := false }
def FlowsJoinedSaid : Prop := flowsJoinedRow.holds Try.pinned (OpenSpec.ofChange flowsJoinedSpec)

/-- ITS FALSE NEIGHBOUR: 'it returns false'. Refute it at one input. -/
def flowsJoinedWrong : ChangeSpec := { name := "flowsJoined", fn := fun _ => fun
  | [d] => { results := [.lit (.bool false)], args := [d] }
  | _ => none }
def FlowsJoinedWrongFalsely : Prop := flowsJoinedRow.holds Try.pinned (OpenSpec.ofChange flowsJoinedWrong)

/-- 'sluicelaw13.FlowsWays': WHATEVER THE INPUT: true; the input reads as it did. -/
def flowsWaysSpec : ChangeSpec := { name := "flowsWays", fn := fun _ => fun
  | [d1, d2, d3] => { results := [.lit (.bool true)], args := [d1, d2, d3] }
  | _ => none }
def flowsWaysRow : OpenClaim := { program := "ytalpjipopipncaa", sum := "11bba2f4e74e22b9fad7863d98e7b52a693393bd71c9fe007d81c4b6e35b3aaf", func := "sluice/sluicelaw13.FlowsWays", spec := "flowsWays", unfollowed := true, recurses := true, apart := false }
def FlowsWaysSaid : Prop := flowsWaysRow.holds Try.pinned (OpenSpec.ofChange flowsWaysSpec)

/-- ITS FALSE NEIGHBOUR: 'it returns false'. Refute it at one input. -/
def flowsWaysWrong : ChangeSpec := { name := "flowsWays", fn := fun _ => fun
  | [d1, d2, d3] => { results := [.lit (.bool false)], args := [d1, d2, d3] }
  | _ => none }
def FlowsWaysWrongFalsely : Prop := flowsWaysRow.holds Try.pinned (OpenSpec.ofChange flowsWaysWrong)

/-- 'sluicelaw13.FlowsTight': WHATEVER THE INPUT: true; the input reads as it did. -/
def flowsTightSpec : ChangeSpec := { name := "flowsTight", fn := fun _ => fun
  | [d1, d2, d3] => { results := [.lit (.bool true)], args := [d1, d2, d3] }
  | _ => none }
def flowsTightRow : OpenClaim := { program := "ytalpjipopipncaa", sum := "11bba2f4e74e22b9fad7863d98e7b52a693393bd71c9fe007d81c4b6e35b3aaf", func := "sluice/sluicelaw13.FlowsTight", spec := "flowsTight", unfollowed := true, recurses := true, apart := false }
def FlowsTightSaid : Prop := flowsTightRow.holds Try.pinned (OpenSpec.ofChange flowsTightSpec)

/-- ITS FALSE NEIGHBOUR: 'it returns false'. Refute it at one input. -/
def flowsTightWrong : ChangeSpec := { name := "flowsTight", fn := fun _ => fun
  | [d1, d2, d3] => { results := [.lit (.bool false)], args := [d1, d2, d3] }
  | _ => none }
def FlowsTightWrongFalsely : Prop := flowsTightRow.holds Try.pinned (OpenSpec.ofChange flowsTightWrong)

/-- 'sluicelaw13.FlowsLevels': WHATEVER THE INPUT: true; the input reads as it did. -/
def flowsLevelsSpec : ChangeSpec := { name := "flowsLevels", fn := fun _ => fun
  | [d1, d2] => { results := [.lit (.bool true)], args := [d1, d2] }
  | _ => none }
def flowsLevelsRow : OpenClaim := { program := "ytalpjipopipncaa", sum := "11bba2f4e74e22b9fad7863d98e7b52a693393bd71c9fe007d81c4b6e35b3aaf", func := "sluice/sluicelaw13.FlowsLevels", spec := "flowsLevels", unfollowed := true, recurses := true, apart := false }
def FlowsLevelsSaid : Prop := flowsLevelsRow.holds Try.pinned (OpenSpec.ofChange flowsLevelsSpec)

/-- ITS FALSE NEIGHBOUR: 'it returns false'. Refute it at one input. -/
def flowsLevelsWrong : ChangeSpec := { name := "flowsLevels", fn := fun _ => fun
  | [d1, d2] => { results := [.lit (.bool false)], args := [d1, d2] }
  | _ => none }
def FlowsLevelsWrongFalsely : Prop := flowsLevelsRow.holds Try.pinned (OpenSpec.ofChange flowsLevelsWrong)

/-- 'sluicelaw13.FlowsNear': WHATEVER THE INPUT: true; the input reads as it did. -/
def flowsNearSpec : ChangeSpec := { name := "flowsNear", fn := fun _ => fun
  | [d1, d2] => { results := [.lit (.bool true)], args := [d1, d2] }
  | _ => none }
def flowsNearRow : OpenClaim := { program := "ytalpjipopipncaa", sum := "11bba2f4e74e22b9fad7863d98e7b52a693393bd71c9fe007d81c4b6e35b3aaf", func := "sluice/sluicelaw13.FlowsNear", spec := "flowsNear", unfollowed := true, recurses := true, apart := false }
def FlowsNearSaid : Prop := flowsNearRow.holds Try.pinned (OpenSpec.ofChange flowsNearSpec)

/-- ITS FALSE NEIGHBOUR: 'it returns false'. Refute it at one input. -/
def flowsNearWrong : ChangeSpec := { name := "flowsNear", fn := fun _ => fun
  | [d1, d2] => { results := [.lit (.bool false)], args := [d1, d2] }
  | _ => none }
def FlowsNearWrongFalsely : Prop := flowsNearRow.holds Try.pinned (OpenSpec.ofChange flowsNearWrong)

/-- 'sluicelaw13.FlowsSteps': WHATEVER THE INPUT: true; the input reads as it did. -/
def flowsStepsSpec : ChangeSpec := { name := "flowsSteps", fn := fun _ => fun
  | [d1, d2] => { results := [.lit (.bool true)], args := [d1, d2] }
  | _ => none }
def flowsStepsRow : OpenClaim := { program := "ytalpjipopipncaa", sum := "11bba2f4e74e22b9fad7863d98e7b52a693393bd71c9fe007d81c4b6e35b3aaf", func := "sluice/sluicelaw13.FlowsSteps", spec := "flowsSteps", unfollowed := true, recurses := true, apart := false }
def FlowsStepsSaid : Prop := flowsStepsRow.holds Try.pinned (OpenSpec.ofChange flowsStepsSpec)

/-- ITS FALSE NEIGHBOUR: 'it returns false'. Refute it at one input. -/
def flowsStepsWrong : ChangeSpec := { name := "flowsSteps", fn := fun _ => fun
  | [d1, d2] => { results := [.lit (.bool false)], args := [d1, d2] }
  | _ => none }
def FlowsStepsWrongFalsely : Prop := flowsStepsRow.holds Try.pinned (OpenSpec.ofChange flowsStepsWrong)

/- THE SECOND FORM. 'bulk': how many values and letters a reading holds, each counted each time it is reached (what is shared counts as often as it is met; a slice's spare places count too). A statement '..UptoSaid' is the law's where the arguments, and the package variables that the reading takes, are together of bulk at most 1048576: NARROWER than '..Said'. Prove '..Said' where nothing that the law and all that it calls make is longer than what came in: it says more and counts as full. Else prove '..UptoSaid'. A law counts once. -/
mutual
def uptoBulk {H : Type} : DataW H → Nat
  | .lit (.string bytes) => bytes.length + 1
  | .lit _ => 1
  | .nil => 1
  | .ptr d => uptoBulk d + 1
  | .slice elems spare => uptoBulkAll elems + uptoBulkAll spare + 1
  | .agg parts => uptoBulkAll parts + 1
  | .iface _ d => uptoBulk d + 1
  | .map entries => uptoBulkEntries entries + 1
  | .held _ => 1
def uptoBulkAll {H : Type} : List (DataW H) → Nat
  | [] => 0
  | d :: r => uptoBulk d + uptoBulkAll r
def uptoBulkEntries {H : Type} : List (Lit × DataW H) → Nat
  | [] => 0
  | x :: r => uptoBulkEntry x + uptoBulkEntries r
def uptoBulkEntry {H : Type} : Lit × DataW H → Nat
  | (.string bytes, d) => bytes.length + uptoBulk d + 1
  | (_, d) => uptoBulk d + 1
 end
def uptoSmall : (H : Type) → List (DataW H) → Bool := fun _ ds => decide (uptoBulkAll ds ≤ 1048576)
def OpenSpec.upto (s : _root_.Go.ChangeSpec) : _root_.Go.OpenSpec := { _root_.Go.OpenSpec.ofChange s with cond := some uptoSmall }

/-- 'sluicelaw13.FlowsJoins', WHERE WHAT IT READS IS OF BULK AT MOST 1048576: true; the input reads as it did. -/
def flowsJoinsUptoRow : OpenClaim := { program := "ytalpjipopipncaa", sum := "11bba2f4e74e22b9fad7863d98e7b52a693393bd71c9fe007d81c4b6e35b3aaf", func := "sluice/sluicelaw13.FlowsJoins", spec := "flowsJoins", unfollowed := true, recurses := true, apart := false, narrowed := true }
def FlowsJoinsUptoSaid : Prop := flowsJoinsUptoRow.holds Try.pinned (OpenSpec.upto flowsJoinsSpec)

/-- 'sluicelaw13.FlowsJoined', WHERE WHAT IT READS IS OF BULK AT MOST 1048576: true; the input reads as it did. -/
def flowsJoinedUptoRow : OpenClaim := { program := "ytalpjipopipncaa", sum := "11bba2f4e74e22b9fad7863d98e7b52a693393bd71c9fe007d81c4b6e35b3aaf", func := "sluice/sluicelaw13.FlowsJoined", spec := "flowsJoined", unfollowed := true, recurses := true, apart := false, narrowed := true }
def FlowsJoinedUptoSaid : Prop := flowsJoinedUptoRow.holds Try.pinned (OpenSpec.upto flowsJoinedSpec)

/-- 'sluicelaw13.FlowsWays', WHERE WHAT IT READS IS OF BULK AT MOST 1048576: true; the input reads as it did. -/
def flowsWaysUptoRow : OpenClaim := { program := "ytalpjipopipncaa", sum := "11bba2f4e74e22b9fad7863d98e7b52a693393bd71c9fe007d81c4b6e35b3aaf", func := "sluice/sluicelaw13.FlowsWays", spec := "flowsWays", unfollowed := true, recurses := true, apart := false, narrowed := true }
def FlowsWaysUptoSaid : Prop := flowsWaysUptoRow.holds Try.pinned (OpenSpec.upto flowsWaysSpec)

/-- 'sluicelaw13.FlowsTight', WHERE WHAT IT READS IS OF BULK AT MOST 1048576: true; the input reads as it did. -/
def flowsTightUptoRow : OpenClaim := { program := "ytalpjipopipncaa", sum := "11bba2f4e74e22b9fad7863d98e7b52a693393bd71c9fe007d81c4b6e35b3aaf", func := "sluice/sluicelaw13.FlowsTight", spec := "flowsTight", unfollowed := true, recurses := true, apart := false, narrowed := true }
def FlowsTightUptoSaid : Prop := flowsTightUptoRow.holds Try.pinned (OpenSpec.upto flowsTightSpec)

/-- 'sluicelaw13.FlowsLevels', WHERE WHAT IT READS IS OF BULK AT MOST 1048576: true; the input reads as it did. -/
def flowsLevelsUptoRow : OpenClaim := { program := "ytalpjipopipncaa", sum := "11bba2f4e74e22b9fad7863d98e7b52a693393bd71c9fe007d81c4b6e35b3aaf", func := "sluice/sluicelaw13.FlowsLevels", spec := "flowsLevels", unfollowed := true, recurses := true, apart := false, narrowed := true }
def FlowsLevelsUptoSaid : Prop := flowsLevelsUptoRow.holds Try.pinned (OpenSpec.upto flowsLevelsSpec)

/-- 'sluicelaw13.FlowsNear', WHERE WHAT IT READS IS OF BULK AT MOST 1048576: true; the input reads as it did. -/
def flowsNearUptoRow : OpenClaim := { program := "ytalpjipopipncaa", sum := "11bba2f4e74e22b9fad7863d98e7b52a693393bd71c9fe007d81c4b6e35b3aaf", func := "sluice/sluicelaw13.FlowsNear", spec := "flowsNear", unfollowed := true, recurses := true, apart := false, narrowed := true }
def FlowsNearUptoSaid : Prop := flowsNearUptoRow.holds Try.pinned (OpenSpec.upto flowsNearSpec)

/-- 'sluicelaw13.FlowsSteps', WHERE WHAT IT READS IS OF BULK AT MOST 1048576: true; the input reads as it did. -/
def flowsStepsUptoRow : OpenClaim := { program := "ytalpjipopipncaa", sum := "11bba2f4e74e22b9fad7863d98e7b52a693393bd71c9fe007d81c4b6e35b3aaf", func := "sluice/sluicelaw13.FlowsSteps", spec := "flowsSteps", unfollowed := true, recurses := true, apart := false, narrowed := true }
def FlowsStepsUptoSaid : Prop := flowsStepsUptoRow.holds Try.pinned (OpenSpec.upto flowsStepsSpec)

end Rows
end Go.Proofs.Ytalpjipopipncaa
