/-
  No cell of these rows narrows 'for every input' (looked for: loops, veiled, ifaces, maps, wideKeys, modest, calm, conditions, laid).
  DERIVED. THE GIVEN ROWS OF THIS SEAT. 4 by the template 'for every input the law returns true; each argument reads behind the call as it read before'; 0 by the template 'total and deterministic' (their statements: YtojdobpmknadhaaTotals.lean).
  GIVEN WITH THE SEED: the statements are not yours to turn. If you find one false, say at which input.
  Laid BY PROGRAM, IN A SANDBOX (cutbox-rows.mjs): the forced cells as the released guide's own fill.sh prints them over the translation 6fa0de5783360688… (all of the seat's roots in one cut). By AI agents, Wed Nov 11 2026. No macro, syntax, notation, axiom, sorry.
-/
import Derived.Test.YtojdobpmknadhaaChecked
import GoSem.Claim
import GoSem.ClaimJoined
import GoSem.ClaimMapViews
import Derived.JoinedTies
import Derived.KernelRfl
namespace Go.Proofs.Ytojdobpmknadhaa
/- THE CELL 'sum', in the pinned program and in every row, IS THE sha256 OF THE DUMP (.gsa) THAT YtojdobpmknadhaaProg.lean LOADS. Nothing in Lean hashes anything: it is a label: what it is worth is what the hold of that sum in a sandbox is worth. -/
noncomputable def Try.pinned : Pinned := { name := "ytojdobpmknadhaa", sum := "6fa0de57833606883a840a7d32a057ef9ab051a81da3527e96abba61e3f29ba4", checked := Try.checked }
namespace Rows
def none {H : Type} : Left H := { results := [], args := [] }

/-- 'laws.FnExactUnionOf': WHATEVER THE INPUT: true; the input reads as it did. -/
def fnExactUnionOfSpec : ChangeSpec := { name := "fnExactUnionOf", fn := fun _ => fun
  | [d1, d2] => { results := [.lit (.bool true)], args := [d1, d2] }
  | _ => none }
def fnExactUnionOfRow : OpenClaim := { program := "ytojdobpmknadhaa", sum := "6fa0de57833606883a840a7d32a057ef9ab051a81da3527e96abba61e3f29ba4", func := "loop.example/g01082/laws.FnExactUnionOf", spec := "fnExactUnionOf", unfollowed := true, recurses := true, plainKeys := false, apart := false }
def FnExactUnionOfSaid : Prop := fnExactUnionOfRow.holds Try.pinned (OpenSpec.ofChange fnExactUnionOfSpec)

/-- ITS FALSE NEIGHBOUR: 'it returns false'. Refute it at one input. -/
def fnExactUnionOfWrong : ChangeSpec := { name := "fnExactUnionOf", fn := fun _ => fun
  | [d1, d2] => { results := [.lit (.bool false)], args := [d1, d2] }
  | _ => none }
def FnExactUnionOfWrongFalsely : Prop := fnExactUnionOfRow.holds Try.pinned (OpenSpec.ofChange fnExactUnionOfWrong)

/-- 'laws.FnExactIsSimulated': WHATEVER THE INPUT: true; the input reads as it did. -/
def fnExactIsSimulatedSpec : ChangeSpec := { name := "fnExactIsSimulated", fn := fun _ => fun
  | [d1, d2, d3] => { results := [.lit (.bool true)], args := [d1, d2, d3] }
  | _ => none }
def fnExactIsSimulatedRow : OpenClaim := { program := "ytojdobpmknadhaa", sum := "6fa0de57833606883a840a7d32a057ef9ab051a81da3527e96abba61e3f29ba4", func := "loop.example/g01082/laws.FnExactIsSimulated", spec := "fnExactIsSimulated", unfollowed := true, recurses := true, plainKeys := false, apart := false }
def FnExactIsSimulatedSaid : Prop := fnExactIsSimulatedRow.holds Try.pinned (OpenSpec.ofChange fnExactIsSimulatedSpec)

/-- ITS FALSE NEIGHBOUR: 'it returns false'. Refute it at one input. -/
def fnExactIsSimulatedWrong : ChangeSpec := { name := "fnExactIsSimulated", fn := fun _ => fun
  | [d1, d2, d3] => { results := [.lit (.bool false)], args := [d1, d2, d3] }
  | _ => none }
def FnExactIsSimulatedWrongFalsely : Prop := fnExactIsSimulatedRow.holds Try.pinned (OpenSpec.ofChange fnExactIsSimulatedWrong)

/-- 'laws.FnExactIsBisimulation': WHATEVER THE INPUT: true; the input reads as it did. -/
def fnExactIsBisimulationSpec : ChangeSpec := { name := "fnExactIsBisimulation", fn := fun _ => fun
  | [d1, d2] => { results := [.lit (.bool true)], args := [d1, d2] }
  | _ => none }
def fnExactIsBisimulationRow : OpenClaim := { program := "ytojdobpmknadhaa", sum := "6fa0de57833606883a840a7d32a057ef9ab051a81da3527e96abba61e3f29ba4", func := "loop.example/g01082/laws.FnExactIsBisimulation", spec := "fnExactIsBisimulation", unfollowed := true, recurses := true, plainKeys := false, apart := false }
def FnExactIsBisimulationSaid : Prop := fnExactIsBisimulationRow.holds Try.pinned (OpenSpec.ofChange fnExactIsBisimulationSpec)

/-- ITS FALSE NEIGHBOUR: 'it returns false'. Refute it at one input. -/
def fnExactIsBisimulationWrong : ChangeSpec := { name := "fnExactIsBisimulation", fn := fun _ => fun
  | [d1, d2] => { results := [.lit (.bool false)], args := [d1, d2] }
  | _ => none }
def FnExactIsBisimulationWrongFalsely : Prop := fnExactIsBisimulationRow.holds Try.pinned (OpenSpec.ofChange fnExactIsBisimulationWrong)

/-- 'laws.FnExactSaturateLabels': WHATEVER THE INPUT: true; the input reads as it did. -/
def fnExactSaturateLabelsSpec : ChangeSpec := { name := "fnExactSaturateLabels", fn := fun _ => fun
  | [d] => { results := [.lit (.bool true)], args := [d] }
  | _ => none }
def fnExactSaturateLabelsRow : OpenClaim := { program := "ytojdobpmknadhaa", sum := "6fa0de57833606883a840a7d32a057ef9ab051a81da3527e96abba61e3f29ba4", func := "loop.example/g01082/laws.FnExactSaturateLabels", spec := "fnExactSaturateLabels", unfollowed := true, recurses := true, plainKeys := false, apart := false }
def FnExactSaturateLabelsSaid : Prop := fnExactSaturateLabelsRow.holds Try.pinned (OpenSpec.ofChange fnExactSaturateLabelsSpec)

/-- ITS FALSE NEIGHBOUR: 'it returns false'. Refute it at one input. -/
def fnExactSaturateLabelsWrong : ChangeSpec := { name := "fnExactSaturateLabels", fn := fun _ => fun
  | [d] => { results := [.lit (.bool false)], args := [d] }
  | _ => none }
def FnExactSaturateLabelsWrongFalsely : Prop := fnExactSaturateLabelsRow.holds Try.pinned (OpenSpec.ofChange fnExactSaturateLabelsWrong)

/- THE SECOND FORM. 'bulk': how many values and letters a reading holds, each counted each time it is reached (what is shared counts as often as it is met; a slice's spare places count too). A statement '..UptoSaid' is the law's where the arguments, and the package variables that the reading takes, are together of bulk at most 1048576: NARROWER than '..Said'. Prove '..Said' where nothing that the law and all that it calls make is longer than what came in: it says more and counts as full. Else prove '..UptoSaid'. A law counts once. -/
mutual
def uptoBulk {H : Type} : DataW H → Nat
  | .lit (.string bytes) => bytes.length + 1
  | .lit _ => 1
  | .nil => 1
  | .ptr d => uptoBulk d + 1
  | .slice elems spare => uptoBulkAll elems + uptoBulkAll spare + 1
  | .agg parts => uptoBulkAll parts + 1
  | .iface _ d => uptoBulk d + 1
  | .map entries => uptoBulkEntries entries + 1
  | .held _ => 1
def uptoBulkAll {H : Type} : List (DataW H) → Nat
  | [] => 0
  | d :: r => uptoBulk d + uptoBulkAll r
def uptoBulkEntries {H : Type} : List (Lit × DataW H) → Nat
  | [] => 0
  | x :: r => uptoBulkEntry x + uptoBulkEntries r
def uptoBulkEntry {H : Type} : Lit × DataW H → Nat
  | (.string bytes, d) => bytes.length + uptoBulk d + 1
  | (_, d) => uptoBulk d + 1
 end
def uptoSmall : (H : Type) → List (DataW H) → Bool := fun _ ds => decide (uptoBulkAll ds ≤ 1048576)
def OpenSpec.upto (s : _root_.Go.ChangeSpec) : _root_.Go.OpenSpec := { _root_.Go.OpenSpec.ofChange s with cond := some uptoSmall }

/-- 'laws.FnExactUnionOf', WHERE WHAT IT READS IS OF BULK AT MOST 1048576: true; the input reads as it did. -/
def fnExactUnionOfUptoRow : OpenClaim := { program := "ytojdobpmknadhaa", sum := "6fa0de57833606883a840a7d32a057ef9ab051a81da3527e96abba61e3f29ba4", func := "loop.example/g01082/laws.FnExactUnionOf", spec := "fnExactUnionOf", unfollowed := true, recurses := true, plainKeys := false, apart := false, narrowed := true }
def FnExactUnionOfUptoSaid : Prop := fnExactUnionOfUptoRow.holds Try.pinned (OpenSpec.upto fnExactUnionOfSpec)

/-- 'laws.FnExactIsSimulated', WHERE WHAT IT READS IS OF BULK AT MOST 1048576: true; the input reads as it did. -/
def fnExactIsSimulatedUptoRow : OpenClaim := { program := "ytojdobpmknadhaa", sum := "6fa0de57833606883a840a7d32a057ef9ab051a81da3527e96abba61e3f29ba4", func := "loop.example/g01082/laws.FnExactIsSimulated", spec := "fnExactIsSimulated", unfollowed := true, recurses := true, plainKeys := false, apart := false, narrowed := true }
def FnExactIsSimulatedUptoSaid : Prop := fnExactIsSimulatedUptoRow.holds Try.pinned (OpenSpec.upto fnExactIsSimulatedSpec)

/-- 'laws.FnExactIsBisimulation', WHERE WHAT IT READS IS OF BULK AT MOST 1048576: true; the input reads as it did. -/
def fnExactIsBisimulationUptoRow : OpenClaim := { program := "ytojdobpmknadhaa", sum := "6fa0de57833606883a840a7d32a057ef9ab051a81da3527e96abba61e3f29ba4", func := "loop.example/g01082/laws.FnExactIsBisimulation", spec := "fnExactIsBisimulation", unfollowed := true, recurses := true, plainKeys := false, apart := false, narrowed := true }
def FnExactIsBisimulationUptoSaid : Prop := fnExactIsBisimulationUptoRow.holds Try.pinned (OpenSpec.upto fnExactIsBisimulationSpec)

/-- 'laws.FnExactSaturateLabels', WHERE WHAT IT READS IS OF BULK AT MOST 1048576: true; the input reads as it did. -/
def fnExactSaturateLabelsUptoRow : OpenClaim := { program := "ytojdobpmknadhaa", sum := "6fa0de57833606883a840a7d32a057ef9ab051a81da3527e96abba61e3f29ba4", func := "loop.example/g01082/laws.FnExactSaturateLabels", spec := "fnExactSaturateLabels", unfollowed := true, recurses := true, plainKeys := false, apart := false, narrowed := true }
def FnExactSaturateLabelsUptoSaid : Prop := fnExactSaturateLabelsUptoRow.holds Try.pinned (OpenSpec.upto fnExactSaturateLabelsSpec)

end Rows
end Go.Proofs.Ytojdobpmknadhaa
