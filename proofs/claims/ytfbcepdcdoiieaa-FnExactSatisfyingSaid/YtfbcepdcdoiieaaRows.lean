/-
  No cell of these rows narrows 'for every input' (looked for: loops, veiled, ifaces, maps, wideKeys, modest, calm, conditions, laid).
  DERIVED. THE GIVEN ROWS OF THIS SEAT. 6 by the template 'for every input the law returns true; each argument reads behind the call as it read before'; 0 by the template 'total and deterministic' (their statements: YtfbcepdcdoiieaaTotals.lean).
  GIVEN WITH THE SEED: the statements are not yours to turn. If you find one false, say at which input.
  Laid BY PROGRAM, IN A SANDBOX (cutbox-rows.mjs): the forced cells as the released guide's own fill.sh prints them over the translation 1b766eeac83012d5… (all of the seat's roots in one cut). By AI agents, Wed Nov 11 2026. No macro, syntax, notation, axiom, sorry.
-/
import Derived.Test.YtfbcepdcdoiieaaChecked
import GoSem.Claim
import GoSem.ClaimJoined
import GoSem.ClaimMapViews
import Derived.JoinedTies
import Derived.KernelRfl
namespace Go.Proofs.Ytfbcepdcdoiieaa
/- THE CELL 'sum', in the pinned program and in every row, IS THE sha256 OF THE DUMP (.gsa) THAT YtfbcepdcdoiieaaProg.lean LOADS. Nothing in Lean hashes anything: it is a label: what it is worth is what the hold of that sum in a sandbox is worth. -/
noncomputable def Try.pinned : Pinned := { name := "ytfbcepdcdoiieaa", sum := "1b766eeac83012d5e8a0b4183312459b6979ae489f60f84abd5a01c6cfe07c7f", checked := Try.checked }
namespace Rows
def none {H : Type} : Left H := { results := [], args := [] }

/-- 'laws.FnExactIsFormula': WHATEVER THE INPUT: true; the input reads as it did. -/
def fnExactIsFormulaSpec : ChangeSpec := { name := "fnExactIsFormula", fn := fun _ => fun
  | [d] => { results := [.lit (.bool true)], args := [d] }
  | _ => none }
def fnExactIsFormulaRow : OpenClaim := { program := "ytfbcepdcdoiieaa", sum := "1b766eeac83012d5e8a0b4183312459b6979ae489f60f84abd5a01c6cfe07c7f", func := "loop.example/g01082/laws.FnExactIsFormula", spec := "fnExactIsFormula", recurses := true, plainKeys := false, apart := false }
def FnExactIsFormulaSaid : Prop := fnExactIsFormulaRow.holds Try.pinned (OpenSpec.ofChange fnExactIsFormulaSpec)

/-- ITS FALSE NEIGHBOUR: 'it returns false'. Refute it at one input. -/
def fnExactIsFormulaWrong : ChangeSpec := { name := "fnExactIsFormula", fn := fun _ => fun
  | [d] => { results := [.lit (.bool false)], args := [d] }
  | _ => none }
def FnExactIsFormulaWrongFalsely : Prop := fnExactIsFormulaRow.holds Try.pinned (OpenSpec.ofChange fnExactIsFormulaWrong)

/-- 'laws.FnExactIsLabelled': WHATEVER THE INPUT: true; the input reads as it did. -/
def fnExactIsLabelledSpec : ChangeSpec := { name := "fnExactIsLabelled", fn := fun _ => fun
  | [d] => { results := [.lit (.bool true)], args := [d] }
  | _ => none }
def fnExactIsLabelledRow : OpenClaim := { program := "ytfbcepdcdoiieaa", sum := "1b766eeac83012d5e8a0b4183312459b6979ae489f60f84abd5a01c6cfe07c7f", func := "loop.example/g01082/laws.FnExactIsLabelled", spec := "fnExactIsLabelled", unfollowed := true, recurses := true, plainKeys := false, apart := false }
def FnExactIsLabelledSaid : Prop := fnExactIsLabelledRow.holds Try.pinned (OpenSpec.ofChange fnExactIsLabelledSpec)

/-- ITS FALSE NEIGHBOUR: 'it returns false'. Refute it at one input. -/
def fnExactIsLabelledWrong : ChangeSpec := { name := "fnExactIsLabelled", fn := fun _ => fun
  | [d] => { results := [.lit (.bool false)], args := [d] }
  | _ => none }
def FnExactIsLabelledWrongFalsely : Prop := fnExactIsLabelledRow.holds Try.pinned (OpenSpec.ofChange fnExactIsLabelledWrong)

/-- 'laws.FnExactSatisfying': WHATEVER THE INPUT: true; the input reads as it did. -/
def fnExactSatisfyingSpec : ChangeSpec := { name := "fnExactSatisfying", fn := fun _ => fun
  | [d1, d2] => { results := [.lit (.bool true)], args := [d1, d2] }
  | _ => none }
def fnExactSatisfyingRow : OpenClaim := { program := "ytfbcepdcdoiieaa", sum := "1b766eeac83012d5e8a0b4183312459b6979ae489f60f84abd5a01c6cfe07c7f", func := "loop.example/g01082/laws.FnExactSatisfying", spec := "fnExactSatisfying", unfollowed := true, recurses := true, plainKeys := false, apart := false }
def FnExactSatisfyingSaid : Prop := fnExactSatisfyingRow.holds Try.pinned (OpenSpec.ofChange fnExactSatisfyingSpec)

/-- ITS FALSE NEIGHBOUR: 'it returns false'. Refute it at one input. -/
def fnExactSatisfyingWrong : ChangeSpec := { name := "fnExactSatisfying", fn := fun _ => fun
  | [d1, d2] => { results := [.lit (.bool false)], args := [d1, d2] }
  | _ => none }
def FnExactSatisfyingWrongFalsely : Prop := fnExactSatisfyingRow.holds Try.pinned (OpenSpec.ofChange fnExactSatisfyingWrong)

/-- 'laws.FnExactUnionOf': WHATEVER THE INPUT: true; the input reads as it did. -/
def fnExactUnionOfSpec : ChangeSpec := { name := "fnExactUnionOf", fn := fun _ => fun
  | [d1, d2] => { results := [.lit (.bool true)], args := [d1, d2] }
  | _ => none }
def fnExactUnionOfRow : OpenClaim := { program := "ytfbcepdcdoiieaa", sum := "1b766eeac83012d5e8a0b4183312459b6979ae489f60f84abd5a01c6cfe07c7f", func := "loop.example/g01082/laws.FnExactUnionOf", spec := "fnExactUnionOf", unfollowed := true, recurses := true, plainKeys := false, apart := false }
def FnExactUnionOfSaid : Prop := fnExactUnionOfRow.holds Try.pinned (OpenSpec.ofChange fnExactUnionOfSpec)

/-- ITS FALSE NEIGHBOUR: 'it returns false'. Refute it at one input. -/
def fnExactUnionOfWrong : ChangeSpec := { name := "fnExactUnionOf", fn := fun _ => fun
  | [d1, d2] => { results := [.lit (.bool false)], args := [d1, d2] }
  | _ => none }
def FnExactUnionOfWrongFalsely : Prop := fnExactUnionOfRow.holds Try.pinned (OpenSpec.ofChange fnExactUnionOfWrong)

/-- 'laws.FnExactIsSimulated': WHATEVER THE INPUT: true; the input reads as it did. -/
def fnExactIsSimulatedSpec : ChangeSpec := { name := "fnExactIsSimulated", fn := fun _ => fun
  | [d1, d2, d3] => { results := [.lit (.bool true)], args := [d1, d2, d3] }
  | _ => none }
def fnExactIsSimulatedRow : OpenClaim := { program := "ytfbcepdcdoiieaa", sum := "1b766eeac83012d5e8a0b4183312459b6979ae489f60f84abd5a01c6cfe07c7f", func := "loop.example/g01082/laws.FnExactIsSimulated", spec := "fnExactIsSimulated", unfollowed := true, recurses := true, plainKeys := false, apart := false }
def FnExactIsSimulatedSaid : Prop := fnExactIsSimulatedRow.holds Try.pinned (OpenSpec.ofChange fnExactIsSimulatedSpec)

/-- ITS FALSE NEIGHBOUR: 'it returns false'. Refute it at one input. -/
def fnExactIsSimulatedWrong : ChangeSpec := { name := "fnExactIsSimulated", fn := fun _ => fun
  | [d1, d2, d3] => { results := [.lit (.bool false)], args := [d1, d2, d3] }
  | _ => none }
def FnExactIsSimulatedWrongFalsely : Prop := fnExactIsSimulatedRow.holds Try.pinned (OpenSpec.ofChange fnExactIsSimulatedWrong)

/-- 'laws.FnExactIsBisimulation': WHATEVER THE INPUT: true; the input reads as it did. -/
def fnExactIsBisimulationSpec : ChangeSpec := { name := "fnExactIsBisimulation", fn := fun _ => fun
  | [d1, d2] => { results := [.lit (.bool true)], args := [d1, d2] }
  | _ => none }
def fnExactIsBisimulationRow : OpenClaim := { program := "ytfbcepdcdoiieaa", sum := "1b766eeac83012d5e8a0b4183312459b6979ae489f60f84abd5a01c6cfe07c7f", func := "loop.example/g01082/laws.FnExactIsBisimulation", spec := "fnExactIsBisimulation", unfollowed := true, recurses := true, plainKeys := false, apart := false }
def FnExactIsBisimulationSaid : Prop := fnExactIsBisimulationRow.holds Try.pinned (OpenSpec.ofChange fnExactIsBisimulationSpec)

/-- ITS FALSE NEIGHBOUR: 'it returns false'. Refute it at one input. -/
def fnExactIsBisimulationWrong : ChangeSpec := { name := "fnExactIsBisimulation", fn := fun _ => fun
  | [d1, d2] => { results := [.lit (.bool false)], args := [d1, d2] }
  | _ => none }
def FnExactIsBisimulationWrongFalsely : Prop := fnExactIsBisimulationRow.holds Try.pinned (OpenSpec.ofChange fnExactIsBisimulationWrong)

/- THE SECOND FORM. 'bulk': how many values and letters a reading holds, each counted each time it is reached (what is shared counts as often as it is met; a slice's spare places count too). A statement '..UptoSaid' is the law's where the arguments, and the package variables that the reading takes, are together of bulk at most 1048576: NARROWER than '..Said'. Prove '..Said' where nothing that the law and all that it calls make is longer than what came in: it says more and counts as full. Else prove '..UptoSaid'. A law counts once. -/
mutual
def uptoBulk {H : Type} : DataW H → Nat
  | .lit (.string bytes) => bytes.length + 1
  | .lit _ => 1
  | .nil => 1
  | .ptr d => uptoBulk d + 1
  | .slice elems spare => uptoBulkAll elems + uptoBulkAll spare + 1
  | .agg parts => uptoBulkAll parts + 1
  | .iface _ d => uptoBulk d + 1
  | .map entries => uptoBulkEntries entries + 1
  | .held _ => 1
def uptoBulkAll {H : Type} : List (DataW H) → Nat
  | [] => 0
  | d :: r => uptoBulk d + uptoBulkAll r
def uptoBulkEntries {H : Type} : List (Lit × DataW H) → Nat
  | [] => 0
  | x :: r => uptoBulkEntry x + uptoBulkEntries r
def uptoBulkEntry {H : Type} : Lit × DataW H → Nat
  | (.string bytes, d) => bytes.length + uptoBulk d + 1
  | (_, d) => uptoBulk d + 1
 end
def uptoSmall : (H : Type) → List (DataW H) → Bool := fun _ ds => decide (uptoBulkAll ds ≤ 1048576)
def OpenSpec.upto (s : _root_.Go.ChangeSpec) : _root_.Go.OpenSpec := { _root_.Go.OpenSpec.ofChange s with cond := some uptoSmall }

/-- 'laws.FnExactIsFormula', WHERE WHAT IT READS IS OF BULK AT MOST 1048576: true; the input reads as it did. -/
def fnExactIsFormulaUptoRow : OpenClaim := { program := "ytfbcepdcdoiieaa", sum := "1b766eeac83012d5e8a0b4183312459b6979ae489f60f84abd5a01c6cfe07c7f", func := "loop.example/g01082/laws.FnExactIsFormula", spec := "fnExactIsFormula", recurses := true, plainKeys := false, apart := false, narrowed := true }
def FnExactIsFormulaUptoSaid : Prop := fnExactIsFormulaUptoRow.holds Try.pinned (OpenSpec.upto fnExactIsFormulaSpec)

/-- 'laws.FnExactIsLabelled', WHERE WHAT IT READS IS OF BULK AT MOST 1048576: true; the input reads as it did. -/
def fnExactIsLabelledUptoRow : OpenClaim := { program := "ytfbcepdcdoiieaa", sum := "1b766eeac83012d5e8a0b4183312459b6979ae489f60f84abd5a01c6cfe07c7f", func := "loop.example/g01082/laws.FnExactIsLabelled", spec := "fnExactIsLabelled", unfollowed := true, recurses := true, plainKeys := false, apart := false, narrowed := true }
def FnExactIsLabelledUptoSaid : Prop := fnExactIsLabelledUptoRow.holds Try.pinned (OpenSpec.upto fnExactIsLabelledSpec)

/-- 'laws.FnExactSatisfying', WHERE WHAT IT READS IS OF BULK AT MOST 1048576: true; the input reads as it did. -/
def fnExactSatisfyingUptoRow : OpenClaim := { program := "ytfbcepdcdoiieaa", sum := "1b766eeac83012d5e8a0b4183312459b6979ae489f60f84abd5a01c6cfe07c7f", func := "loop.example/g01082/laws.FnExactSatisfying", spec := "fnExactSatisfying", unfollowed := true, recurses := true, plainKeys := false, apart := false, narrowed := true }
def FnExactSatisfyingUptoSaid : Prop := fnExactSatisfyingUptoRow.holds Try.pinned (OpenSpec.upto fnExactSatisfyingSpec)

/-- 'laws.FnExactUnionOf', WHERE WHAT IT READS IS OF BULK AT MOST 1048576: true; the input reads as it did. -/
def fnExactUnionOfUptoRow : OpenClaim := { program := "ytfbcepdcdoiieaa", sum := "1b766eeac83012d5e8a0b4183312459b6979ae489f60f84abd5a01c6cfe07c7f", func := "loop.example/g01082/laws.FnExactUnionOf", spec := "fnExactUnionOf", unfollowed := true, recurses := true, plainKeys := false, apart := false, narrowed := true }
def FnExactUnionOfUptoSaid : Prop := fnExactUnionOfUptoRow.holds Try.pinned (OpenSpec.upto fnExactUnionOfSpec)

/-- 'laws.FnExactIsSimulated', WHERE WHAT IT READS IS OF BULK AT MOST 1048576: true; the input reads as it did. -/
def fnExactIsSimulatedUptoRow : OpenClaim := { program := "ytfbcepdcdoiieaa", sum := "1b766eeac83012d5e8a0b4183312459b6979ae489f60f84abd5a01c6cfe07c7f", func := "loop.example/g01082/laws.FnExactIsSimulated", spec := "fnExactIsSimulated", unfollowed := true, recurses := true, plainKeys := false, apart := false, narrowed := true }
def FnExactIsSimulatedUptoSaid : Prop := fnExactIsSimulatedUptoRow.holds Try.pinned (OpenSpec.upto fnExactIsSimulatedSpec)

/-- 'laws.FnExactIsBisimulation', WHERE WHAT IT READS IS OF BULK AT MOST 1048576: true; the input reads as it did. -/
def fnExactIsBisimulationUptoRow : OpenClaim := { program := "ytfbcepdcdoiieaa", sum := "1b766eeac83012d5e8a0b4183312459b6979ae489f60f84abd5a01c6cfe07c7f", func := "loop.example/g01082/laws.FnExactIsBisimulation", spec := "fnExactIsBisimulation", unfollowed := true, recurses := true, plainKeys := false, apart := false, narrowed := true }
def FnExactIsBisimulationUptoSaid : Prop := fnExactIsBisimulationUptoRow.holds Try.pinned (OpenSpec.upto fnExactIsBisimulationSpec)

end Rows
end Go.Proofs.Ytfbcepdcdoiieaa
