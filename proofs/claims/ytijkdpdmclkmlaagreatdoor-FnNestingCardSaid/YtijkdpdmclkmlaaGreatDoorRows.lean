/-
  NARROWER THAN 'FOR EVERY INPUT', by the rows' own cells (each row's printed sentence says how): FnElements: laid · FnIons: laid · FnComposition: laid · FnWirings: laid · FnInverses: laid · FnNesting: laid · FnKinds: laid.
  DERIVED. THE GIVEN ROWS OF THIS SEAT. 7 by the template 'for every input the law returns true; each argument reads behind the call as it read before'; 0 by the template 'total and deterministic' (their statements: YtijkdpdmclkmlaaGreatDoorTotals.lean).
  GIVEN WITH THE SEED: the statements are not yours to turn. If you find one false, say at which input.
  Laid BY PROGRAM, IN A SANDBOX (cutbox-rows.mjs): the forced cells as the released guide's own fill.sh prints them over the translation 8692a9a83d9dc91d… (all of the seat's roots in one cut). By AI agents, Wed Nov 11 2026. No macro, syntax, notation, axiom, sorry.
-/
import Derived.Test.YtijkdpdmclkmlaaGreatDoorChecked
import GoSem.PinnedTables
import GoSem.Claim
import GoSem.ClaimJoined
import GoSem.ClaimMapViews
import Derived.JoinedTies
import Derived.KernelRfl
namespace Go.Proofs.YtijkdpdmclkmlaaGreatDoor
/- THE CELL 'sum', in the pinned program and in every row, IS THE sha256 OF THE DUMP (.gsa) THAT YtijkdpdmclkmlaaGreatDoorProg.lean LOADS. Nothing in Lean hashes anything: it is a label: what it is worth is what the hold of that sum in a sandbox is worth. -/
noncomputable def Tryz.pinned : Pinned := { name := "ytijkdpdmclkmlaagreatdoor", sum := "8692a9a83d9dc91db6744cf85ccb2cfbac5659a9370ff551719d96f4bb691248", checked := Tryz.checked }
namespace Rows
def none {H : Type} : Left H := { results := [], args := [] }

/- WHAT THE LISTED PACKAGE-LEVEL VARIABLES READ AS WHEN THE CALL BEGINS. Each datum BY PROGRAM (the guide's laid-datum.mjs) off the statement by which the dump's own 'gosem.cut.vars' lays the variable. In a bare row this is a premise. The card (YtijkdpdmclkmlaaGreatDoorCards.lean) ties it to the program's text. -/
def laid_unicode_utf8_acceptRanges {H : Type} : DataW H := .agg [.agg [.lit (.int .u8 128), .lit (.int .u8 191)], .agg [.lit (.int .u8 160), .lit (.int .u8 191)], .agg [.lit (.int .u8 128), .lit (.int .u8 159)], .agg [.lit (.int .u8 144), .lit (.int .u8 191)], .agg [.lit (.int .u8 128), .lit (.int .u8 143)], .agg [.lit (.int .u8 0), .lit (.int .u8 0)], .agg [.lit (.int .u8 0), .lit (.int .u8 0)], .agg [.lit (.int .u8 0), .lit (.int .u8 0)], .agg [.lit (.int .u8 0), .lit (.int .u8 0)], .agg [.lit (.int .u8 0), .lit (.int .u8 0)], .agg [.lit (.int .u8 0), .lit (.int .u8 0)], .agg [.lit (.int .u8 0), .lit (.int .u8 0)], .agg [.lit (.int .u8 0), .lit (.int .u8 0)], .agg [.lit (.int .u8 0), .lit (.int .u8 0)], .agg [.lit (.int .u8 0), .lit (.int .u8 0)], .agg [.lit (.int .u8 0), .lit (.int .u8 0)]]
/-- One of Go's own tables, pinned by name: the form's constant. -/
def laid_unicode_utf8_first : DataW Unit := Go.Pinned.utf8First

/-- 'laws.FnElements': WHATEVER THE INPUT: true; the input reads as it did. -/
def fnElementsSpec : ChangeSpec := { name := "fnElements", fn := fun _ => fun
  | [d] => { results := [.lit (.bool true)], args := [d] }
  | _ => none }
def fnElementsRow : OpenClaim := { program := "ytijkdpdmclkmlaagreatdoor", sum := "8692a9a83d9dc91db6744cf85ccb2cfbac5659a9370ff551719d96f4bb691248", func := "loop.example/g01082/laws.FnElements", spec := "fnElements", inPlace := ["internal/bytealg.IndexByteString", "internal/bytealg.IndexString"], unfollowed := true, recurses := true, named := ["unicode/utf8.first", "unicode/utf8.acceptRanges", "internal/bytealg.MaxLen"], apart := false, laid := [("unicode/utf8.acceptRanges", laid_unicode_utf8_acceptRanges), ("unicode/utf8.first", laid_unicode_utf8_first)] }
def FnElementsSaid : Prop := fnElementsRow.holds Tryz.pinned (OpenSpec.ofChange fnElementsSpec)

/-- ITS FALSE NEIGHBOUR: 'it returns false'. Refute it at one input. -/
def fnElementsWrong : ChangeSpec := { name := "fnElements", fn := fun _ => fun
  | [d] => { results := [.lit (.bool false)], args := [d] }
  | _ => none }
def FnElementsWrongFalsely : Prop := fnElementsRow.holds Tryz.pinned (OpenSpec.ofChange fnElementsWrong)

/-- 'laws.FnIons': WHATEVER THE INPUT: true; the input reads as it did. -/
def fnIonsSpec : ChangeSpec := { name := "fnIons", fn := fun _ => fun
  | [d] => { results := [.lit (.bool true)], args := [d] }
  | _ => none }
def fnIonsRow : OpenClaim := { program := "ytijkdpdmclkmlaagreatdoor", sum := "8692a9a83d9dc91db6744cf85ccb2cfbac5659a9370ff551719d96f4bb691248", func := "loop.example/g01082/laws.FnIons", spec := "fnIons", inPlace := ["internal/bytealg.IndexByteString", "internal/bytealg.IndexString"], unfollowed := true, recurses := true, named := ["unicode/utf8.first", "unicode/utf8.acceptRanges", "internal/bytealg.MaxLen"], apart := false, laid := [("unicode/utf8.acceptRanges", laid_unicode_utf8_acceptRanges), ("unicode/utf8.first", laid_unicode_utf8_first)] }
def FnIonsSaid : Prop := fnIonsRow.holds Tryz.pinned (OpenSpec.ofChange fnIonsSpec)

/-- ITS FALSE NEIGHBOUR: 'it returns false'. Refute it at one input. -/
def fnIonsWrong : ChangeSpec := { name := "fnIons", fn := fun _ => fun
  | [d] => { results := [.lit (.bool false)], args := [d] }
  | _ => none }
def FnIonsWrongFalsely : Prop := fnIonsRow.holds Tryz.pinned (OpenSpec.ofChange fnIonsWrong)

/-- 'laws.FnComposition': WHATEVER THE INPUT: true; the input reads as it did. -/
def fnCompositionSpec : ChangeSpec := { name := "fnComposition", fn := fun _ => fun
  | [d] => { results := [.lit (.bool true)], args := [d] }
  | _ => none }
def fnCompositionRow : OpenClaim := { program := "ytijkdpdmclkmlaagreatdoor", sum := "8692a9a83d9dc91db6744cf85ccb2cfbac5659a9370ff551719d96f4bb691248", func := "loop.example/g01082/laws.FnComposition", spec := "fnComposition", inPlace := ["internal/bytealg.IndexByteString", "internal/bytealg.IndexString"], unfollowed := true, recurses := true, named := ["unicode/utf8.first", "unicode/utf8.acceptRanges", "internal/bytealg.MaxLen"], apart := false, laid := [("unicode/utf8.acceptRanges", laid_unicode_utf8_acceptRanges), ("unicode/utf8.first", laid_unicode_utf8_first)] }
def FnCompositionSaid : Prop := fnCompositionRow.holds Tryz.pinned (OpenSpec.ofChange fnCompositionSpec)

/-- ITS FALSE NEIGHBOUR: 'it returns false'. Refute it at one input. -/
def fnCompositionWrong : ChangeSpec := { name := "fnComposition", fn := fun _ => fun
  | [d] => { results := [.lit (.bool false)], args := [d] }
  | _ => none }
def FnCompositionWrongFalsely : Prop := fnCompositionRow.holds Tryz.pinned (OpenSpec.ofChange fnCompositionWrong)

/-- 'laws.FnWirings': WHATEVER THE INPUT: true; the input reads as it did. -/
def fnWiringsSpec : ChangeSpec := { name := "fnWirings", fn := fun _ => fun
  | [d] => { results := [.lit (.bool true)], args := [d] }
  | _ => none }
def fnWiringsRow : OpenClaim := { program := "ytijkdpdmclkmlaagreatdoor", sum := "8692a9a83d9dc91db6744cf85ccb2cfbac5659a9370ff551719d96f4bb691248", func := "loop.example/g01082/laws.FnWirings", spec := "fnWirings", inPlace := ["internal/bytealg.IndexByteString", "internal/bytealg.IndexString"], unfollowed := true, recurses := true, named := ["unicode/utf8.first", "unicode/utf8.acceptRanges", "internal/bytealg.MaxLen"], apart := false, laid := [("unicode/utf8.acceptRanges", laid_unicode_utf8_acceptRanges), ("unicode/utf8.first", laid_unicode_utf8_first)] }
def FnWiringsSaid : Prop := fnWiringsRow.holds Tryz.pinned (OpenSpec.ofChange fnWiringsSpec)

/-- ITS FALSE NEIGHBOUR: 'it returns false'. Refute it at one input. -/
def fnWiringsWrong : ChangeSpec := { name := "fnWirings", fn := fun _ => fun
  | [d] => { results := [.lit (.bool false)], args := [d] }
  | _ => none }
def FnWiringsWrongFalsely : Prop := fnWiringsRow.holds Tryz.pinned (OpenSpec.ofChange fnWiringsWrong)

/-- 'laws.FnInverses': WHATEVER THE INPUT: true; the input reads as it did. -/
def fnInversesSpec : ChangeSpec := { name := "fnInverses", fn := fun _ => fun
  | [d] => { results := [.lit (.bool true)], args := [d] }
  | _ => none }
def fnInversesRow : OpenClaim := { program := "ytijkdpdmclkmlaagreatdoor", sum := "8692a9a83d9dc91db6744cf85ccb2cfbac5659a9370ff551719d96f4bb691248", func := "loop.example/g01082/laws.FnInverses", spec := "fnInverses", inPlace := ["internal/bytealg.IndexByteString", "internal/bytealg.IndexString"], unfollowed := true, recurses := true, named := ["unicode/utf8.first", "unicode/utf8.acceptRanges", "internal/bytealg.MaxLen"], apart := false, laid := [("unicode/utf8.acceptRanges", laid_unicode_utf8_acceptRanges), ("unicode/utf8.first", laid_unicode_utf8_first)] }
def FnInversesSaid : Prop := fnInversesRow.holds Tryz.pinned (OpenSpec.ofChange fnInversesSpec)

/-- ITS FALSE NEIGHBOUR: 'it returns false'. Refute it at one input. -/
def fnInversesWrong : ChangeSpec := { name := "fnInverses", fn := fun _ => fun
  | [d] => { results := [.lit (.bool false)], args := [d] }
  | _ => none }
def FnInversesWrongFalsely : Prop := fnInversesRow.holds Tryz.pinned (OpenSpec.ofChange fnInversesWrong)

/-- 'laws.FnNesting': WHATEVER THE INPUT: true; the input reads as it did. -/
def fnNestingSpec : ChangeSpec := { name := "fnNesting", fn := fun _ => fun
  | [d] => { results := [.lit (.bool true)], args := [d] }
  | _ => none }
def fnNestingRow : OpenClaim := { program := "ytijkdpdmclkmlaagreatdoor", sum := "8692a9a83d9dc91db6744cf85ccb2cfbac5659a9370ff551719d96f4bb691248", func := "loop.example/g01082/laws.FnNesting", spec := "fnNesting", inPlace := ["internal/bytealg.IndexByteString", "internal/bytealg.IndexString"], unfollowed := true, recurses := true, named := ["unicode/utf8.first", "unicode/utf8.acceptRanges", "internal/bytealg.MaxLen"], apart := false, laid := [("unicode/utf8.acceptRanges", laid_unicode_utf8_acceptRanges), ("unicode/utf8.first", laid_unicode_utf8_first)] }
def FnNestingSaid : Prop := fnNestingRow.holds Tryz.pinned (OpenSpec.ofChange fnNestingSpec)

/-- ITS FALSE NEIGHBOUR: 'it returns false'. Refute it at one input. -/
def fnNestingWrong : ChangeSpec := { name := "fnNesting", fn := fun _ => fun
  | [d] => { results := [.lit (.bool false)], args := [d] }
  | _ => none }
def FnNestingWrongFalsely : Prop := fnNestingRow.holds Tryz.pinned (OpenSpec.ofChange fnNestingWrong)

/-- 'laws.FnKinds': WHATEVER THE INPUT: true; the input reads as it did. -/
def fnKindsSpec : ChangeSpec := { name := "fnKinds", fn := fun _ => fun
  | [d] => { results := [.lit (.bool true)], args := [d] }
  | _ => none }
def fnKindsRow : OpenClaim := { program := "ytijkdpdmclkmlaagreatdoor", sum := "8692a9a83d9dc91db6744cf85ccb2cfbac5659a9370ff551719d96f4bb691248", func := "loop.example/g01082/laws.FnKinds", spec := "fnKinds", inPlace := ["internal/bytealg.IndexByteString", "internal/bytealg.IndexString"], unfollowed := true, recurses := true, named := ["unicode/utf8.first", "unicode/utf8.acceptRanges", "internal/bytealg.MaxLen"], apart := false, laid := [("unicode/utf8.acceptRanges", laid_unicode_utf8_acceptRanges), ("unicode/utf8.first", laid_unicode_utf8_first)] }
def FnKindsSaid : Prop := fnKindsRow.holds Tryz.pinned (OpenSpec.ofChange fnKindsSpec)

/-- ITS FALSE NEIGHBOUR: 'it returns false'. Refute it at one input. -/
def fnKindsWrong : ChangeSpec := { name := "fnKinds", fn := fun _ => fun
  | [d] => { results := [.lit (.bool false)], args := [d] }
  | _ => none }
def FnKindsWrongFalsely : Prop := fnKindsRow.holds Tryz.pinned (OpenSpec.ofChange fnKindsWrong)

/- THE SECOND FORM. 'bulk': how many values and letters a reading holds, each counted each time it is reached (what is shared counts as often as it is met; a slice's spare places count too). A statement '..UptoSaid' is the law's where the arguments, and the package variables that the reading takes, are together of bulk at most 1048576: NARROWER than '..Said'. Prove '..Said' where nothing that the law and all that it calls make is longer than what came in: it says more and counts as full. Else prove '..UptoSaid'. A law counts once. -/
mutual
def uptoBulk {H : Type} : DataW H → Nat
  | .lit (.string bytes) => bytes.length + 1
  | .lit _ => 1
  | .nil => 1
  | .ptr d => uptoBulk d + 1
  | .slice elems spare => uptoBulkAll elems + uptoBulkAll spare + 1
  | .agg parts => uptoBulkAll parts + 1
  | .iface _ d => uptoBulk d + 1
  | .map entries => uptoBulkEntries entries + 1
  | .held _ => 1
def uptoBulkAll {H : Type} : List (DataW H) → Nat
  | [] => 0
  | d :: r => uptoBulk d + uptoBulkAll r
def uptoBulkEntries {H : Type} : List (Lit × DataW H) → Nat
  | [] => 0
  | x :: r => uptoBulkEntry x + uptoBulkEntries r
def uptoBulkEntry {H : Type} : Lit × DataW H → Nat
  | (.string bytes, d) => bytes.length + uptoBulk d + 1
  | (_, d) => uptoBulk d + 1
 end
def uptoSmall : (H : Type) → List (DataW H) → Bool := fun _ ds => decide (uptoBulkAll ds ≤ 1048576)
def OpenSpec.upto (s : _root_.Go.ChangeSpec) : _root_.Go.OpenSpec := { _root_.Go.OpenSpec.ofChange s with cond := some uptoSmall }

/-- 'laws.FnElements', WHERE WHAT IT READS IS OF BULK AT MOST 1048576: true; the input reads as it did. -/
def fnElementsUptoRow : OpenClaim := { program := "ytijkdpdmclkmlaagreatdoor", sum := "8692a9a83d9dc91db6744cf85ccb2cfbac5659a9370ff551719d96f4bb691248", func := "loop.example/g01082/laws.FnElements", spec := "fnElements", inPlace := ["internal/bytealg.IndexByteString", "internal/bytealg.IndexString"], unfollowed := true, recurses := true, named := ["unicode/utf8.first", "unicode/utf8.acceptRanges", "internal/bytealg.MaxLen"], apart := false, laid := [("unicode/utf8.acceptRanges", laid_unicode_utf8_acceptRanges), ("unicode/utf8.first", laid_unicode_utf8_first)], narrowed := true }
def FnElementsUptoSaid : Prop := fnElementsUptoRow.holds Tryz.pinned (OpenSpec.upto fnElementsSpec)

/-- 'laws.FnIons', WHERE WHAT IT READS IS OF BULK AT MOST 1048576: true; the input reads as it did. -/
def fnIonsUptoRow : OpenClaim := { program := "ytijkdpdmclkmlaagreatdoor", sum := "8692a9a83d9dc91db6744cf85ccb2cfbac5659a9370ff551719d96f4bb691248", func := "loop.example/g01082/laws.FnIons", spec := "fnIons", inPlace := ["internal/bytealg.IndexByteString", "internal/bytealg.IndexString"], unfollowed := true, recurses := true, named := ["unicode/utf8.first", "unicode/utf8.acceptRanges", "internal/bytealg.MaxLen"], apart := false, laid := [("unicode/utf8.acceptRanges", laid_unicode_utf8_acceptRanges), ("unicode/utf8.first", laid_unicode_utf8_first)], narrowed := true }
def FnIonsUptoSaid : Prop := fnIonsUptoRow.holds Tryz.pinned (OpenSpec.upto fnIonsSpec)

/-- 'laws.FnComposition', WHERE WHAT IT READS IS OF BULK AT MOST 1048576: true; the input reads as it did. -/
def fnCompositionUptoRow : OpenClaim := { program := "ytijkdpdmclkmlaagreatdoor", sum := "8692a9a83d9dc91db6744cf85ccb2cfbac5659a9370ff551719d96f4bb691248", func := "loop.example/g01082/laws.FnComposition", spec := "fnComposition", inPlace := ["internal/bytealg.IndexByteString", "internal/bytealg.IndexString"], unfollowed := true, recurses := true, named := ["unicode/utf8.first", "unicode/utf8.acceptRanges", "internal/bytealg.MaxLen"], apart := false, laid := [("unicode/utf8.acceptRanges", laid_unicode_utf8_acceptRanges), ("unicode/utf8.first", laid_unicode_utf8_first)], narrowed := true }
def FnCompositionUptoSaid : Prop := fnCompositionUptoRow.holds Tryz.pinned (OpenSpec.upto fnCompositionSpec)

/-- 'laws.FnWirings', WHERE WHAT IT READS IS OF BULK AT MOST 1048576: true; the input reads as it did. -/
def fnWiringsUptoRow : OpenClaim := { program := "ytijkdpdmclkmlaagreatdoor", sum := "8692a9a83d9dc91db6744cf85ccb2cfbac5659a9370ff551719d96f4bb691248", func := "loop.example/g01082/laws.FnWirings", spec := "fnWirings", inPlace := ["internal/bytealg.IndexByteString", "internal/bytealg.IndexString"], unfollowed := true, recurses := true, named := ["unicode/utf8.first", "unicode/utf8.acceptRanges", "internal/bytealg.MaxLen"], apart := false, laid := [("unicode/utf8.acceptRanges", laid_unicode_utf8_acceptRanges), ("unicode/utf8.first", laid_unicode_utf8_first)], narrowed := true }
def FnWiringsUptoSaid : Prop := fnWiringsUptoRow.holds Tryz.pinned (OpenSpec.upto fnWiringsSpec)

/-- 'laws.FnInverses', WHERE WHAT IT READS IS OF BULK AT MOST 1048576: true; the input reads as it did. -/
def fnInversesUptoRow : OpenClaim := { program := "ytijkdpdmclkmlaagreatdoor", sum := "8692a9a83d9dc91db6744cf85ccb2cfbac5659a9370ff551719d96f4bb691248", func := "loop.example/g01082/laws.FnInverses", spec := "fnInverses", inPlace := ["internal/bytealg.IndexByteString", "internal/bytealg.IndexString"], unfollowed := true, recurses := true, named := ["unicode/utf8.first", "unicode/utf8.acceptRanges", "internal/bytealg.MaxLen"], apart := false, laid := [("unicode/utf8.acceptRanges", laid_unicode_utf8_acceptRanges), ("unicode/utf8.first", laid_unicode_utf8_first)], narrowed := true }
def FnInversesUptoSaid : Prop := fnInversesUptoRow.holds Tryz.pinned (OpenSpec.upto fnInversesSpec)

/-- 'laws.FnNesting', WHERE WHAT IT READS IS OF BULK AT MOST 1048576: true; the input reads as it did. -/
def fnNestingUptoRow : OpenClaim := { program := "ytijkdpdmclkmlaagreatdoor", sum := "8692a9a83d9dc91db6744cf85ccb2cfbac5659a9370ff551719d96f4bb691248", func := "loop.example/g01082/laws.FnNesting", spec := "fnNesting", inPlace := ["internal/bytealg.IndexByteString", "internal/bytealg.IndexString"], unfollowed := true, recurses := true, named := ["unicode/utf8.first", "unicode/utf8.acceptRanges", "internal/bytealg.MaxLen"], apart := false, laid := [("unicode/utf8.acceptRanges", laid_unicode_utf8_acceptRanges), ("unicode/utf8.first", laid_unicode_utf8_first)], narrowed := true }
def FnNestingUptoSaid : Prop := fnNestingUptoRow.holds Tryz.pinned (OpenSpec.upto fnNestingSpec)

/-- 'laws.FnKinds', WHERE WHAT IT READS IS OF BULK AT MOST 1048576: true; the input reads as it did. -/
def fnKindsUptoRow : OpenClaim := { program := "ytijkdpdmclkmlaagreatdoor", sum := "8692a9a83d9dc91db6744cf85ccb2cfbac5659a9370ff551719d96f4bb691248", func := "loop.example/g01082/laws.FnKinds", spec := "fnKinds", inPlace := ["internal/bytealg.IndexByteString", "internal/bytealg.IndexString"], unfollowed := true, recurses := true, named := ["unicode/utf8.first", "unicode/utf8.acceptRanges", "internal/bytealg.MaxLen"], apart := false, laid := [("unicode/utf8.acceptRanges", laid_unicode_utf8_acceptRanges), ("unicode/utf8.first", laid_unicode_utf8_first)], narrowed := true }
def FnKindsUptoSaid : Prop := fnKindsUptoRow.holds Tryz.pinned (OpenSpec.upto fnKindsSpec)

end Rows
end Go.Proofs.YtijkdpdmclkmlaaGreatDoor
