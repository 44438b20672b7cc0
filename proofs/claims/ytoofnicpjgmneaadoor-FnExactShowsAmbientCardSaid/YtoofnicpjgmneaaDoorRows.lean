/-
  NARROWER THAN 'FOR EVERY INPUT', by the rows' own cells (each row's printed sentence says how): FnExactIsProcess: laid · FnExactIsIdleNode: laid · FnExactShowsAmbient: laid.
  DERIVED. THE GIVEN ROWS OF THIS SEAT. 3 by the template 'for every input the law returns true; each argument reads behind the call as it read before'; 0 by the template 'total and deterministic' (their statements: YtoofnicpjgmneaaDoorTotals.lean).
  GIVEN WITH THE SEED: the statements are not yours to turn. If you find one false, say at which input.
  Laid BY PROGRAM, IN A SANDBOX (cutbox-rows.mjs): the forced cells as the released guide's own fill.sh prints them over the translation 5859a5befbf3638d… (all of the seat's roots in one cut). By AI agents, Wed Nov 11 2026. No macro, syntax, notation, axiom, sorry.
-/
import Derived.Test.YtoofnicpjgmneaaDoorChecked
import GoSem.PinnedTables
import GoSem.Claim
import GoSem.ClaimJoined
import GoSem.ClaimMapViews
import Derived.JoinedTies
import Derived.KernelRfl
namespace Go.Proofs.YtoofnicpjgmneaaDoor
/- THE CELL 'sum', in the pinned program and in every row, IS THE sha256 OF THE DUMP (.gsa) THAT YtoofnicpjgmneaaDoorProg.lean LOADS. Nothing in Lean hashes anything: it is a label: what it is worth is what the hold of that sum in a sandbox is worth. -/
noncomputable def Tryd.pinned : Pinned := { name := "ytoofnicpjgmneaadoor", sum := "5859a5befbf3638db579889d6c712c5fbbbdb4260aa5028a0ba6f1fc7d7e6b5c", checked := Tryd.checked }
namespace Rows
def none {H : Type} : Left H := { results := [], args := [] }

/- WHAT THE LISTED PACKAGE-LEVEL VARIABLES READ AS WHEN THE CALL BEGINS. Each datum BY PROGRAM (the guide's laid-datum.mjs) off the statement by which the dump's own 'gosem.cut.vars' lays the variable. In a bare row this is a premise. The card (YtoofnicpjgmneaaDoorCards.lean) ties it to the program's text. -/
def laid_unicode_utf8_acceptRanges {H : Type} : DataW H := .agg [.agg [.lit (.int .u8 128), .lit (.int .u8 191)], .agg [.lit (.int .u8 160), .lit (.int .u8 191)], .agg [.lit (.int .u8 128), .lit (.int .u8 159)], .agg [.lit (.int .u8 144), .lit (.int .u8 191)], .agg [.lit (.int .u8 128), .lit (.int .u8 143)], .agg [.lit (.int .u8 0), .lit (.int .u8 0)], .agg [.lit (.int .u8 0), .lit (.int .u8 0)], .agg [.lit (.int .u8 0), .lit (.int .u8 0)], .agg [.lit (.int .u8 0), .lit (.int .u8 0)], .agg [.lit (.int .u8 0), .lit (.int .u8 0)], .agg [.lit (.int .u8 0), .lit (.int .u8 0)], .agg [.lit (.int .u8 0), .lit (.int .u8 0)], .agg [.lit (.int .u8 0), .lit (.int .u8 0)], .agg [.lit (.int .u8 0), .lit (.int .u8 0)], .agg [.lit (.int .u8 0), .lit (.int .u8 0)], .agg [.lit (.int .u8 0), .lit (.int .u8 0)]]
/-- One of Go's own tables, pinned by name: the form's constant. -/
def laid_unicode_utf8_first : DataW Unit := Go.Pinned.utf8First

/-- 'laws.FnExactIsProcess': WHATEVER THE INPUT: true; the input reads as it did. -/
def fnExactIsProcessSpec : ChangeSpec := { name := "fnExactIsProcess", fn := fun _ => fun
  | [d] => { results := [.lit (.bool true)], args := [d] }
  | _ => none }
def fnExactIsProcessRow : OpenClaim := { program := "ytoofnicpjgmneaadoor", sum := "5859a5befbf3638db579889d6c712c5fbbbdb4260aa5028a0ba6f1fc7d7e6b5c", func := "loop.example/g01082/laws.FnExactIsProcess", spec := "fnExactIsProcess", inPlace := ["internal/bytealg.IndexByteString", "internal/bytealg.IndexString"], named := ["unicode/utf8.first", "unicode/utf8.acceptRanges", "internal/bytealg.MaxLen"], apart := false, laid := [("unicode/utf8.acceptRanges", laid_unicode_utf8_acceptRanges), ("unicode/utf8.first", laid_unicode_utf8_first)] }
def FnExactIsProcessSaid : Prop := fnExactIsProcessRow.holds Tryd.pinned (OpenSpec.ofChange fnExactIsProcessSpec)

/-- ITS FALSE NEIGHBOUR: 'it returns false'. Refute it at one input. -/
def fnExactIsProcessWrong : ChangeSpec := { name := "fnExactIsProcess", fn := fun _ => fun
  | [d] => { results := [.lit (.bool false)], args := [d] }
  | _ => none }
def FnExactIsProcessWrongFalsely : Prop := fnExactIsProcessRow.holds Tryd.pinned (OpenSpec.ofChange fnExactIsProcessWrong)

/-- 'laws.FnExactIsIdleNode': WHATEVER THE INPUT: true; the input reads as it did. -/
def fnExactIsIdleNodeSpec : ChangeSpec := { name := "fnExactIsIdleNode", fn := fun _ => fun
  | [d1, d2] => { results := [.lit (.bool true)], args := [d1, d2] }
  | _ => none }
def fnExactIsIdleNodeRow : OpenClaim := { program := "ytoofnicpjgmneaadoor", sum := "5859a5befbf3638db579889d6c712c5fbbbdb4260aa5028a0ba6f1fc7d7e6b5c", func := "loop.example/g01082/laws.FnExactIsIdleNode", spec := "fnExactIsIdleNode", inPlace := ["internal/bytealg.IndexByteString", "internal/bytealg.IndexString"], named := ["unicode/utf8.first", "unicode/utf8.acceptRanges", "internal/bytealg.MaxLen"], apart := false, laid := [("unicode/utf8.acceptRanges", laid_unicode_utf8_acceptRanges), ("unicode/utf8.first", laid_unicode_utf8_first)] }
def FnExactIsIdleNodeSaid : Prop := fnExactIsIdleNodeRow.holds Tryd.pinned (OpenSpec.ofChange fnExactIsIdleNodeSpec)

/-- ITS FALSE NEIGHBOUR: 'it returns false'. Refute it at one input. -/
def fnExactIsIdleNodeWrong : ChangeSpec := { name := "fnExactIsIdleNode", fn := fun _ => fun
  | [d1, d2] => { results := [.lit (.bool false)], args := [d1, d2] }
  | _ => none }
def FnExactIsIdleNodeWrongFalsely : Prop := fnExactIsIdleNodeRow.holds Tryd.pinned (OpenSpec.ofChange fnExactIsIdleNodeWrong)

/-- 'laws.FnExactShowsAmbient': WHATEVER THE INPUT: true; the input reads as it did. -/
def fnExactShowsAmbientSpec : ChangeSpec := { name := "fnExactShowsAmbient", fn := fun _ => fun
  | [d1, d2] => { results := [.lit (.bool true)], args := [d1, d2] }
  | _ => none }
def fnExactShowsAmbientRow : OpenClaim := { program := "ytoofnicpjgmneaadoor", sum := "5859a5befbf3638db579889d6c712c5fbbbdb4260aa5028a0ba6f1fc7d7e6b5c", func := "loop.example/g01082/laws.FnExactShowsAmbient", spec := "fnExactShowsAmbient", inPlace := ["internal/bytealg.IndexByteString", "internal/bytealg.IndexString"], unfollowed := true, recurses := true, named := ["unicode/utf8.first", "unicode/utf8.acceptRanges", "internal/bytealg.MaxLen"], apart := false, laid := [("unicode/utf8.acceptRanges", laid_unicode_utf8_acceptRanges), ("unicode/utf8.first", laid_unicode_utf8_first)] }
def FnExactShowsAmbientSaid : Prop := fnExactShowsAmbientRow.holds Tryd.pinned (OpenSpec.ofChange fnExactShowsAmbientSpec)

/-- ITS FALSE NEIGHBOUR: 'it returns false'. Refute it at one input. -/
def fnExactShowsAmbientWrong : ChangeSpec := { name := "fnExactShowsAmbient", fn := fun _ => fun
  | [d1, d2] => { results := [.lit (.bool false)], args := [d1, d2] }
  | _ => none }
def FnExactShowsAmbientWrongFalsely : Prop := fnExactShowsAmbientRow.holds Tryd.pinned (OpenSpec.ofChange fnExactShowsAmbientWrong)

/- THE SECOND FORM. 'bulk': how many values and letters a reading holds, each counted each time it is reached (what is shared counts as often as it is met; a slice's spare places count too). A statement '..UptoSaid' is the law's where the arguments, and the package variables that the reading takes, are together of bulk at most 1048576: NARROWER than '..Said'. Prove '..Said' where nothing that the law and all that it calls make is longer than what came in: it says more and counts as full. Else prove '..UptoSaid'. A law counts once. -/
mutual
def uptoBulk {H : Type} : DataW H → Nat
  | .lit (.string bytes) => bytes.length + 1
  | .lit _ => 1
  | .nil => 1
  | .ptr d => uptoBulk d + 1
  | .slice elems spare => uptoBulkAll elems + uptoBulkAll spare + 1
  | .agg parts => uptoBulkAll parts + 1
  | .iface _ d => uptoBulk d + 1
  | .map entries => uptoBulkEntries entries + 1
  | .held _ => 1
def uptoBulkAll {H : Type} : List (DataW H) → Nat
  | [] => 0
  | d :: r => uptoBulk d + uptoBulkAll r
def uptoBulkEntries {H : Type} : List (Lit × DataW H) → Nat
  | [] => 0
  | x :: r => uptoBulkEntry x + uptoBulkEntries r
def uptoBulkEntry {H : Type} : Lit × DataW H → Nat
  | (.string bytes, d) => bytes.length + uptoBulk d + 1
  | (_, d) => uptoBulk d + 1
 end
def uptoSmall : (H : Type) → List (DataW H) → Bool := fun _ ds => decide (uptoBulkAll ds ≤ 1048576)
def OpenSpec.upto (s : _root_.Go.ChangeSpec) : _root_.Go.OpenSpec := { _root_.Go.OpenSpec.ofChange s with cond := some uptoSmall }

/-- 'laws.FnExactIsProcess', WHERE WHAT IT READS IS OF BULK AT MOST 1048576: true; the input reads as it did. -/
def fnExactIsProcessUptoRow : OpenClaim := { program := "ytoofnicpjgmneaadoor", sum := "5859a5befbf3638db579889d6c712c5fbbbdb4260aa5028a0ba6f1fc7d7e6b5c", func := "loop.example/g01082/laws.FnExactIsProcess", spec := "fnExactIsProcess", inPlace := ["internal/bytealg.IndexByteString", "internal/bytealg.IndexString"], named := ["unicode/utf8.first", "unicode/utf8.acceptRanges", "internal/bytealg.MaxLen"], apart := false, laid := [("unicode/utf8.acceptRanges", laid_unicode_utf8_acceptRanges), ("unicode/utf8.first", laid_unicode_utf8_first)], narrowed := true }
def FnExactIsProcessUptoSaid : Prop := fnExactIsProcessUptoRow.holds Tryd.pinned (OpenSpec.upto fnExactIsProcessSpec)

/-- 'laws.FnExactIsIdleNode', WHERE WHAT IT READS IS OF BULK AT MOST 1048576: true; the input reads as it did. -/
def fnExactIsIdleNodeUptoRow : OpenClaim := { program := "ytoofnicpjgmneaadoor", sum := "5859a5befbf3638db579889d6c712c5fbbbdb4260aa5028a0ba6f1fc7d7e6b5c", func := "loop.example/g01082/laws.FnExactIsIdleNode", spec := "fnExactIsIdleNode", inPlace := ["internal/bytealg.IndexByteString", "internal/bytealg.IndexString"], named := ["unicode/utf8.first", "unicode/utf8.acceptRanges", "internal/bytealg.MaxLen"], apart := false, laid := [("unicode/utf8.acceptRanges", laid_unicode_utf8_acceptRanges), ("unicode/utf8.first", laid_unicode_utf8_first)], narrowed := true }
def FnExactIsIdleNodeUptoSaid : Prop := fnExactIsIdleNodeUptoRow.holds Tryd.pinned (OpenSpec.upto fnExactIsIdleNodeSpec)

/-- 'laws.FnExactShowsAmbient', WHERE WHAT IT READS IS OF BULK AT MOST 1048576: true; the input reads as it did. -/
def fnExactShowsAmbientUptoRow : OpenClaim := { program := "ytoofnicpjgmneaadoor", sum := "5859a5befbf3638db579889d6c712c5fbbbdb4260aa5028a0ba6f1fc7d7e6b5c", func := "loop.example/g01082/laws.FnExactShowsAmbient", spec := "fnExactShowsAmbient", inPlace := ["internal/bytealg.IndexByteString", "internal/bytealg.IndexString"], unfollowed := true, recurses := true, named := ["unicode/utf8.first", "unicode/utf8.acceptRanges", "internal/bytealg.MaxLen"], apart := false, laid := [("unicode/utf8.acceptRanges", laid_unicode_utf8_acceptRanges), ("unicode/utf8.first", laid_unicode_utf8_first)], narrowed := true }
def FnExactShowsAmbientUptoSaid : Prop := fnExactShowsAmbientUptoRow.holds Tryd.pinned (OpenSpec.upto fnExactShowsAmbientSpec)

end Rows
end Go.Proofs.YtoofnicpjgmneaaDoor
