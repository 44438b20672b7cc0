/-
  DERIVED. GIVEN WITH THE SEED: THE CARDS: each row of YtijkdpdmclkmlaaGreatDoorRows.lean that lists a variable, with what it lists TIED to the program's text (the seventh form; the later family's looks); each row that meets fmt, with fmt's text TOLD by the authors' own Lean function (tested against real Go, not proved from fmt's source: count such statements apart). THE CARD IS WHAT COUNTS. Prove the row's statement (the work); the ties are given (YtijkdpdmclkmlaaGreatDoorTie.lean); close each card by the builder's one call (the guide's Derived/Test/ToyasCard.lean, 'card_holds'). Laid BY PROGRAM, IN A SANDBOX (cutbox-door.mjs). By AI agents, Wed Nov 11 2026. No macro, syntax, notation, axiom, sorry.
-/
import Derived.Test.YtijkdpdmclkmlaaGreatDoorRows
import GoSem.ClaimSeven
namespace Go.Proofs.YtijkdpdmclkmlaaGreatDoor
namespace Rows

/-- THE TIED CARD OF 'laws.FnElements'. -/
def fnElementsCard : Claim7 := { stood := { row := fnElementsRow, standIns := [], harness := (true, "8c93e79695e856147a25ca8afcd9d55d3da47578145e68cb9b9c72c46ec02702"), looks := false }, kinds := [], alts := [], laidByText := true, laidKinds := [.data, .pinned], laidTests := true, laidLooks := .later }
def FnElementsCardSaid : Prop := Claim7.holds Tryz.pinned (.plain (OpenSpec.ofChange fnElementsSpec)) fnElementsCard

/-- THE TIED CARD OF 'laws.FnIons'. -/
def fnIonsCard : Claim7 := { stood := { row := fnIonsRow, standIns := [], harness := (true, "8c93e79695e856147a25ca8afcd9d55d3da47578145e68cb9b9c72c46ec02702"), looks := false }, kinds := [], alts := [], laidByText := true, laidKinds := [.data, .pinned], laidTests := true, laidLooks := .later }
def FnIonsCardSaid : Prop := Claim7.holds Tryz.pinned (.plain (OpenSpec.ofChange fnIonsSpec)) fnIonsCard

/-- THE TIED CARD OF 'laws.FnComposition'. -/
def fnCompositionCard : Claim7 := { stood := { row := fnCompositionRow, standIns := [], harness := (true, "8c93e79695e856147a25ca8afcd9d55d3da47578145e68cb9b9c72c46ec02702"), looks := false }, kinds := [], alts := [], laidByText := true, laidKinds := [.data, .pinned], laidTests := true, laidLooks := .later }
def FnCompositionCardSaid : Prop := Claim7.holds Tryz.pinned (.plain (OpenSpec.ofChange fnCompositionSpec)) fnCompositionCard

/-- THE TIED CARD OF 'laws.FnWirings'. -/
def fnWiringsCard : Claim7 := { stood := { row := fnWiringsRow, standIns := [], harness := (true, "8c93e79695e856147a25ca8afcd9d55d3da47578145e68cb9b9c72c46ec02702"), looks := false }, kinds := [], alts := [], laidByText := true, laidKinds := [.data, .pinned], laidTests := true, laidLooks := .later }
def FnWiringsCardSaid : Prop := Claim7.holds Tryz.pinned (.plain (OpenSpec.ofChange fnWiringsSpec)) fnWiringsCard

/-- THE TIED CARD OF 'laws.FnInverses'. -/
def fnInversesCard : Claim7 := { stood := { row := fnInversesRow, standIns := [], harness := (true, "8c93e79695e856147a25ca8afcd9d55d3da47578145e68cb9b9c72c46ec02702"), looks := false }, kinds := [], alts := [], laidByText := true, laidKinds := [.data, .pinned], laidTests := true, laidLooks := .later }
def FnInversesCardSaid : Prop := Claim7.holds Tryz.pinned (.plain (OpenSpec.ofChange fnInversesSpec)) fnInversesCard

/-- THE TIED CARD OF 'laws.FnNesting'. -/
def fnNestingCard : Claim7 := { stood := { row := fnNestingRow, standIns := [], harness := (true, "8c93e79695e856147a25ca8afcd9d55d3da47578145e68cb9b9c72c46ec02702"), looks := false }, kinds := [], alts := [], laidByText := true, laidKinds := [.data, .pinned], laidTests := true, laidLooks := .later }
def FnNestingCardSaid : Prop := Claim7.holds Tryz.pinned (.plain (OpenSpec.ofChange fnNestingSpec)) fnNestingCard

/-- THE TIED CARD OF 'laws.FnKinds'. -/
def fnKindsCard : Claim7 := { stood := { row := fnKindsRow, standIns := [], harness := (true, "8c93e79695e856147a25ca8afcd9d55d3da47578145e68cb9b9c72c46ec02702"), looks := false }, kinds := [], alts := [], laidByText := true, laidKinds := [.data, .pinned], laidTests := true, laidLooks := .later }
def FnKindsCardSaid : Prop := Claim7.holds Tryz.pinned (.plain (OpenSpec.ofChange fnKindsSpec)) fnKindsCard

/-- THE SECOND FORM's CARD OF 'laws.FnElements'. -/
def fnElementsUptoCard : Claim7 := { stood := { row := fnElementsUptoRow, standIns := [], harness := (true, "8c93e79695e856147a25ca8afcd9d55d3da47578145e68cb9b9c72c46ec02702"), looks := false }, kinds := [], alts := [], laidByText := true, laidKinds := [.data, .pinned], laidTests := true, laidLooks := .later }
def FnElementsUptoCardSaid : Prop := Claim7.holds Tryz.pinned (.plain (OpenSpec.upto fnElementsSpec)) fnElementsUptoCard

/-- THE SECOND FORM's CARD OF 'laws.FnIons'. -/
def fnIonsUptoCard : Claim7 := { stood := { row := fnIonsUptoRow, standIns := [], harness := (true, "8c93e79695e856147a25ca8afcd9d55d3da47578145e68cb9b9c72c46ec02702"), looks := false }, kinds := [], alts := [], laidByText := true, laidKinds := [.data, .pinned], laidTests := true, laidLooks := .later }
def FnIonsUptoCardSaid : Prop := Claim7.holds Tryz.pinned (.plain (OpenSpec.upto fnIonsSpec)) fnIonsUptoCard

/-- THE SECOND FORM's CARD OF 'laws.FnComposition'. -/
def fnCompositionUptoCard : Claim7 := { stood := { row := fnCompositionUptoRow, standIns := [], harness := (true, "8c93e79695e856147a25ca8afcd9d55d3da47578145e68cb9b9c72c46ec02702"), looks := false }, kinds := [], alts := [], laidByText := true, laidKinds := [.data, .pinned], laidTests := true, laidLooks := .later }
def FnCompositionUptoCardSaid : Prop := Claim7.holds Tryz.pinned (.plain (OpenSpec.upto fnCompositionSpec)) fnCompositionUptoCard

/-- THE SECOND FORM's CARD OF 'laws.FnWirings'. -/
def fnWiringsUptoCard : Claim7 := { stood := { row := fnWiringsUptoRow, standIns := [], harness := (true, "8c93e79695e856147a25ca8afcd9d55d3da47578145e68cb9b9c72c46ec02702"), looks := false }, kinds := [], alts := [], laidByText := true, laidKinds := [.data, .pinned], laidTests := true, laidLooks := .later }
def FnWiringsUptoCardSaid : Prop := Claim7.holds Tryz.pinned (.plain (OpenSpec.upto fnWiringsSpec)) fnWiringsUptoCard

/-- THE SECOND FORM's CARD OF 'laws.FnInverses'. -/
def fnInversesUptoCard : Claim7 := { stood := { row := fnInversesUptoRow, standIns := [], harness := (true, "8c93e79695e856147a25ca8afcd9d55d3da47578145e68cb9b9c72c46ec02702"), looks := false }, kinds := [], alts := [], laidByText := true, laidKinds := [.data, .pinned], laidTests := true, laidLooks := .later }
def FnInversesUptoCardSaid : Prop := Claim7.holds Tryz.pinned (.plain (OpenSpec.upto fnInversesSpec)) fnInversesUptoCard

/-- THE SECOND FORM's CARD OF 'laws.FnNesting'. -/
def fnNestingUptoCard : Claim7 := { stood := { row := fnNestingUptoRow, standIns := [], harness := (true, "8c93e79695e856147a25ca8afcd9d55d3da47578145e68cb9b9c72c46ec02702"), looks := false }, kinds := [], alts := [], laidByText := true, laidKinds := [.data, .pinned], laidTests := true, laidLooks := .later }
def FnNestingUptoCardSaid : Prop := Claim7.holds Tryz.pinned (.plain (OpenSpec.upto fnNestingSpec)) fnNestingUptoCard

/-- THE SECOND FORM's CARD OF 'laws.FnKinds'. -/
def fnKindsUptoCard : Claim7 := { stood := { row := fnKindsUptoRow, standIns := [], harness := (true, "8c93e79695e856147a25ca8afcd9d55d3da47578145e68cb9b9c72c46ec02702"), looks := false }, kinds := [], alts := [], laidByText := true, laidKinds := [.data, .pinned], laidTests := true, laidLooks := .later }
def FnKindsUptoCardSaid : Prop := Claim7.holds Tryz.pinned (.plain (OpenSpec.upto fnKindsSpec)) fnKindsUptoCard
end Rows
end Go.Proofs.YtijkdpdmclkmlaaGreatDoor
