/-
  DERIVED. GIVEN WITH THE SEED: THE CARDS: each row of YtoofnicpjgmneaaDoorRows.lean that lists a variable, with what it lists TIED to the program's text (the seventh form; the later family's looks); each row that meets fmt, with fmt's text TOLD by the authors' own Lean function (tested against real Go, not proved from fmt's source: count such statements apart). THE CARD IS WHAT COUNTS. Prove the row's statement (the work); the ties are given (YtoofnicpjgmneaaDoorTie.lean); close each card by the builder's one call (the guide's Derived/Test/ToyasCard.lean, 'card_holds'). Laid BY PROGRAM, IN A SANDBOX (cutbox-door.mjs). By AI agents, Wed Nov 11 2026. No macro, syntax, notation, axiom, sorry.
-/
import Derived.Test.YtoofnicpjgmneaaDoorRows
import GoSem.ClaimSeven
namespace Go.Proofs.YtoofnicpjgmneaaDoor
namespace Rows

/-- THE TIED CARD OF 'laws.FnExactIsProcess'. -/
def fnExactIsProcessCard : Claim7 := { stood := { row := fnExactIsProcessRow, standIns := [], harness := (true, "5dd82a4006565257817452db03292b4ed4ba7cd558f77fdcb11ac91eeb9fdfaf"), looks := false }, kinds := [], alts := [], laidByText := true, laidKinds := [.data, .pinned], laidTests := true, laidLooks := .later }
def FnExactIsProcessCardSaid : Prop := Claim7.holds Tryd.pinned (.plain (OpenSpec.ofChange fnExactIsProcessSpec)) fnExactIsProcessCard

/-- THE TIED CARD OF 'laws.FnExactIsIdleNode'. -/
def fnExactIsIdleNodeCard : Claim7 := { stood := { row := fnExactIsIdleNodeRow, standIns := [], harness := (true, "5dd82a4006565257817452db03292b4ed4ba7cd558f77fdcb11ac91eeb9fdfaf"), looks := false }, kinds := [], alts := [], laidByText := true, laidKinds := [.data, .pinned], laidTests := true, laidLooks := .later }
def FnExactIsIdleNodeCardSaid : Prop := Claim7.holds Tryd.pinned (.plain (OpenSpec.ofChange fnExactIsIdleNodeSpec)) fnExactIsIdleNodeCard

/-- THE TIED CARD OF 'laws.FnExactShowsAmbient'. -/
def fnExactShowsAmbientCard : Claim7 := { stood := { row := fnExactShowsAmbientRow, standIns := [], harness := (true, "5dd82a4006565257817452db03292b4ed4ba7cd558f77fdcb11ac91eeb9fdfaf"), looks := false }, kinds := [], alts := [], laidByText := true, laidKinds := [.data, .pinned], laidTests := true, laidLooks := .later }
def FnExactShowsAmbientCardSaid : Prop := Claim7.holds Tryd.pinned (.plain (OpenSpec.ofChange fnExactShowsAmbientSpec)) fnExactShowsAmbientCard

/-- THE SECOND FORM's CARD OF 'laws.FnExactIsProcess'. -/
def fnExactIsProcessUptoCard : Claim7 := { stood := { row := fnExactIsProcessUptoRow, standIns := [], harness := (true, "5dd82a4006565257817452db03292b4ed4ba7cd558f77fdcb11ac91eeb9fdfaf"), looks := false }, kinds := [], alts := [], laidByText := true, laidKinds := [.data, .pinned], laidTests := true, laidLooks := .later }
def FnExactIsProcessUptoCardSaid : Prop := Claim7.holds Tryd.pinned (.plain (OpenSpec.upto fnExactIsProcessSpec)) fnExactIsProcessUptoCard

/-- THE SECOND FORM's CARD OF 'laws.FnExactIsIdleNode'. -/
def fnExactIsIdleNodeUptoCard : Claim7 := { stood := { row := fnExactIsIdleNodeUptoRow, standIns := [], harness := (true, "5dd82a4006565257817452db03292b4ed4ba7cd558f77fdcb11ac91eeb9fdfaf"), looks := false }, kinds := [], alts := [], laidByText := true, laidKinds := [.data, .pinned], laidTests := true, laidLooks := .later }
def FnExactIsIdleNodeUptoCardSaid : Prop := Claim7.holds Tryd.pinned (.plain (OpenSpec.upto fnExactIsIdleNodeSpec)) fnExactIsIdleNodeUptoCard

/-- THE SECOND FORM's CARD OF 'laws.FnExactShowsAmbient'. -/
def fnExactShowsAmbientUptoCard : Claim7 := { stood := { row := fnExactShowsAmbientUptoRow, standIns := [], harness := (true, "5dd82a4006565257817452db03292b4ed4ba7cd558f77fdcb11ac91eeb9fdfaf"), looks := false }, kinds := [], alts := [], laidByText := true, laidKinds := [.data, .pinned], laidTests := true, laidLooks := .later }
def FnExactShowsAmbientUptoCardSaid : Prop := Claim7.holds Tryd.pinned (.plain (OpenSpec.upto fnExactShowsAmbientSpec)) fnExactShowsAmbientUptoCard
end Rows
end Go.Proofs.YtoofnicpjgmneaaDoor
