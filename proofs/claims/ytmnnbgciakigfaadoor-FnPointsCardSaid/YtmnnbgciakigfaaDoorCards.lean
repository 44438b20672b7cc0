/-
  DERIVED. GIVEN WITH THE SEED: THE CARDS: each row of YtmnnbgciakigfaaDoorRows.lean that lists a variable, with what it lists TIED to the program's text (the seventh form; the later family's looks); each row that meets fmt, with fmt's text TOLD by the authors' own Lean function (tested against real Go, not proved from fmt's source: count such statements apart). THE CARD IS WHAT COUNTS. Prove the row's statement (the work); the ties are given (YtmnnbgciakigfaaDoorTie.lean); close each card by the builder's one call (the guide's Derived/Test/ToyasCard.lean, 'card_holds'). Laid BY PROGRAM, IN A SANDBOX (cutbox-door.mjs). By AI agents, Wed Nov 11 2026. No macro, syntax, notation, axiom, sorry.
-/
import Derived.Test.YtmnnbgciakigfaaDoorRows
import GoSem.ClaimSeven
namespace Go.Proofs.YtmnnbgciakigfaaDoor
namespace Rows

/-- THE TIED CARD OF 'laws.FnPoints'. -/
def fnPointsCard : Claim7 := { stood := { row := fnPointsRow, standIns := [], harness := (true, "58d06fd3cc1dee8a328defb1eef5640bb3785bd41d796a435b915637bf3c0756"), looks := false }, kinds := [], alts := [], laidByText := true, laidKinds := [.data, .pinned], laidTests := true, laidLooks := .later }
def FnPointsCardSaid : Prop := Claim7.holds Tryd.pinned (.plain (OpenSpec.ofChange fnPointsSpec)) fnPointsCard

/-- THE SECOND FORM's CARD OF 'laws.FnPoints'. -/
def fnPointsUptoCard : Claim7 := { stood := { row := fnPointsUptoRow, standIns := [], harness := (true, "58d06fd3cc1dee8a328defb1eef5640bb3785bd41d796a435b915637bf3c0756"), looks := false }, kinds := [], alts := [], laidByText := true, laidKinds := [.data, .pinned], laidTests := true, laidLooks := .later }
def FnPointsUptoCardSaid : Prop := Claim7.holds Tryd.pinned (.plain (OpenSpec.upto fnPointsSpec)) fnPointsUptoCard
end Rows
end Go.Proofs.YtmnnbgciakigfaaDoor
