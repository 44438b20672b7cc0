/-
  DERIVED. GIVEN WITH THE SEED: THE CARDS: each row of YtojdobpmknadhaaGreatDoorRows.lean that lists a variable, with what it lists TIED to the program's text (the seventh form; the later family's looks); each row that meets fmt, with fmt's text TOLD by the authors' own Lean function (tested against real Go, not proved from fmt's source: count such statements apart). THE CARD IS WHAT COUNTS. Prove the row's statement (the work); the ties are given (YtojdobpmknadhaaGreatDoorTie.lean); close each card by the builder's one call (the guide's Derived/Test/ToyasCard.lean, 'card_holds'). Laid BY PROGRAM, IN A SANDBOX (cutbox-door.mjs). By AI agents, Wed Nov 11 2026. No macro, syntax, notation, axiom, sorry.
-/
import Derived.Test.YtojdobpmknadhaaGreatDoorRows
import GoSem.ClaimSeven
namespace Go.Proofs.YtojdobpmknadhaaGreatDoor
namespace Rows

/-- THE TIED CARD OF 'laws.FnExactTellApart'. -/
def fnExactTellApartCard : Claim7 := { stood := { row := fnExactTellApartRow, standIns := [], harness := (true, "d227ae64791bd413169351ae0082ec8ea31060d1fdb6c6afe5f5faf6b7b4ffda"), looks := false }, kinds := [], alts := [], laidByText := true, laidKinds := [.data, .data, .data], laidTests := true, laidLooks := .later }
def FnExactTellApartCardSaid : Prop := Claim7.holds Tryz.pinned (.plain (OpenSpec.ofChange fnExactTellApartSpec)) fnExactTellApartCard

/-- THE TIED CARD OF 'laws.FnExactQuotientOf'. -/
def fnExactQuotientOfCard : Claim7 := { stood := { row := fnExactQuotientOfRow, standIns := [], harness := (true, "d227ae64791bd413169351ae0082ec8ea31060d1fdb6c6afe5f5faf6b7b4ffda"), looks := false }, kinds := [], alts := [], laidByText := true, laidKinds := [.data, .data, .data], laidTests := true, laidLooks := .later }
def FnExactQuotientOfCardSaid : Prop := Claim7.holds Tryz.pinned (.plain (OpenSpec.ofChange fnExactQuotientOfSpec)) fnExactQuotientOfCard

/-- THE TIED CARD OF 'laws.FnExactWeaklyBisimilarOf'. -/
def fnExactWeaklyBisimilarOfCard : Claim7 := { stood := { row := fnExactWeaklyBisimilarOfRow, standIns := [], harness := (true, "d227ae64791bd413169351ae0082ec8ea31060d1fdb6c6afe5f5faf6b7b4ffda"), looks := false }, kinds := [], alts := [], laidByText := true, laidKinds := [.data, .data, .data], laidTests := true, laidLooks := .later }
def FnExactWeaklyBisimilarOfCardSaid : Prop := Claim7.holds Tryz.pinned (.plain (OpenSpec.ofChange fnExactWeaklyBisimilarOfSpec)) fnExactWeaklyBisimilarOfCard

/-- THE SECOND FORM's CARD OF 'laws.FnExactTellApart'. -/
def fnExactTellApartUptoCard : Claim7 := { stood := { row := fnExactTellApartUptoRow, standIns := [], harness := (true, "d227ae64791bd413169351ae0082ec8ea31060d1fdb6c6afe5f5faf6b7b4ffda"), looks := false }, kinds := [], alts := [], laidByText := true, laidKinds := [.data, .data, .data], laidTests := true, laidLooks := .later }
def FnExactTellApartUptoCardSaid : Prop := Claim7.holds Tryz.pinned (.plain (OpenSpec.upto fnExactTellApartSpec)) fnExactTellApartUptoCard

/-- THE SECOND FORM's CARD OF 'laws.FnExactQuotientOf'. -/
def fnExactQuotientOfUptoCard : Claim7 := { stood := { row := fnExactQuotientOfUptoRow, standIns := [], harness := (true, "d227ae64791bd413169351ae0082ec8ea31060d1fdb6c6afe5f5faf6b7b4ffda"), looks := false }, kinds := [], alts := [], laidByText := true, laidKinds := [.data, .data, .data], laidTests := true, laidLooks := .later }
def FnExactQuotientOfUptoCardSaid : Prop := Claim7.holds Tryz.pinned (.plain (OpenSpec.upto fnExactQuotientOfSpec)) fnExactQuotientOfUptoCard

/-- THE SECOND FORM's CARD OF 'laws.FnExactWeaklyBisimilarOf'. -/
def fnExactWeaklyBisimilarOfUptoCard : Claim7 := { stood := { row := fnExactWeaklyBisimilarOfUptoRow, standIns := [], harness := (true, "d227ae64791bd413169351ae0082ec8ea31060d1fdb6c6afe5f5faf6b7b4ffda"), looks := false }, kinds := [], alts := [], laidByText := true, laidKinds := [.data, .data, .data], laidTests := true, laidLooks := .later }
def FnExactWeaklyBisimilarOfUptoCardSaid : Prop := Claim7.holds Tryz.pinned (.plain (OpenSpec.upto fnExactWeaklyBisimilarOfSpec)) fnExactWeaklyBisimilarOfUptoCard
end Rows
end Go.Proofs.YtojdobpmknadhaaGreatDoor
