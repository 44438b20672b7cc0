/-
  DERIVED. GIVEN WITH THE SEED: THE CARDS: each row of YtdgnhfhaaghoaaaGreatDoorRows.lean that lists a variable, with what it lists TIED to the program's text (the seventh form; the later family's looks); each row that meets fmt, with fmt's text TOLD by the authors' own Lean function (tested against real Go, not proved from fmt's source: count such statements apart). THE CARD IS WHAT COUNTS. Prove the row's statement (the work); the ties are given (YtdgnhfhaaghoaaaGreatDoorTie.lean); close each card by the builder's one call (the guide's Derived/Test/ToyasCard.lean, 'card_holds'). Laid BY PROGRAM, IN A SANDBOX (cutbox-door.mjs). By AI agents, Wed Nov 11 2026. No macro, syntax, notation, axiom, sorry.
-/
import Derived.Test.YtdgnhfhaaghoaaaGreatDoorRows
import GoSem.ClaimSeven
namespace Go.Proofs.YtdgnhfhaaghoaaaGreatDoor
namespace Rows

/-- THE TIED CARD OF 'laws.FnTellApart'. -/
def fnTellApartCard : Claim7 := { stood := { row := fnTellApartRow, standIns := [], harness := (true, "e5e5576144d6c69e057733207e8ce441aee7f20c1405bd414a9f33ebf8dd2b55"), looks := false }, kinds := [], alts := [], laidByText := true, laidKinds := [.data, .data, .data], laidTests := true, laidLooks := .later }
def FnTellApartCardSaid : Prop := Claim7.holds Tryz.pinned (.plain (OpenSpec.ofChange fnTellApartSpec)) fnTellApartCard

/-- THE TIED CARD OF 'laws.FnExactTellApart'. -/
def fnExactTellApartCard : Claim7 := { stood := { row := fnExactTellApartRow, standIns := [], harness := (true, "e5e5576144d6c69e057733207e8ce441aee7f20c1405bd414a9f33ebf8dd2b55"), looks := false }, kinds := [], alts := [], laidByText := true, laidKinds := [.data, .data, .data], laidTests := true, laidLooks := .later }
def FnExactTellApartCardSaid : Prop := Claim7.holds Tryz.pinned (.plain (OpenSpec.ofChange fnExactTellApartSpec)) fnExactTellApartCard

/-- THE TIED CARD OF 'laws.FnFormulas'. -/
def fnFormulasCard : Claim7 := { stood := { row := fnFormulasRow, standIns := [], harness := (true, "e5e5576144d6c69e057733207e8ce441aee7f20c1405bd414a9f33ebf8dd2b55"), looks := false }, kinds := [], alts := [], laidByText := true, laidKinds := [.data, .data, .data], laidTests := true, laidLooks := .later }
def FnFormulasCardSaid : Prop := Claim7.holds Tryz.pinned (.plain (OpenSpec.ofChange fnFormulasSpec)) fnFormulasCard

/-- THE TIED CARD OF 'laws.FnQuotients'. -/
def fnQuotientsCard : Claim7 := { stood := { row := fnQuotientsRow, standIns := [], harness := (true, "e5e5576144d6c69e057733207e8ce441aee7f20c1405bd414a9f33ebf8dd2b55"), looks := false }, kinds := [], alts := [], laidByText := true, laidKinds := [.data, .data, .data], laidTests := true, laidLooks := .later }
def FnQuotientsCardSaid : Prop := Claim7.holds Tryz.pinned (.plain (OpenSpec.ofChange fnQuotientsSpec)) fnQuotientsCard

/-- THE TIED CARD OF 'laws.FnExactQuotientOf'. -/
def fnExactQuotientOfCard : Claim7 := { stood := { row := fnExactQuotientOfRow, standIns := [], harness := (true, "e5e5576144d6c69e057733207e8ce441aee7f20c1405bd414a9f33ebf8dd2b55"), looks := false }, kinds := [], alts := [], laidByText := true, laidKinds := [.data, .data, .data], laidTests := true, laidLooks := .later }
def FnExactQuotientOfCardSaid : Prop := Claim7.holds Tryz.pinned (.plain (OpenSpec.ofChange fnExactQuotientOfSpec)) fnExactQuotientOfCard

/-- THE TIED CARD OF 'laws.FnBisimilar'. -/
def fnBisimilarCard : Claim7 := { stood := { row := fnBisimilarRow, standIns := [], harness := (true, "e5e5576144d6c69e057733207e8ce441aee7f20c1405bd414a9f33ebf8dd2b55"), looks := false }, kinds := [], alts := [], laidByText := true, laidKinds := [.data, .data, .data], laidTests := true, laidLooks := .later }
def FnBisimilarCardSaid : Prop := Claim7.holds Tryz.pinned (.plain (OpenSpec.ofChange fnBisimilarSpec)) fnBisimilarCard

/-- THE SECOND FORM's CARD OF 'laws.FnTellApart'. -/
def fnTellApartUptoCard : Claim7 := { stood := { row := fnTellApartUptoRow, standIns := [], harness := (true, "e5e5576144d6c69e057733207e8ce441aee7f20c1405bd414a9f33ebf8dd2b55"), looks := false }, kinds := [], alts := [], laidByText := true, laidKinds := [.data, .data, .data], laidTests := true, laidLooks := .later }
def FnTellApartUptoCardSaid : Prop := Claim7.holds Tryz.pinned (.plain (OpenSpec.upto fnTellApartSpec)) fnTellApartUptoCard

/-- THE SECOND FORM's CARD OF 'laws.FnExactTellApart'. -/
def fnExactTellApartUptoCard : Claim7 := { stood := { row := fnExactTellApartUptoRow, standIns := [], harness := (true, "e5e5576144d6c69e057733207e8ce441aee7f20c1405bd414a9f33ebf8dd2b55"), looks := false }, kinds := [], alts := [], laidByText := true, laidKinds := [.data, .data, .data], laidTests := true, laidLooks := .later }
def FnExactTellApartUptoCardSaid : Prop := Claim7.holds Tryz.pinned (.plain (OpenSpec.upto fnExactTellApartSpec)) fnExactTellApartUptoCard

/-- THE SECOND FORM's CARD OF 'laws.FnFormulas'. -/
def fnFormulasUptoCard : Claim7 := { stood := { row := fnFormulasUptoRow, standIns := [], harness := (true, "e5e5576144d6c69e057733207e8ce441aee7f20c1405bd414a9f33ebf8dd2b55"), looks := false }, kinds := [], alts := [], laidByText := true, laidKinds := [.data, .data, .data], laidTests := true, laidLooks := .later }
def FnFormulasUptoCardSaid : Prop := Claim7.holds Tryz.pinned (.plain (OpenSpec.upto fnFormulasSpec)) fnFormulasUptoCard

/-- THE SECOND FORM's CARD OF 'laws.FnQuotients'. -/
def fnQuotientsUptoCard : Claim7 := { stood := { row := fnQuotientsUptoRow, standIns := [], harness := (true, "e5e5576144d6c69e057733207e8ce441aee7f20c1405bd414a9f33ebf8dd2b55"), looks := false }, kinds := [], alts := [], laidByText := true, laidKinds := [.data, .data, .data], laidTests := true, laidLooks := .later }
def FnQuotientsUptoCardSaid : Prop := Claim7.holds Tryz.pinned (.plain (OpenSpec.upto fnQuotientsSpec)) fnQuotientsUptoCard

/-- THE SECOND FORM's CARD OF 'laws.FnExactQuotientOf'. -/
def fnExactQuotientOfUptoCard : Claim7 := { stood := { row := fnExactQuotientOfUptoRow, standIns := [], harness := (true, "e5e5576144d6c69e057733207e8ce441aee7f20c1405bd414a9f33ebf8dd2b55"), looks := false }, kinds := [], alts := [], laidByText := true, laidKinds := [.data, .data, .data], laidTests := true, laidLooks := .later }
def FnExactQuotientOfUptoCardSaid : Prop := Claim7.holds Tryz.pinned (.plain (OpenSpec.upto fnExactQuotientOfSpec)) fnExactQuotientOfUptoCard

/-- THE SECOND FORM's CARD OF 'laws.FnBisimilar'. -/
def fnBisimilarUptoCard : Claim7 := { stood := { row := fnBisimilarUptoRow, standIns := [], harness := (true, "e5e5576144d6c69e057733207e8ce441aee7f20c1405bd414a9f33ebf8dd2b55"), looks := false }, kinds := [], alts := [], laidByText := true, laidKinds := [.data, .data, .data], laidTests := true, laidLooks := .later }
def FnBisimilarUptoCardSaid : Prop := Claim7.holds Tryz.pinned (.plain (OpenSpec.upto fnBisimilarSpec)) fnBisimilarUptoCard
end Rows
end Go.Proofs.YtdgnhfhaaghoaaaGreatDoor
