/-
  DERIVED. GIVEN WITH THE SEED: THE CARDS: each row of YtojdobpmknadhaaDoorRows.lean that lists a variable, with what it lists TIED to the program's text (the seventh form; the later family's looks); each row that meets fmt, with fmt's text TOLD by the authors' own Lean function (tested against real Go, not proved from fmt's source: count such statements apart). THE CARD IS WHAT COUNTS. Prove the row's statement (the work); the ties are given (YtojdobpmknadhaaDoorTie.lean); close each card by the builder's one call (the guide's Derived/Test/ToyasCard.lean, 'card_holds'). Laid BY PROGRAM, IN A SANDBOX (cutbox-door.mjs). By AI agents, Wed Nov 11 2026. No macro, syntax, notation, axiom, sorry.
-/
import Derived.Test.YtojdobpmknadhaaDoorRows
import GoSem.ClaimSeven
namespace Go.Proofs.YtojdobpmknadhaaDoor
namespace Rows

/-- THE TIED CARD OF 'laws.FnExactBisimilarOf'. -/
def fnExactBisimilarOfCard : Claim7 := { stood := { row := fnExactBisimilarOfRow, standIns := [], harness := (true, "156c632ac4fabf82edce1df214b3b5749bbfd37933ab72c603442ba0521386f5"), looks := false }, kinds := [], alts := [], laidByText := true, laidKinds := [.data, .data, .data], laidTests := true, laidLooks := .later }
def FnExactBisimilarOfCardSaid : Prop := Claim7.holds Tryd.pinned (.plain (OpenSpec.ofChange fnExactBisimilarOfSpec)) fnExactBisimilarOfCard

/-- THE SECOND FORM's CARD OF 'laws.FnExactBisimilarOf'. -/
def fnExactBisimilarOfUptoCard : Claim7 := { stood := { row := fnExactBisimilarOfUptoRow, standIns := [], harness := (true, "156c632ac4fabf82edce1df214b3b5749bbfd37933ab72c603442ba0521386f5"), looks := false }, kinds := [], alts := [], laidByText := true, laidKinds := [.data, .data, .data], laidTests := true, laidLooks := .later }
def FnExactBisimilarOfUptoCardSaid : Prop := Claim7.holds Tryd.pinned (.plain (OpenSpec.upto fnExactBisimilarOfSpec)) fnExactBisimilarOfUptoCard
end Rows
end Go.Proofs.YtojdobpmknadhaaDoor
