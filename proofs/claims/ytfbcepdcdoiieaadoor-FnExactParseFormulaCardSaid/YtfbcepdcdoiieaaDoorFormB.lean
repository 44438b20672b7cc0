/- IsFormula of the program and of the reference, and the statement that they agree: the walk of the law. -/
import Derived.Test.YtfbcepdcdoiieaaDoorFormA
import Derived.Test.YtfbcepdcdoiieaaDoorIntS
set_option linter.unusedVariables false
namespace Go.Proofs.YtfbcepdcdoiieaaDoor
open Go.RowKit

theorem Ints.of_cells {w : World} {A : Option Addr} {f : List Int} (h : Cells w A (ints f)) : Ints w A f := fun j hj => by
  obtain ⟨b, o, e, hc⟩ := h.int hj
  exact ⟨b, o, e, hc j hj⟩

/-- Whether a list is a formula. -/
def isF (f : List Int) : Bool := inB f.length 1 200 && (fEnd f.length f 0 == (f.length : Int))

set_option maxHeartbeats 400000 in
theorem implIsFormula_any (A : Option Addr) (c : Nat) (f : List Int) (w : World) (hn : f.length ≤ 1048576) (hA : Cells w A (ints f)) :
    Calls Tryd.prog 15 #[.slice A f.length c] w fun e w' => e = .returned (.bool (isF f)) ∧ w = w' := by
  have HF := Lib.hid (formulaEnd_any A c f hn w (.of_cells hA) f.length 0 (by omega) (by omega) (by omega))
  unfold isF
  go_enter Tryd.func15, Tryd.ntmps15
  go_wp2_with (first
    | ((with_reducible refine (within_any ..).mono ?_); rintro e w' ⟨rfl, rfl⟩)
    | ((with_reducible refine HF.out.mono ?_); rintro e w' ⟨rfl, rfl⟩))
  all_goals (go_ret; refine ⟨congrArg (fun z => Ending.returned (.bool z)) ?_, rfl⟩; simp only [*, Bool.false_and, Bool.true_and]; try rfl)

set_option maxHeartbeats 400000 in
theorem l11Formula_any (A : Option Addr) (c : Nat) (f : List Int) (w : World) (hn : f.length ≤ 1048576) (hA : Cells w A (ints f)) :
    Calls Tryd.prog 13 #[.slice A f.length c] w fun e w' => e = .returned (.bool (isF f)) ∧ w = w' := by
  have HF := Lib.hid (l11End_any A c f hn w (.of_cells hA) f.length 0 (by omega) (by omega) (by omega))
  unfold isF
  go_enter Tryd.func13, Tryd.ntmps13
  go_wp2_with (first
    | ((with_reducible refine HF.out.mono ?_); rintro e w' ⟨rfl, rfl⟩))
  all_goals (go_ret; refine ⟨congrArg (fun z => Ending.returned (.bool z)) ?_, rfl⟩)
  all_goals (rw [Bool.eq_iff_iff]; simp only [inB, Bool.and_eq_true, decide_eq_true_eq, beq_iff_eq, Bool.false_eq_true, false_iff]; omega)

theorem sameI_refl (xs : List Int) : sameI xs xs = true := by simp [sameI]

end Go.Proofs.YtfbcepdcdoiieaaDoor
