/- IsFormula of the program and of the reference, and the statement that they agree: the walk of the law. -/
import Derived.Test.YtfbcepdcdoiieaaFormA
import Derived.Test.YtfbcepdcdoiieaaIntS
set_option linter.unusedVariables false
namespace Go.Proofs.Ytfbcepdcdoiieaa
open Go.RowKit

theorem Ints.of_cells {w : World} {A : Option Addr} {f : List Int} (h : Cells w A (ints f)) : Ints w A f := fun j hj => by
  obtain ⟨b, o, e, hc⟩ := h.int hj
  exact ⟨b, o, e, hc j hj⟩

/-- Whether a list is a formula. -/
def isF (f : List Int) : Bool := inB f.length 1 200 && (fEnd f.length f 0 == (f.length : Int))

set_option maxHeartbeats 400000 in
theorem implIsFormula_any (A : Option Addr) (c : Nat) (f : List Int) (w : World) (hn : f.length ≤ 1048576) (hA : Cells w A (ints f)) :
    Calls Try.prog 11 #[.slice A f.length c] w fun e w' => e = .returned (.bool (isF f)) ∧ w = w' := by
  have HF := Lib.hid (formulaEnd_any A c f hn w (.of_cells hA) f.length 0 (by omega) (by omega) (by omega))
  unfold isF
  go_enter Try.func11, Try.ntmps11
  go_wp2_with (first
    | ((with_reducible refine (within_any ..).mono ?_); rintro e w' ⟨rfl, rfl⟩)
    | ((with_reducible refine HF.out.mono ?_); rintro e w' ⟨rfl, rfl⟩))
  all_goals (go_ret; refine ⟨congrArg (fun z => Ending.returned (.bool z)) ?_, rfl⟩; simp only [*, Bool.false_and, Bool.true_and]; try rfl)

set_option maxHeartbeats 400000 in
theorem l11Formula_any (A : Option Addr) (c : Nat) (f : List Int) (w : World) (hn : f.length ≤ 1048576) (hA : Cells w A (ints f)) :
    Calls Try.prog 33 #[.slice A f.length c] w fun e w' => e = .returned (.bool (isF f)) ∧ w = w' := by
  have HF := Lib.hid (l11End_any A c f hn w (.of_cells hA) f.length 0 (by omega) (by omega) (by omega))
  unfold isF
  go_enter Try.func33, Try.ntmps33
  go_wp2_with (first
    | ((with_reducible refine HF.out.mono ?_); rintro e w' ⟨rfl, rfl⟩))
  all_goals (go_ret; refine ⟨congrArg (fun z => Ending.returned (.bool z)) ?_, rfl⟩)
  all_goals (rw [Bool.eq_iff_iff]; simp only [inB, Bool.and_eq_true, decide_eq_true_eq, beq_iff_eq, Bool.false_eq_true, false_iff]; omega)

set_option maxHeartbeats 400000 in
theorem specIsFormula_any (A : Option Addr) (c : Nat) (f : List Int) (w : World) (hn : f.length ≤ 1048576) (hA : Cells w A (ints f)) :
    Calls Try.prog 9 #[.slice A f.length c] w fun e w' => e = .returned (.bool (isF f)) ∧ w = w' := by
  have HF := Lib.hid (l11Formula_any A c f w hn hA)
  go_enter Try.func9, Try.ntmps9
  go_wp2_with ((with_reducible refine HF.out.mono ?_); rintro e w' ⟨rfl, rfl⟩)
  go_ret
  exact ⟨rfl, rfl⟩

theorem sameI_refl (xs : List Int) : sameI xs xs = true := by simp [sameI]

set_option maxHeartbeats 1000000 in
theorem lawIsFormula (A : Option Addr) (c : Nat) (f : List Int) (w : World) (hA : Cells w A (ints f)) :
    Calls Try.prog 3 #[.slice A f.length c] w fun e w' => e = .returned (.bool true) ∧ Below w.heap.size w w' := by
  by_cases hl : (1048576 : Int) < f.length
  · go_enter Try.func3, Try.ntmps3
    go_wp2_with fail
    go_ret
    exact ⟨rfl, Below.refl _ _⟩
  · go_enter Try.func3, Try.ntmps3
    go_wp2_with fail
    refine (toIntS_any A c f w (by omega) hA).mono ?_
    rintro e w1 ⟨v1, rfl, hown1, hb1⟩
    obtain ⟨A1, c1, rfl, hown1⟩ := owns_form hown1
    go_wp2_with fail
    refine (specIsFormula_any A1 c1 f w1 (by omega) (.of_owns hown1)).mono ?_
    rintro e w1' ⟨rfl, rfl⟩
    go_wp2_with fail
    refine (toIntS_any A c f w1 (by omega) (hA.below hb1)).mono ?_
    rintro e w2 ⟨v2, rfl, hown2, hb2⟩
    obtain ⟨A2, c2, rfl, hown2⟩ := owns_form hown2
    go_wp2_with fail
    refine (implIsFormula_any A2 c2 f w2 (by omega) (.of_owns hown2)).mono ?_
    rintro e w2' ⟨rfl, rfl⟩
    have hne : (isF f != isF f) = false := by rw [bne_self_eq_false]
    go_wp2_with fail
    refine (toIntS_any A c f w2 (by omega) ((hA.below hb1).below hb2)).mono ?_
    rintro e w3 ⟨v3, rfl, hown3, hb3⟩
    obtain ⟨A3, c3, rfl, hown3⟩ := owns_form hown3
    go_wp2_with fail
    refine (eqIntS_any A2 A3 c2 c3 f f w3 (by omega) (by omega) ((Cells.of_owns hown2).below hb3) (.of_owns hown3)).mono ?_
    rintro e w4 ⟨rfl, hb4⟩
    have hs := sameI_refl f
    go_wp2_with fail
    go_ret
    exact ⟨rfl, (hb1.trans (hb2.mono hb1.size)).trans ((hb3.mono (Nat.le_trans hb1.size hb2.size)).trans (hb4.mono (Nat.le_trans hb1.size (Nat.le_trans hb2.size hb3.size))))⟩

end Go.Proofs.Ytfbcepdcdoiieaa
