/- The law that program and reference agree on a formula's text, walked. -/
import Derived.Test.YtfbcepdcdoiieaaDoorProg
import Derived.Test.YtfbcepdcdoiieaaDoorFText
set_option linter.unusedVariables false
namespace Go.Proofs.YtfbcepdcdoiieaaDoor
open Go.RowKit

def fT (f : List Int) : ByteArray := if isF f then (fText f.length f 0).1 else ⟨#[]⟩

theorem isF_end {f : List Int} (h : isF f = true) : 0 ≤ fEnd f.length f 0 ∧ f.length ≤ 200 := by
  unfold isF at h
  simp only [Bool.and_eq_true, beq_iff_eq] at h
  have := inB_true h.1
  omega

set_option maxHeartbeats 400000 in
theorem implFormulaText_any (A : Option Addr) (c : Nat) (f : List Int) (w : World) (hn : f.length ≤ 1048576) (hA : Cells w A (ints f)) :
    Calls Tryd.prog 7 #[.slice A f.length c] w fun e w' => e = .returned (.tuple #[.string (fT f), .bool (isF f)]) ∧ w = w' := by
  have H := Lib.hid (implIsFormula_any A c f w hn hA)
  unfold fT
  by_cases hf : isF f = true
  · have h0 := isF_end hf
    rw [hf] at H ⊢
    rw [if_pos rfl]
    have H2 := Lib.hid (formulaText_any A c f h0.2 w hA f.length 0 h0.1)
    generalize fText f.length f 0 = r at *
    clear h0 hA
    go_enter Tryd.func7, Tryd.ntmps7
    go_wp2_with (first | ((with_reducible refine H.out.mono ?_); rintro e w' ⟨rfl, rfl⟩) | ((with_reducible refine H2.out.mono ?_); rintro e w' ⟨rfl, rfl⟩))
    go_ret2
    exact ⟨rfl, rfl⟩
  · have hf : isF f = false := by simpa using hf
    rw [hf] at H ⊢
    simp only [Bool.false_eq_true, if_false]
    go_enter Tryd.func7, Tryd.ntmps7
    go_wp2_with ((with_reducible refine H.out.mono ?_); rintro e w' ⟨rfl, rfl⟩)
    go_ret2
    exact ⟨rfl, rfl⟩

set_option maxHeartbeats 400000 in
theorem specFormulaText_any (A : Option Addr) (c : Nat) (f : List Int) (w : World) (hn : f.length ≤ 1048576) (hA : Cells w A (ints f)) :
    Calls Tryd.prog 5 #[.slice A f.length c] w fun e w' => e = .returned (.tuple #[.string (fT f), .bool (isF f)]) ∧ w = w' := by
  have H := Lib.hid (l11Formula_any A c f w hn hA)
  unfold fT
  by_cases hf : isF f = true
  · have h0 := isF_end hf
    rw [hf] at H ⊢
    rw [if_pos rfl]
    have H2 := Lib.hid (l11Text_any A c f h0.2 w hA f.length 0 h0.1)
    generalize fText f.length f 0 = r at *
    clear h0 hA
    go_enter Tryd.func5, Tryd.ntmps5
    go_wp2_with (first | ((with_reducible refine H.out.mono ?_); rintro e w' ⟨rfl, rfl⟩) | ((with_reducible refine H2.out.mono ?_); rintro e w' ⟨rfl, rfl⟩))
    go_ret2
    exact ⟨rfl, rfl⟩
  · have hf : isF f = false := by simpa using hf
    rw [hf] at H ⊢
    simp only [Bool.false_eq_true, if_false]
    go_enter Tryd.func5, Tryd.ntmps5
    go_wp2_with ((with_reducible refine H.out.mono ?_); rintro e w' ⟨rfl, rfl⟩)
    go_ret2
    exact ⟨rfl, rfl⟩

set_option maxHeartbeats 1000000 in
theorem lawFormulaText (A : Option Addr) (c : Nat) (f : List Int) (w : World) (hA : Cells w A (ints f)) :
    Calls Tryd.prog 3 #[.slice A f.length c] w fun e w' => e = .returned (.bool true) ∧ Below w.heap.size w w' := by
  by_cases hn : f.length > 1048576
  · have hn' : (1048576 : Int) < (f.length : Int) := by omega
    clear hA
    go_enter Tryd.func3, Tryd.ntmps3
    go_wp2_with fail
    go_ret
    exact ⟨rfl, Below.refl _ _⟩
  · have hs0 := str_eq (fT f)
    go_enter Tryd.func3, Tryd.ntmps3
    go_wp2_with fail
    refine (toIntS_any A c f w (by omega) hA).mono ?_
    rintro e w1 ⟨v1, rfl, hown1, hb1⟩
    obtain ⟨A1, c1, rfl, hown1⟩ := owns_form hown1
    go_wp2_with fail
    refine (specFormulaText_any A1 c1 f w1 (by omega) (.of_owns hown1)).mono ?_
    rintro e w1' ⟨rfl, rfl⟩
    go_wp2_with fail
    refine (toIntS_any A c f w1 (by omega) (hA.below hb1)).mono ?_
    rintro e w2 ⟨v2, rfl, hown2, hb2⟩
    obtain ⟨A2, c2, rfl, hown2⟩ := owns_form hown2
    go_wp2_with fail
    refine (implFormulaText_any A2 c2 f w2 (by omega) (.of_owns hown2)).mono ?_
    rintro e w2' ⟨rfl, rfl⟩
    have hne : (isF f != isF f) = false := by rw [bne_self_eq_false]
    go_wp2_with fail
    refine (toIntS_any A c f w2 (by omega) ((hA.below hb1).below hb2)).mono ?_
    rintro e w3 ⟨v3, rfl, hown3, hb3⟩
    obtain ⟨A3, c3, rfl, hown3⟩ := owns_form hown3
    go_wp2_with fail
    refine (eqIntS_any A2 A3 c2 c3 f f w3 (by omega) (by omega) ((Cells.of_owns hown2).below hb3) (.of_owns hown3)).mono ?_
    rintro e w4 ⟨rfl, hb4⟩
    have hs := sameI_refl f
    go_wp2_with fail
    go_ret
    exact ⟨rfl, (hb1.trans (hb2.mono hb1.size)).trans ((hb3.mono (Nat.le_trans hb1.size hb2.size)).trans (hb4.mono (Nat.le_trans hb1.size (Nat.le_trans hb2.size hb3.size))))⟩

end Go.Proofs.YtfbcepdcdoiieaaDoor
