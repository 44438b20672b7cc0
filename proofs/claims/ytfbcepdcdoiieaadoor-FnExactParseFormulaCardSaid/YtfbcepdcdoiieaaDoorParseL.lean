/- The law that program and reference read formulas alike, walked. -/
import Derived.Test.YtfbcepdcdoiieaaDoorProg
import Derived.Test.YtfbcepdcdoiieaaDoorRead
import Derived.Test.YtfbcepdcdoiieaaDoorMark
set_option linter.unusedVariables false
namespace Go.Proofs.YtfbcepdcdoiieaaDoor
open Go.RowKit

theorem pf_len (s : ByteArray) : (pfI s).length ≤ 202 := by
  unfold pfI
  split
  · rename_i h
    have := okP_got h
    have hf : isF (gotI s) = true := by unfold okP at h; simp only [Bool.and_eq_true] at h; exact h.1
    have := isF_end hf
    omega
  · simp

set_option maxRecDepth 100000 in
set_option maxHeartbeats 2000000 in
theorem lawParseFormula (s : ByteArray) (w : World) (hsz : s.size ≤ maxLen) :
    Calls Tryd.prog 4 #[.string s] w fun e w' => e = .returned (.bool true) ∧ Below w.heap.size w w' := by
  have hsz' : s.size ≤ 9223372036854775807 := by unfold maxLen at hsz; omega
  by_cases hl : (1048576 : Int) < (s.size : Int)
  · go_enter Tryd.func4, Tryd.ntmps4
    go_wp2_with fail
    go_ret
    exact ⟨rfl, Below.refl _ _⟩
  · have hs : s.size ≤ 1048576 := by omega
    have hT := Lib.hid (fun W => specParse_any s W hs)
    have hI := Lib.hid (fun W => implParse_any s W hs)
    obtain ⟨hp, ho⟩ := pf_same s
    rw [hp, ho] at hT
    have hln := pf_len s
    have HSM := Lib.hid (sameI_refl (pfI s))
    clear hp ho
    generalize pfI s = f at *
    generalize okP (gotI s) s = ok at *
    have hok : (ok != ok) = false := by simp
    go_enter Tryd.func4, Tryd.ntmps4
    go_wp2_with fail
    refine (hT.out w).mono ?_
    rintro e w1 ⟨v0, rfl, ho0, hb1⟩
    obtain ⟨A0, c0, rfl, ho0⟩ := owns_form ho0
    go_wp2_with fail
    refine (hI.out w1).mono ?_
    rintro e w2 ⟨v1, rfl, ho1, hb2⟩
    obtain ⟨A1, c1, rfl, ho1⟩ := owns_form ho1
    have hs1 := hb1.size
    have hs2 := hb2.size
    have ho02 := owns_below ho0 hb2 (Nat.le_refl _)
    go_wp2_with fail
    refine (eqIntS_any A1 A0 c1 c0 f f w2 (by omega) (by omega) (.of_owns ho1) (.of_owns ho02)).mono ?_
    rintro e w3 ⟨rfl, hb3⟩
    have hs3 := hb3.size
    rw [HSM.out]
    have ho13 := owns_below ho1 hb3 (Nat.le_refl _)
    have ho03 := owns_below ho02 hb3 (Nat.le_refl _)
    have HB3 := Lib.hid ((hb1.trans (hb2.mono hs1)).trans (hb3.mono (Nat.le_trans hs1 hs2)))
    have HA := Lib.hid (show ∀ b, (Value.slice A0 f.length c0).ownBlock = some b → b < w1.heap.size from fun b h => (ho0.lt b h).2)
    have HC := Lib.hid (show ∀ b, (Value.slice A1 f.length c1).ownBlock = some b → w1.heap.size ≤ b from fun b h => (ho1.lt b h).1)
    have HO1 := Lib.hid (Own.of_owns ho13)
    have HO0 := Lib.hid (Own.of_owns ho03)
    clear hb1 hb2 hb3 ho0 ho1 ho02 ho13 ho03
    go_wp2_with fail
    refine (markIntS_any _ _ f 1 w3 (by omega) (by decide) (by decide) HO1.out).mono ?_
    rintro e w4 ⟨rfl, ho4, hk4⟩
    have hs4 := hk4.size
    have HB4 := Lib.hid (HB3.out.trans (hk4.below (B := w.heap.size) (fun b hb => Nat.le_trans hs1 (HC.out b hb)) (by omega)))
    have HO04 := Lib.hid (HO0.out.kept hk4 (fun b h1 h2 => by have a1 := HA.out b h1; have a2 := HC.out b h2; omega))
    obtain ⟨A4, c4, e4, hc4⟩ := ho4.cells
    cases e4
    have HC4 := Lib.hid hc4
    clear hk4 ho4 hc4
    go_wp2_with fail
    refine (heldIntS_any A1 c1 f.length 1 w4 (by omega) (by decide) (by decide) HC4.out).mono ?_
    rintro e w4' ⟨rfl, rfl⟩
    go_wp2_with fail
    refine (hI.out w4).mono ?_
    rintro e w5 ⟨v5, rfl, ho5, hb5⟩
    obtain ⟨A5, c5, rfl, ho5⟩ := owns_form ho5
    have hs5 := hb5.size
    have HC5 := Lib.hid (HC4.out.below hb5)
    obtain ⟨A0', c0', e5, hc05⟩ := (HO04.out.below hb5 (Nat.le_refl _)).cells
    cases e5
    have HB5 := Lib.hid (HB4.out.trans (hb5.mono (by omega)))
    clear hb5
    go_wp2_with fail
    refine (eqIntS_any A5 A0 c5 c0 f f w5 (by omega) (by omega) (.of_owns ho5) hc05).mono ?_
    rintro e w6 ⟨rfl, hb6⟩
    rw [HSM.out]
    have HC6 := Lib.hid (HC5.out.below hb6)
    have HB6 := Lib.hid (HB5.out.trans (hb6.mono (by omega)))
    clear hb6 ho5 hc05
    go_wp2_with fail
    refine (heldIntS_any A1 c1 f.length 1 w6 (by omega) (by decide) (by decide) HC6.out).mono ?_
    rintro e w6' ⟨rfl, rfl⟩
    go_wp2_with fail
    go_ret
    exact ⟨rfl, HB6.out⟩

end Go.Proofs.YtfbcepdcdoiieaaDoor
