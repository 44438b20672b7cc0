/- The signature of ambients, of the program and of the reference; the walk of the law that they agree. -/
import Derived.Test.YtoofnicpjgmneaaProg
import Derived.Test.YtoofnicpjgmneaaCtlMark
set_option linter.unusedVariables false
namespace Go.Proofs.Ytoofnicpjgmneaa
open Go.RowKit

def ambSig : List Ctl := [(⟨#[97, 109, 98]⟩, 1, 0), (⟨#[105, 110]⟩, 1, 1), (⟨#[111, 117, 116]⟩, 1, 1), (⟨#[111, 112, 101, 110]⟩, 1, 1)]

set_option maxHeartbeats 1000000 in
theorem implAmb_any (w : World) :
    Calls Try.prog 5 #[] w fun e w' => ∃ v, e = .returned v ∧ Own w' (fun b => w.heap.size ≤ b ∧ b < w'.heap.size) v ambSig.length (ambSig.flatMap encC) ∧ Below w.heap.size w w' := by
  go_enter Try.func5, Try.ntmps5
  go_wp2
  go_ret
  exact ⟨_, rfl, Own.new w (ambSig.flatMap encC) _ _ _, (Below.refl _ _).alloc (Nat.le_refl _) _⟩

set_option maxHeartbeats 1000000 in
theorem l12Sig_any (w : World) :
    Calls Try.prog 9 #[] w fun e w' => ∃ v, e = .returned v ∧ Own w' (fun b => w.heap.size ≤ b ∧ b < w'.heap.size) v ambSig.length (ambSig.flatMap encC) ∧ Below w.heap.size w w' := by
  go_enter Try.func9, Try.ntmps9
  go_wp2
  go_ret
  exact ⟨_, rfl, Own.new w (ambSig.flatMap encC) _ _ _, (Below.refl _ _).alloc (Nat.le_refl _) _⟩

set_option maxHeartbeats 1000000 in
theorem specAmb_any (w : World) :
    Calls Try.prog 4 #[] w fun e w' => ∃ v, e = .returned v ∧ Own w' (fun b => w.heap.size ≤ b ∧ b < w'.heap.size) v ambSig.length (ambSig.flatMap encC) ∧ Below w.heap.size w w' := by
  have H := Lib.hid (l12Sig_any w)
  go_enter Try.func4, Try.ntmps4
  go_wp2_with fail
  refine H.out.mono ?_
  rintro e w1 ⟨v, rfl, ho, hb⟩
  have HO := Lib.hid ho
  have HB := Lib.hid hb
  clear ho hb
  go_wp2_with fail
  go_ret
  exact ⟨_, rfl, HO.out, HB.out⟩

theorem flat_enc {α : Type} (enc : α → List Value) (l : List α) : (l.map enc).flatten = l.flatMap enc := by
  induction l with
  | nil => rfl
  | cons a r ih => simp [ih]

theorem Own.rc {w : World} {S : Nat → Prop} {v : Value} {l : List Ctl} (h : Own w S v l.length (l.flatMap encC)) (hn : l.length ≤ 16777216) : RSl RC 3 w v l := by
  obtain ⟨A, c, e, hc⟩ := h.cells
  refine ⟨A, c, l.map encC, e, by unfold maxLen; omega, by simp, fun cs h => ?_, by rw [flat_enc]; exact hc, fun i cs x h1 h2 => ?_⟩
  · obtain ⟨x, _, rfl⟩ := List.mem_map.1 h
    rfl
  · rw [List.getElem?_map, h2] at h1
    injection h1 with h1
    exact h1.symm

theorem mark_ctl {S : Nat → Prop} {v : Value} {w : World} (k : Int) (h : Own w S v ambSig.length (ambSig.flatMap encC)) (hl : ambSig.length ≤ 16777216) (h0 : 0 < k) (h1 : k ≤ 1000000000) :
    Calls Try.prog 7 #[v, .int .i64 k] w fun e w' => e = .returned (.int .i64 (k + 12)) ∧ Own w' S v 4 (((List.range 4).map (mC k)).flatMap encC) ∧ Kept S w w' :=
  markControlS_any S v ambSig k w hl h0 h1 h

theorem Own.rcM {w : World} {S : Nat → Prop} {v : Value} {n : Nat} {k : Int} (h : Own w S v n (((List.range n).map (mC k)).flatMap encC)) (hn : n = 4) : RSl RC 3 w v ((List.range n).map (mC k)) := by
  have e : ((List.range n).map (mC k)).length = n := by simp
  exact Own.rc (by rw [e]; exact h) (by rw [e]; omega)

set_option maxRecDepth 100000 in
set_option maxHeartbeats 2000000 in
theorem lawAmbientSignature (w : World) :
    Calls Try.prog 3 #[] w fun e w' => e = .returned (.bool true) ∧ Below w.heap.size w w' := by
  have hl : ambSig.length ≤ 16777216 := by decide
  go_enter Try.func3, Try.ntmps3
  go_wp2_with fail
  refine (specAmb_any w).mono ?_
  rintro e w1 ⟨v1, rfl, ho1, hb1⟩
  go_wp2_with fail
  refine (implAmb_any w1).mono ?_
  rintro e w2 ⟨v2, rfl, ho2, hb2⟩
  have hr1 := (ho1.rc hl).below RC_keep hb2
  have hs := sameT_refl ambSig
  go_wp2_with fail
  refine (eqControlS_any v2 v1 ambSig ambSig w2 (ho2.rc hl) hr1 hl hl).mono ?_
  rintro e w3 ⟨rfl, hb3⟩
  have ho3 := ho2.below hb3 (Nat.le_refl _)
  have hr3 := hr1.below RC_keep hb3
  have HB3 := Lib.hid ((hb1.trans (hb2.mono hb1.size)).trans (hb3.mono (Nat.le_trans hb1.size hb2.size)))
  have hs1 := hb1.size
  have hs2 := hb2.size
  have hs3 := hb3.size
  have hm := mark_ctl 1 ho3 hl (by decide) (by decide)
  simp only [hs, Bool.not_true]
  go_wp2_with fail
  refine hm.mono ?_
  rintro e w4 ⟨rfl, ho4, hk4⟩
  have hs4 := hk4.size
  have hr4 := Own.rcM ho4 rfl
  have HB4 := Lib.hid (HB3.out.trans (hk4.below (B := w.heap.size) (by intro b hb; have := hb1.size; omega) (by have := hb1.size; omega)))
  have HO1 := Lib.hid (((ho1.below hb2 (Nat.le_refl _)).below hb3 (Nat.le_refl _)).kept hk4 (by intro b hb h2; omega))
  have HO4 := Lib.hid ho4
  have HR4 := Lib.hid hr4
  clear ho4 hk4 hr4 hr3 ho3 ho1 ho2 hr1 hb1 hb2 hb3
  go_wp2_with fail
  refine (heldControlS_any v2 4 1 w4 (by decide) (by decide) (by decide) HR4.out).mono ?_
  rintro e w5 ⟨rfl, hb5⟩
  have HB5 := Lib.hid hb5
  have hs5 := hb5.size
  clear hb5
  go_wp2_with fail
  refine (implAmb_any w5).mono ?_
  rintro e w6 ⟨v6, rfl, ho6, hb6⟩
  have hs6 := hb6.size
  have HR6 := Lib.hid (((HO1.out.below HB5.out (Nat.le_refl _)).below hb6 (Nat.le_refl _)).rc hl)
  have HR6' := Lib.hid ((HR4.out.below RC_keep HB5.out).below RC_keep hb6)
  have HB6 := Lib.hid ((HB4.out.trans (HB5.out.mono (by omega))).trans (hb6.mono (by omega)))
  have hr6 := ho6.rc hl
  clear hb6 ho6
  go_wp2_with fail
  refine (eqControlS_any v6 v1 ambSig ambSig w6 hr6 HR6.out hl hl).mono ?_
  rintro e w7 ⟨rfl, hb7⟩
  have hs7 := hb7.size
  have HR7 := Lib.hid (HR6'.out.below RC_keep hb7)
  have HB7 := Lib.hid (HB6.out.trans (hb7.mono (by omega)))
  clear hb7 hr6
  simp only [hs, Bool.not_true]
  go_wp2_with fail
  refine (heldControlS_any v2 4 1 w7 (by decide) (by decide) (by decide) HR7.out).mono ?_
  rintro e w8 ⟨rfl, hb8⟩
  have HB8 := Lib.hid (HB7.out.trans (hb8.mono (by omega)))
  clear hb8
  go_wp2_with fail
  go_ret
  exact ⟨rfl, HB8.out⟩

end Go.Proofs.Ytoofnicpjgmneaa
