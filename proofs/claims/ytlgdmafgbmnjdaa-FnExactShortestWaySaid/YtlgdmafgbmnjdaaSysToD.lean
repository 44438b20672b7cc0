/- Systems copied by the law package, walked. -/
import Derived.Test.YtlgdmafgbmnjdaaProg
import Derived.Test.YtlgdmafgbmnjdaaSysToC
set_option linter.unusedVariables false
namespace Go.Proofs.Ytlgdmafgbmnjdaa
open Go.RowKit

set_option maxRecDepth 100000 in
set_option maxHeartbeats 4000000 in
theorem toSystem_any (v : Value) (x : Sys) (w : World) (hv : RSys w v x) (hc : costSys x ≤ 16777216) :
    Calls Try.prog 11 #[v] w fun e w' => ∃ u, e = .returned u ∧ OSys w' (fun b => w.heap.size ≤ b ∧ b < w'.heap.size) u x ∧ Below w.heap.size w w' := by
  obtain ⟨sv, tv, rfl, hs, ht⟩ := hv
  have HSV := Lib.hid (show ∀ W, Below w.heap.size w W → RSl RBig 6 W sv x.states from fun W hb => hs.below RBig_keep hb)
  have HTV := Lib.hid (show ∀ W, Below w.heap.size w W → RA3 W tv x.steps from fun W hb => ht.below hb)
  have c1 : costL costBig x.states ≤ 16777216 := by unfold costSys at hc; omega
  have c2 : x.steps.length ≤ 16777216 := by unfold costSys at hc; omega
  have C1 := Lib.hid c1
  clear hs ht hc c1
  go_enter Try.func11, Try.ntmps11
  go_wp2_with fail
  refine (toBigraphS_any sv x.states _ (HSV.out _ (by repeat (first | with_reducible exact bodyBelow | refine Below.setCell ?_ (by simp; try omega) _))) C1.out).mono ?_
  rintro e w1 ⟨u1, rfl, ho1, hw1⟩
  obtain ⟨A1, d1, rfl⟩ := ho1.form
  have hz1 : Below w.heap.size w w1 := Below.trans bodyBelow (hw1.mono (by simp; try omega))
  obtain ⟨b0, b1, b2, bz⟩ := three_boxes hw1
  have hsz1 := hw1.size
  simp only [World.size_setCell, World.size_alloc] at hsz1 ho1
  have p1 : w1.cell? ⟨w.heap.size, 1, none⟩ = some (tv) := cell_of_row _ _ _ _ _ _ b0
  have k0 : w1.cell? ⟨w.heap.size + 1 + 1, 0, none⟩ = some (.slice none 0 0) := cell_of_row _ _ _ _ _ _ b2
  have f0 := frozen_of_row w1 _ 0 _ _ b2
  have k1 : w1.cell? ⟨w.heap.size + 1 + 1, 1, none⟩ = some (.slice none 0 0) := cell_of_row _ _ _ _ _ _ b2
  have f1 := frozen_of_row w1 _ 1 _ _ b2
  have B0 := Lib.hid b0
  have B1 := Lib.hid b1
  have B2 := Lib.hid b2
  have BZ := bz
  have HO1 := Lib.hid ho1
  clear b0 b1 b2 bz ho1 hw1 
  go_wp2_with fail
  refine (toIntA3S_own tv x.steps _ (HTV.out _ (by repeat (first | with_reducible exact hz1 | refine Below.setCell ?_ (by simp; try omega) _))) c2).mono ?_
  rintro e w2 ⟨u2, rfl, ho2, hw2⟩
  obtain ⟨A2, d2, rfl, _⟩ := id ho2
  clear p1 k0 f0 k1 f1
  have hz2 : Below w.heap.size w w2 := Below.trans (by repeat (first | with_reducible exact hz1 | refine Below.setCell ?_ (by simp; try omega) _)) (hw2.mono (by simp; have := hz1.size; try omega))
  have y0 : ((w1).setCell ⟨w.heap.size + 1 + 1, 0, none⟩ (.slice A1 x.states.length d1)).heap[w.heap.size + 1 + 1]? = some (.cells #[.slice A1 x.states.length d1, .slice none 0 0] 32) := by rw [heap_setCell_same _ _ _ _ _ _ B2.out]; rfl
  have b2 := (hw2.block (w.heap.size + 1 + 1) (by simp; omega)).trans y0
  have b1 : w2.heap[w.heap.size + 1]? = some (.cells #[.slice none 0 0, .slice none 0 0] 32) := (hw2.block (w.heap.size + 1) (by simp; omega)).trans (by rw [heap_setCell_other _ _ _ _ (by dsimp only; omega)]; exact B1.out)
  have b0 : w2.heap[w.heap.size]? = some (.cells #[sv, tv] 25) := (hw2.block (w.heap.size) (by simp; omega)).trans (by rw [heap_setCell_other _ _ _ _ (by dsimp only; omega)]; exact B0.out)
  have bz : w.heap.size + 1 + 1 < w2.heap.size := Nat.lt_of_lt_of_le BZ (by have := hw2.size; simpa using this)
  have KT2 : Kept (fun b => b < w.heap.size + 1 + 1 + 1) w1 w2 := Kept.trans (by repeat (first | with_reducible exact Kept.refl _ _ | refine Kept.setCell ?_ (by simp; try omega) _)) (Kept.of_below hw2 _)
  have hsz2 := hw2.size
  simp only [World.size_setCell, World.size_alloc] at hsz2 ho2
  have k0 : w2.cell? ⟨w.heap.size + 1 + 1, 0, none⟩ = some (.slice A1 x.states.length d1) := cell_of_row _ _ _ _ _ _ b2
  have f0 := frozen_of_row w2 _ 0 _ _ b2
  have k1 : w2.cell? ⟨w.heap.size + 1 + 1, 1, none⟩ = some (.slice none 0 0) := cell_of_row _ _ _ _ _ _ b2
  have f1 := frozen_of_row w2 _ 1 _ _ b2
  have m0 : w2.cell? ⟨w.heap.size + 1, 0, none⟩ = some (.slice none 0 0) := cell_of_row _ _ _ _ _ _ b1
  have g0 := frozen_of_row w2 _ 0 _ _ b1
  have m1 : w2.cell? ⟨w.heap.size + 1, 1, none⟩ = some (.slice none 0 0) := cell_of_row _ _ _ _ _ _ b1
  have g1 := frozen_of_row w2 _ 1 _ _ b1
  have B0 := Lib.hid b0
  have B1 := Lib.hid b1
  have B2 := Lib.hid b2
  have BZ := bz
  have HO2 := Lib.hid ho2
  have HK2 := Lib.hid KT2
  clear KT2
  clear b0 b1 b2 bz ho2 hw2 y0
  go_wp2_with fail
  refine bodyPost_ret (v := .agg #[.slice A1 x.states.length d1, .slice A2 x.steps.length d2]) (by simp [results, Try.results11, go_sem, *]) rfl ⟨_, rfl, ?_, ?_⟩
  · refine ⟨_, _, fun b => w.heap.size + 1 + 1 + 1 ≤ b ∧ b < w1.heap.size, fun b => w1.heap.size ≤ b ∧ b < w2.heap.size, rfl, ?_, ?_, ?_, ?_, ?_⟩
    · exact HO1.out.kept OBig_keep (HK2.out.trans (show Kept (fun b => b < w.heap.size + 1 + 1 + 1) w2 _ by repeat (first | with_reducible exact Kept.refl _ _ | refine Kept.setCell ?_ (by simp; try omega) _))) (fun b hb => by omega)
    · exact HO2.out.kept (show Kept (fun b => b < w.heap.size + 1 + 1 + 1) w2 _ by repeat (first | with_reducible exact Kept.refl _ _ | refine Kept.setCell ?_ (by simp; try omega) _)) (fun b hb => by omega)
    · intro b hb; simp; omega
    · intro b hb; simp; omega
    · intro b hb; omega
  · repeat (first | with_reducible exact hz2 | refine Below.setCell ?_ (by simp; try omega) _)

end Go.Proofs.Ytlgdmafgbmnjdaa
