/- Bigraphs copied by the law package, walked. -/
import Derived.Test.YtlgdmafgbmnjdaaProg
import Derived.Test.YtlgdmafgbmnjdaaSysTo
set_option linter.unusedVariables false
namespace Go.Proofs.Ytlgdmafgbmnjdaa
open Go.RowKit

set_option maxRecDepth 100000 in
set_option maxHeartbeats 8000000 in
theorem toBigraph_any (nv sv ov iv : Value) (x : Big) (w : World) (hn : RSl RBN 3 w nv x.2.1) (hs : RI w sv x.2.2.1) (ho : RSl RStr 1 w ov x.2.2.2.2.1) (hi : RSl RBW 2 w iv x.2.2.2.2.2) (hc : costBig x ≤ 16777216) :
    Calls Try.prog 70 #[.agg #[.int .i64 x.1, nv, sv, .int .i64 x.2.2.2.1, ov, iv]] w fun e w' => ∃ cs, e = .returned (.agg cs.toArray) ∧ OBig w' (fun b => w.heap.size ≤ b ∧ b < w'.heap.size) cs x ∧ Below w.heap.size w w' := by
  have HNV := Lib.hid (show ∀ W, Below w.heap.size w W → RSl RBN 3 W nv x.2.1 from fun W hb => hn.below RBN_keep hb)
  have HSV := Lib.hid (show ∀ W, Below w.heap.size w W → RI W sv x.2.2.1 from fun W hb => hs.below hb)
  have HOV := Lib.hid (show ∀ W, Below w.heap.size w W → RSl RStr 1 W ov x.2.2.2.2.1 from fun W hb => ho.below RStr_keep hb)
  have HIV := Lib.hid (show ∀ W, Below w.heap.size w W → RSl RBW 2 W iv x.2.2.2.2.2 from fun W hb => hi.below RBW_keep hb)
  have c1 : costL costBN x.2.1 ≤ 16777216 := by unfold costBig at hc; omega
  have c2 : x.2.2.1.length ≤ 16777216 := by unfold costBig at hc; omega
  have c3 : costL costStr x.2.2.2.2.1 ≤ 16777216 := by unfold costBig at hc; omega
  have c4 : costL costBW x.2.2.2.2.2 ≤ 16777216 := by unfold costBig at hc; omega
  have C1 := Lib.hid c1
  have C2 := Lib.hid c2
  have C3 := Lib.hid c3
  have C4 := Lib.hid c4
  clear hn hs ho hi hc c1 c2 c3 c4
  go_enter Try.func70, Try.ntmps70
  go_wp2_with fail
  refine (toNodeS_any nv x.2.1 _ (HNV.out _ (by repeat (first | with_reducible exact bodyBelow | refine Below.setCell ?_ (by simp; try omega) _))) C1.out).mono ?_
  rintro e w1 ⟨u1, rfl, ho1, hw1⟩
  obtain ⟨A1, d1, rfl⟩ := ho1.form
  have hz1 : Below w.heap.size w w1 := Below.trans bodyBelow (hw1.mono (by simp; try omega))
  obtain ⟨b0, b1, b2, bz⟩ := three_boxes hw1
  have hsz1 := hw1.size
  simp only [World.size_setCell, World.size_alloc] at hsz1 ho1
  have p2 : w1.cell? ⟨w.heap.size, 2, none⟩ = some (sv) := cell_of_row _ _ _ _ _ _ b0
  have p3 : w1.cell? ⟨w.heap.size, 3, none⟩ = some (.int .i64 x.2.2.2.1) := cell_of_row _ _ _ _ _ _ b0
  have p4 : w1.cell? ⟨w.heap.size, 4, none⟩ = some (ov) := cell_of_row _ _ _ _ _ _ b0
  have p5 : w1.cell? ⟨w.heap.size, 5, none⟩ = some (iv) := cell_of_row _ _ _ _ _ _ b0
  have k0 : w1.cell? ⟨w.heap.size + 1 + 1, 0, none⟩ = some (.int .i64 x.1) := cell_of_row _ _ _ _ _ _ b2
  have f0 := frozen_of_row w1 _ 0 _ _ b2
  have k1 : w1.cell? ⟨w.heap.size + 1 + 1, 1, none⟩ = some (.slice none 0 0) := cell_of_row _ _ _ _ _ _ b2
  have f1 := frozen_of_row w1 _ 1 _ _ b2
  have k2 : w1.cell? ⟨w.heap.size + 1 + 1, 2, none⟩ = some (.slice none 0 0) := cell_of_row _ _ _ _ _ _ b2
  have f2 := frozen_of_row w1 _ 2 _ _ b2
  have k3 : w1.cell? ⟨w.heap.size + 1 + 1, 3, none⟩ = some (.int .i64 0) := cell_of_row _ _ _ _ _ _ b2
  have f3 := frozen_of_row w1 _ 3 _ _ b2
  have k4 : w1.cell? ⟨w.heap.size + 1 + 1, 4, none⟩ = some (.slice none 0 0) := cell_of_row _ _ _ _ _ _ b2
  have f4 := frozen_of_row w1 _ 4 _ _ b2
  have k5 : w1.cell? ⟨w.heap.size + 1 + 1, 5, none⟩ = some (.slice none 0 0) := cell_of_row _ _ _ _ _ _ b2
  have f5 := frozen_of_row w1 _ 5 _ _ b2
  have B0 := Lib.hid b0
  have B1 := Lib.hid b1
  have B2 := Lib.hid b2
  have BZ := bz
  have HO1 := Lib.hid ho1
  clear b0 b1 b2 bz ho1 hw1 
  go_wp2_with fail
  refine (toIntS_own sv x.2.2.1 _ (HSV.out _ (by repeat (first | with_reducible exact hz1 | refine Below.setCell ?_ (by simp; try omega) _))) C2.out).mono ?_
  rintro e w2 ⟨u2, rfl, ho2, hw2⟩
  obtain ⟨A2, d2, rfl, _⟩ := id ho2
  clear p2 p3 p4 p5 k0 f0 k1 f1 k2 f2 k3 f3 k4 f4 k5 f5
  have hz2 : Below w.heap.size w w2 := Below.trans (by repeat (first | with_reducible exact hz1 | refine Below.setCell ?_ (by simp; try omega) _)) (hw2.mono (by simp; have := hz1.size; try omega))
  have y0 : ((w1).setCell ⟨w.heap.size + 1 + 1, 1, none⟩ (.slice A1 x.2.1.length d1)).heap[w.heap.size + 1 + 1]? = some (.cells #[.int .i64 x.1, .slice A1 x.2.1.length d1, .slice none 0 0, .int .i64 0, .slice none 0 0, .slice none 0 0] 88) := by rw [heap_setCell_same _ _ _ _ _ _ B2.out]; rfl
  have b2 := (hw2.block (w.heap.size + 1 + 1) (by simp; omega)).trans y0
  have b1 : w2.heap[w.heap.size + 1]? = some (.cells #[.int .i64 0, .slice none 0 0, .slice none 0 0, .int .i64 0, .slice none 0 0, .slice none 0 0] 88) := (hw2.block (w.heap.size + 1) (by simp; omega)).trans (by rw [heap_setCell_other _ _ _ _ (by dsimp only; omega)]; exact B1.out)
  have b0 : w2.heap[w.heap.size]? = some (.cells #[.int .i64 x.1, nv, sv, .int .i64 x.2.2.2.1, ov, iv] 83) := (hw2.block (w.heap.size) (by simp; omega)).trans (by rw [heap_setCell_other _ _ _ _ (by dsimp only; omega)]; exact B0.out)
  have bz : w.heap.size + 1 + 1 < w2.heap.size := Nat.lt_of_lt_of_le BZ (by have := hw2.size; simpa using this)
  have KT2 : Kept (fun b => b < w.heap.size + 1 + 1 + 1) w1 w2 := Kept.trans (by repeat (first | with_reducible exact Kept.refl _ _ | refine Kept.setCell ?_ (by simp; try omega) _)) (Kept.of_below hw2 _)
  have hsz2 := hw2.size
  simp only [World.size_setCell, World.size_alloc] at hsz2 ho2
  have p3 : w2.cell? ⟨w.heap.size, 3, none⟩ = some (.int .i64 x.2.2.2.1) := cell_of_row _ _ _ _ _ _ b0
  have p4 : w2.cell? ⟨w.heap.size, 4, none⟩ = some (ov) := cell_of_row _ _ _ _ _ _ b0
  have p5 : w2.cell? ⟨w.heap.size, 5, none⟩ = some (iv) := cell_of_row _ _ _ _ _ _ b0
  have k0 : w2.cell? ⟨w.heap.size + 1 + 1, 0, none⟩ = some (.int .i64 x.1) := cell_of_row _ _ _ _ _ _ b2
  have f0 := frozen_of_row w2 _ 0 _ _ b2
  have k1 : w2.cell? ⟨w.heap.size + 1 + 1, 1, none⟩ = some (.slice A1 x.2.1.length d1) := cell_of_row _ _ _ _ _ _ b2
  have f1 := frozen_of_row w2 _ 1 _ _ b2
  have k2 : w2.cell? ⟨w.heap.size + 1 + 1, 2, none⟩ = some (.slice none 0 0) := cell_of_row _ _ _ _ _ _ b2
  have f2 := frozen_of_row w2 _ 2 _ _ b2
  have k3 : w2.cell? ⟨w.heap.size + 1 + 1, 3, none⟩ = some (.int .i64 0) := cell_of_row _ _ _ _ _ _ b2
  have f3 := frozen_of_row w2 _ 3 _ _ b2
  have k4 : w2.cell? ⟨w.heap.size + 1 + 1, 4, none⟩ = some (.slice none 0 0) := cell_of_row _ _ _ _ _ _ b2
  have f4 := frozen_of_row w2 _ 4 _ _ b2
  have k5 : w2.cell? ⟨w.heap.size + 1 + 1, 5, none⟩ = some (.slice none 0 0) := cell_of_row _ _ _ _ _ _ b2
  have f5 := frozen_of_row w2 _ 5 _ _ b2
  have B0 := Lib.hid b0
  have B1 := Lib.hid b1
  have B2 := Lib.hid b2
  have BZ := bz
  have HO2 := Lib.hid ho2
  have HK2 := Lib.hid KT2
  clear KT2
  clear b0 b1 b2 bz ho2 hw2 y0
  go_wp2_with fail
  refine (toStringS_any ov x.2.2.2.2.1 _ (HOV.out _ (by repeat (first | with_reducible exact hz2 | refine Below.setCell ?_ (by simp; try omega) _))) C3.out).mono ?_
  rintro e w3 ⟨u3, rfl, ho3, hw3⟩
  obtain ⟨A3, d3, rfl⟩ := ho3.form
  clear p3 p4 p5 k0 f0 k1 f1 k2 f2 k3 f3 k4 f4 k5 f5
  have hz3 : Below w.heap.size w w3 := Below.trans (by repeat (first | with_reducible exact hz2 | refine Below.setCell ?_ (by simp; try omega) _)) (hw3.mono (by simp; have := hz2.size; try omega))
  have y0 : ((w2).setCell ⟨w.heap.size + 1 + 1, 2, none⟩ (.slice A2 x.2.2.1.length d2)).heap[w.heap.size + 1 + 1]? = some (.cells #[.int .i64 x.1, .slice A1 x.2.1.length d1, .slice A2 x.2.2.1.length d2, .int .i64 0, .slice none 0 0, .slice none 0 0] 88) := by rw [heap_setCell_same _ _ _ _ _ _ B2.out]; rfl
  have y1 : (((w2).setCell ⟨w.heap.size + 1 + 1, 2, none⟩ (.slice A2 x.2.2.1.length d2)).setCell ⟨w.heap.size + 1 + 1, 3, none⟩ (.int .i64 x.2.2.2.1)).heap[w.heap.size + 1 + 1]? = some (.cells #[.int .i64 x.1, .slice A1 x.2.1.length d1, .slice A2 x.2.2.1.length d2, .int .i64 x.2.2.2.1, .slice none 0 0, .slice none 0 0] 88) := by rw [heap_setCell_same _ _ _ _ _ _ y0]; rfl
  have b2 := (hw3.block (w.heap.size + 1 + 1) (by simp; omega)).trans y1
  have b1 : w3.heap[w.heap.size + 1]? = some (.cells #[.int .i64 0, .slice none 0 0, .slice none 0 0, .int .i64 0, .slice none 0 0, .slice none 0 0] 88) := (hw3.block (w.heap.size + 1) (by simp; omega)).trans (by rw [heap_setCell_other _ _ _ _ (by dsimp only; omega), heap_setCell_other _ _ _ _ (by dsimp only; omega)]; exact B1.out)
  have b0 : w3.heap[w.heap.size]? = some (.cells #[.int .i64 x.1, nv, sv, .int .i64 x.2.2.2.1, ov, iv] 83) := (hw3.block (w.heap.size) (by simp; omega)).trans (by rw [heap_setCell_other _ _ _ _ (by dsimp only; omega), heap_setCell_other _ _ _ _ (by dsimp only; omega)]; exact B0.out)
  have bz : w.heap.size + 1 + 1 < w3.heap.size := Nat.lt_of_lt_of_le BZ (by have := hw3.size; simpa using this)
  have KT3 : Kept (fun b => b < w.heap.size + 1 + 1 + 1) w2 w3 := Kept.trans (by repeat (first | with_reducible exact Kept.refl _ _ | refine Kept.setCell ?_ (by simp; try omega) _)) (Kept.of_below hw3 _)
  have hsz3 := hw3.size
  simp only [World.size_setCell, World.size_alloc] at hsz3 ho3
  have p5 : w3.cell? ⟨w.heap.size, 5, none⟩ = some (iv) := cell_of_row _ _ _ _ _ _ b0
  have k0 : w3.cell? ⟨w.heap.size + 1 + 1, 0, none⟩ = some (.int .i64 x.1) := cell_of_row _ _ _ _ _ _ b2
  have f0 := frozen_of_row w3 _ 0 _ _ b2
  have k1 : w3.cell? ⟨w.heap.size + 1 + 1, 1, none⟩ = some (.slice A1 x.2.1.length d1) := cell_of_row _ _ _ _ _ _ b2
  have f1 := frozen_of_row w3 _ 1 _ _ b2
  have k2 : w3.cell? ⟨w.heap.size + 1 + 1, 2, none⟩ = some (.slice A2 x.2.2.1.length d2) := cell_of_row _ _ _ _ _ _ b2
  have f2 := frozen_of_row w3 _ 2 _ _ b2
  have k3 : w3.cell? ⟨w.heap.size + 1 + 1, 3, none⟩ = some (.int .i64 x.2.2.2.1) := cell_of_row _ _ _ _ _ _ b2
  have f3 := frozen_of_row w3 _ 3 _ _ b2
  have k4 : w3.cell? ⟨w.heap.size + 1 + 1, 4, none⟩ = some (.slice none 0 0) := cell_of_row _ _ _ _ _ _ b2
  have f4 := frozen_of_row w3 _ 4 _ _ b2
  have k5 : w3.cell? ⟨w.heap.size + 1 + 1, 5, none⟩ = some (.slice none 0 0) := cell_of_row _ _ _ _ _ _ b2
  have f5 := frozen_of_row w3 _ 5 _ _ b2
  have B0 := Lib.hid b0
  have B1 := Lib.hid b1
  have B2 := Lib.hid b2
  have BZ := bz
  have HO3 := Lib.hid ho3
  have HK3 := Lib.hid KT3
  clear KT3
  clear b0 b1 b2 bz ho3 hw3 y0 y1
  go_wp2_with fail
  refine (toWireS_any iv x.2.2.2.2.2 _ (HIV.out _ (by repeat (first | with_reducible exact hz3 | refine Below.setCell ?_ (by simp; try omega) _))) C4.out).mono ?_
  rintro e w4 ⟨u4, rfl, ho4, hw4⟩
  obtain ⟨A4, d4, rfl⟩ := ho4.form
  clear p5 k0 f0 k1 f1 k2 f2 k3 f3 k4 f4 k5 f5
  have hz4 : Below w.heap.size w w4 := Below.trans (by repeat (first | with_reducible exact hz3 | refine Below.setCell ?_ (by simp; try omega) _)) (hw4.mono (by simp; have := hz3.size; try omega))
  have y0 : ((w3).setCell ⟨w.heap.size + 1 + 1, 4, none⟩ (.slice A3 x.2.2.2.2.1.length d3)).heap[w.heap.size + 1 + 1]? = some (.cells #[.int .i64 x.1, .slice A1 x.2.1.length d1, .slice A2 x.2.2.1.length d2, .int .i64 x.2.2.2.1, .slice A3 x.2.2.2.2.1.length d3, .slice none 0 0] 88) := by rw [heap_setCell_same _ _ _ _ _ _ B2.out]; rfl
  have b2 := (hw4.block (w.heap.size + 1 + 1) (by simp; omega)).trans y0
  have b1 : w4.heap[w.heap.size + 1]? = some (.cells #[.int .i64 0, .slice none 0 0, .slice none 0 0, .int .i64 0, .slice none 0 0, .slice none 0 0] 88) := (hw4.block (w.heap.size + 1) (by simp; omega)).trans (by rw [heap_setCell_other _ _ _ _ (by dsimp only; omega)]; exact B1.out)
  have b0 : w4.heap[w.heap.size]? = some (.cells #[.int .i64 x.1, nv, sv, .int .i64 x.2.2.2.1, ov, iv] 83) := (hw4.block (w.heap.size) (by simp; omega)).trans (by rw [heap_setCell_other _ _ _ _ (by dsimp only; omega)]; exact B0.out)
  have bz : w.heap.size + 1 + 1 < w4.heap.size := Nat.lt_of_lt_of_le BZ (by have := hw4.size; simpa using this)
  have KT4 : Kept (fun b => b < w.heap.size + 1 + 1 + 1) w3 w4 := Kept.trans (by repeat (first | with_reducible exact Kept.refl _ _ | refine Kept.setCell ?_ (by simp; try omega) _)) (Kept.of_below hw4 _)
  have hsz4 := hw4.size
  simp only [World.size_setCell, World.size_alloc] at hsz4 ho4
  have k0 : w4.cell? ⟨w.heap.size + 1 + 1, 0, none⟩ = some (.int .i64 x.1) := cell_of_row _ _ _ _ _ _ b2
  have f0 := frozen_of_row w4 _ 0 _ _ b2
  have k1 : w4.cell? ⟨w.heap.size + 1 + 1, 1, none⟩ = some (.slice A1 x.2.1.length d1) := cell_of_row _ _ _ _ _ _ b2
  have f1 := frozen_of_row w4 _ 1 _ _ b2
  have k2 : w4.cell? ⟨w.heap.size + 1 + 1, 2, none⟩ = some (.slice A2 x.2.2.1.length d2) := cell_of_row _ _ _ _ _ _ b2
  have f2 := frozen_of_row w4 _ 2 _ _ b2
  have k3 : w4.cell? ⟨w.heap.size + 1 + 1, 3, none⟩ = some (.int .i64 x.2.2.2.1) := cell_of_row _ _ _ _ _ _ b2
  have f3 := frozen_of_row w4 _ 3 _ _ b2
  have k4 : w4.cell? ⟨w.heap.size + 1 + 1, 4, none⟩ = some (.slice A3 x.2.2.2.2.1.length d3) := cell_of_row _ _ _ _ _ _ b2
  have f4 := frozen_of_row w4 _ 4 _ _ b2
  have k5 : w4.cell? ⟨w.heap.size + 1 + 1, 5, none⟩ = some (.slice none 0 0) := cell_of_row _ _ _ _ _ _ b2
  have f5 := frozen_of_row w4 _ 5 _ _ b2
  have m0 : w4.cell? ⟨w.heap.size + 1, 0, none⟩ = some (.int .i64 0) := cell_of_row _ _ _ _ _ _ b1
  have g0 := frozen_of_row w4 _ 0 _ _ b1
  have m1 : w4.cell? ⟨w.heap.size + 1, 1, none⟩ = some (.slice none 0 0) := cell_of_row _ _ _ _ _ _ b1
  have g1 := frozen_of_row w4 _ 1 _ _ b1
  have m2 : w4.cell? ⟨w.heap.size + 1, 2, none⟩ = some (.slice none 0 0) := cell_of_row _ _ _ _ _ _ b1
  have g2 := frozen_of_row w4 _ 2 _ _ b1
  have m3 : w4.cell? ⟨w.heap.size + 1, 3, none⟩ = some (.int .i64 0) := cell_of_row _ _ _ _ _ _ b1
  have g3 := frozen_of_row w4 _ 3 _ _ b1
  have m4 : w4.cell? ⟨w.heap.size + 1, 4, none⟩ = some (.slice none 0 0) := cell_of_row _ _ _ _ _ _ b1
  have g4 := frozen_of_row w4 _ 4 _ _ b1
  have m5 : w4.cell? ⟨w.heap.size + 1, 5, none⟩ = some (.slice none 0 0) := cell_of_row _ _ _ _ _ _ b1
  have g5 := frozen_of_row w4 _ 5 _ _ b1
  have B0 := Lib.hid b0
  have B1 := Lib.hid b1
  have B2 := Lib.hid b2
  have BZ := bz
  have HO4 := Lib.hid ho4
  have HK4 := Lib.hid KT4
  clear KT4
  clear b0 b1 b2 bz ho4 hw4 y0
  go_wp2_with fail
  refine bodyPost_ret (v := .agg #[.int .i64 x.1, .slice A1 x.2.1.length d1, .slice A2 x.2.2.1.length d2, .int .i64 x.2.2.2.1, .slice A3 x.2.2.2.2.1.length d3, .slice A4 x.2.2.2.2.2.length d4]) (by simp [results, Try.results70, go_sem, *]) rfl ⟨[_, _, _, _, _, _], rfl, ?_, ?_⟩
  · refine ⟨_, _, _, _, fun b => w.heap.size + 1 + 1 + 1 ≤ b ∧ b < w1.heap.size, fun b => w1.heap.size ≤ b ∧ b < w2.heap.size, fun b => w2.heap.size ≤ b ∧ b < w3.heap.size, fun b => w3.heap.size ≤ b ∧ b < w4.heap.size, rfl, ⟨?_, ?_, ?_, ?_⟩, ⟨?_, ?_, ?_, ?_⟩, ?_, ?_, ?_⟩
    · exact HO1.out.kept OBN_keep (HK2.out.trans (HK3.out.trans (HK4.out.trans (show Kept (fun b => b < w.heap.size + 1 + 1 + 1) w4 _ by repeat (first | with_reducible exact Kept.refl _ _ | refine Kept.setCell ?_ (by simp; try omega) _))))) (fun b hb => by omega)
    · exact HO2.out.kept (HK3.out.trans (HK4.out.trans (show Kept (fun b => b < w.heap.size + 1 + 1 + 1) w4 _ by repeat (first | with_reducible exact Kept.refl _ _ | refine Kept.setCell ?_ (by simp; try omega) _)))) (fun b hb => by omega)
    · exact HO3.out.kept OStr_keep (HK4.out.trans (show Kept (fun b => b < w.heap.size + 1 + 1 + 1) w4 _ by repeat (first | with_reducible exact Kept.refl _ _ | refine Kept.setCell ?_ (by simp; try omega) _))) (fun b hb => by omega)
    · exact HO4.out.kept OBW_keep (show Kept (fun b => b < w.heap.size + 1 + 1 + 1) w4 _ by repeat (first | with_reducible exact Kept.refl _ _ | refine Kept.setCell ?_ (by simp; try omega) _)) (fun b hb => by omega)
    · intro b hb; simp; omega
    · intro b hb; simp; omega
    · intro b hb; simp; omega
    · intro b hb; simp; omega
    · intro b hb; omega
    · intro b hb; omega
    · intro b hb; omega
  · repeat (first | with_reducible exact hz4 | refine Below.setCell ?_ (by simp; try omega) _)

end Go.Proofs.Ytlgdmafgbmnjdaa
