/- Three labelled systems in boxes of their own, each with its blocks: what the laws over one labelled system carry. A list, a labelled system in its box, a list: each with its blocks: what the laws over one labelled system with a list as result carry. The law that program and reference agree on TellApart, walked. -/
import Derived.Test.YtdgnhfhaaghoaaaGreatDoorProg
import Derived.Test.YtdgnhfhaaghoaaaGreatDoorJ8
import Derived.Test.YtdgnhfhaaghoaaaGreatDoorJ9
import Derived.Test.YtdgnhfhaaghoaaaGreatDoorJ12
import Derived.Test.YtdgnhfhaaghoaaaGreatDoorJ26
import Derived.Test.YtdgnhfhaaghoaaaGreatDoorJ48
import Derived.Test.YtdgnhfhaaghoaaaGreatDoorJ10
import Derived.Deep.RegionHeld3
set_option linter.unusedVariables false
namespace Go.Proofs.YtdgnhfhaaghoaaaGreatDoor
open Go.RowKit

theorem box_cells' {w : World} {b : Nat} {x y : Value} {t : TypeId} (h : w.heap[b]? = some (.cells #[x, y] t)) : w.cell? ⟨b, 0, none⟩ = some x ∧ w.cell? ⟨b, 1, none⟩ = some y := ⟨cell_of_row _ _ _ _ _ _ h, cell_of_row _ _ _ _ _ _ h⟩
theorem ownLab_form {w : World} {S : Nat → Prop} {v : Value} {l : Lab} (h : OwnLab w S v l) : ∃ A c B d, v = .agg #[.slice A l.shows.length c, .slice B l.steps.length d] := by
  obtain ⟨sv, tv, S1, S2, rfl, h1, h2, _⟩ := h
  obtain ⟨A, c, rfl⟩ := h1.form
  obtain ⟨B, d, rfl, _⟩ := h2.cells
  exact ⟨A, c, B, d, rfl⟩
theorem ownLab_mono {w : World} {S T : Nat → Prop} {v : Value} {l : Lab} (h : OwnLab w S v l) (hs : ∀ b, S b → T b) : OwnLab w T v l := by
  obtain ⟨sv, tv, S1, S2, rfl, h1, h2, a1, a2, a3⟩ := h
  exact ⟨sv, tv, S1, S2, rfl, h1, h2, fun b hb => hs b (a1 b hb), fun b hb => hs b (a2 b hb), a3⟩

theorem lz_pos (l : Lab) : 0 ≤ sizeLab l := by unfold sizeLab; omega
theorem lz_small {l : Lab} (h : ¬ szLab l 1048576 < 0) : sizeLab l ≤ 4194304 := by
  unfold sizeLab total
  unfold szLab at h
  split at h
  · omega
  · rename_i hl
    unfold szRow at h
    split at h
    · omega
    · rename_i hr
      unfold szSS at hl hr
      split at hl
      · omega
      · rename_i h1
        rw [if_neg h1] at hr
        have hs := szRows_sum (l.shows.map List.length) (1048576 - l.shows.length) (by omega) (by omega)
        omega

structure VZ (n2 p1 p2 p3 : Nat) (y1 y2 x1 x2 g1 g2 : Value) (a R Q : Lab) (w : World) : Prop where
  by' : w.heap[p1]? = some (.cells #[y1, y2] 27)
  bx : w.heap[p2]? = some (.cells #[x1, x2] 27)
  bg : w.heap[p3]? = some (.cells #[g1, g2] 27)
  oy : OwnLab w (fun q => n2 ≤ q ∧ q < p1) (.agg #[y1, y2]) R
  ox : OwnLab w (fun q => p1 < q ∧ q < p2) (.agg #[x1, x2]) a
  og : OwnLab w (fun q => p2 < q ∧ q < p3) (.agg #[g1, g2]) Q
  l0 : n2 ≤ p1
  l1 : p1 < p2
  l2 : p2 < p3
  l3 : p3 < w.heap.size

variable {n2 p1 p2 p3 : Nat} {y1 y2 x1 x2 g1 g2 : Value} {a R Q : Lab} {w w' : World}
theorem VZ.below (h : VZ n2 p1 p2 p3 y1 y2 x1 x2 g1 g2 a R Q w) (hb : Below w.heap.size w w') : VZ n2 p1 p2 p3 y1 y2 x1 x2 g1 g2 a R Q w' := by
  have h1 := h.l1
  have h2 := h.l2
  have h3 := h.l3
  have hs := hb.size
  exact { h with by' := (hb.block _ (by omega)).trans h.by', bx := (hb.block _ (by omega)).trans h.bx, bg := (hb.block _ (by omega)).trans h.bg, oy := h.oy.below hb (Nat.le_refl _), ox := h.ox.below hb (Nat.le_refl _), og := h.og.below hb (Nat.le_refl _), l3 := by omega }
theorem VZ.cells (h : VZ n2 p1 p2 p3 y1 y2 x1 x2 g1 g2 a R Q w) : (w.cell? ⟨p1, 0, none⟩ = some y1 ∧ w.cell? ⟨p1, 1, none⟩ = some y2) ∧ (w.cell? ⟨p2, 0, none⟩ = some x1 ∧ w.cell? ⟨p2, 1, none⟩ = some x2) ∧ w.cell? ⟨p3, 0, none⟩ = some g1 ∧ w.cell? ⟨p3, 1, none⟩ = some g2 := ⟨box_cells' h.by', box_cells' h.bx, box_cells' h.bg⟩
theorem VZ.markx {a' : Lab} (h : VZ n2 p1 p2 p3 y1 y2 x1 x2 g1 g2 a R Q w) (hk : Kept (fun q => p1 < q ∧ q < p2) w w') (ho : OwnLab w' (fun q => p1 < q ∧ q < p2) (.agg #[x1, x2]) a') : VZ n2 p1 p2 p3 y1 y2 x1 x2 g1 g2 a' R Q w' := by
  have h1 := h.l1
  have h2 := h.l2
  have h3 := h.l3
  have hs := hk.size
  exact { h with by' := (hk.block _ (by omega) (by omega)).trans h.by', bx := (hk.block _ (by omega) (by omega)).trans h.bx, bg := (hk.block _ (by omega) (by omega)).trans h.bg, oy := h.oy.kept hk (fun q a1 a2 => by omega), ox := ho, og := h.og.kept hk (fun q a1 a2 => by omega), l3 := by omega }
theorem VZ.markg {Q' : Lab} (h : VZ n2 p1 p2 p3 y1 y2 x1 x2 g1 g2 a R Q w) (hk : Kept (fun q => p2 < q ∧ q < p3) w w') (ho : OwnLab w' (fun q => p2 < q ∧ q < p3) (.agg #[g1, g2]) Q') : VZ n2 p1 p2 p3 y1 y2 x1 x2 g1 g2 a R Q' w' := by
  have h1 := h.l1
  have h2 := h.l2
  have h3 := h.l3
  have hs := hk.size
  exact { h with by' := (hk.block _ (by omega) (by omega)).trans h.by', bx := (hk.block _ (by omega) (by omega)).trans h.bx, bg := (hk.block _ (by omega) (by omega)).trans h.bg, oy := h.oy.kept hk (fun q a1 a2 => by omega), ox := h.ox.kept hk (fun q a1 a2 => by omega), og := ho, l3 := by omega }

end Go.Proofs.YtdgnhfhaaghoaaaGreatDoor

set_option linter.unusedVariables false
namespace Go.Proofs.YtdgnhfhaaghoaaaGreatDoor
open Go.RowKit

structure VI (n2 n3 p2 n5 : Nat) (yv x1 x2 gv : Value) (a : Lab) (R Q : List Int) (w : World) : Prop where
  bx : w.heap[p2]? = some (.cells #[x1, x2] 27)
  oy : Own w (fun q => n2 ≤ q ∧ q < n3) yv R.length (ints R)
  ox : OwnLab w (fun q => n3 ≤ q ∧ q < p2) (.agg #[x1, x2]) a
  og : Own w (fun q => p2 < q ∧ q < n5) gv Q.length (ints Q)
  l0 : n2 ≤ n3
  l1 : n3 ≤ p2
  l2 : p2 < n5
  l3 : n5 ≤ w.heap.size

variable {n2 n3 p2 n5 : Nat} {yv x1 x2 gv : Value} {a : Lab} {R Q : List Int} {w w' : World}
theorem VI.below (h : VI n2 n3 p2 n5 yv x1 x2 gv a R Q w) (hb : Below w.heap.size w w') : VI n2 n3 p2 n5 yv x1 x2 gv a R Q w' := by
  have h1 := h.l1
  have h2 := h.l2
  have h3 := h.l3
  have hs := hb.size
  exact { h with bx := (hb.block _ (by omega)).trans h.bx, oy := h.oy.below hb (Nat.le_refl _), ox := h.ox.below hb (Nat.le_refl _), og := h.og.below hb (Nat.le_refl _), l3 := by omega }
theorem VI.cells (h : VI n2 n3 p2 n5 yv x1 x2 gv a R Q w) : w.cell? ⟨p2, 0, none⟩ = some x1 ∧ w.cell? ⟨p2, 1, none⟩ = some x2 := box_cells' h.bx
theorem VI.markx {a' : Lab} (h : VI n2 n3 p2 n5 yv x1 x2 gv a R Q w) (hk : Kept (fun q => n3 ≤ q ∧ q < p2) w w') (ho : OwnLab w' (fun q => n3 ≤ q ∧ q < p2) (.agg #[x1, x2]) a') : VI n2 n3 p2 n5 yv x1 x2 gv a' R Q w' := by
  have h1 := h.l1
  have h2 := h.l2
  have h3 := h.l3
  have hs := hk.size
  exact { h with bx := (hk.block _ (by omega) (by omega)).trans h.bx, oy := h.oy.kept hk (fun q a1 a2 => by omega), ox := ho, og := h.og.kept hk (fun q a1 a2 => by omega), l3 := by omega }
theorem VI.markg {Q' : List Int} (h : VI n2 n3 p2 n5 yv x1 x2 gv a R Q w) (hk : Kept (fun q => p2 < q ∧ q < n5) w w') (ho : Own w' (fun q => p2 < q ∧ q < n5) gv Q'.length (ints Q')) : VI n2 n3 p2 n5 yv x1 x2 gv a R Q' w' := by
  have h1 := h.l1
  have h2 := h.l2
  have h3 := h.l3
  have hs := hk.size
  exact { h with bx := (hk.block _ (by omega) (by omega)).trans h.bx, oy := h.oy.kept hk (fun q a1 a2 => by omega), ox := h.ox.kept hk (fun q a1 a2 => by omega), og := ho, l3 := by omega }
theorem sameI_same (xs : List Int) : sameI xs xs = true := by simp [sameI]
theorem Own.cellsA {S : Nat → Prop} {A : Option Addr} {c n : Nat} {cs : List Value} (h : Own w S (.slice A n c) n cs) : Cells w A cs := by
  obtain ⟨A', c', e, hc⟩ := h.cells
  cases e
  exact hc

end Go.Proofs.YtdgnhfhaaghoaaaGreatDoor

set_option linter.unusedVariables false
namespace Go.Proofs.YtdgnhfhaaghoaaaGreatDoor
open Go.RowKit

set_option maxRecDepth 100000 in
set_option maxHeartbeats 16000000 in
theorem lawTellApart (v : Value) (a : Lab) (s t : Int) (w : World) (hv : RLab w v a) :
    Calls Tryz.prog 4 #[v, .int .i64 s, .int .i64 t] w fun e w' => e = .returned (.bool true) ∧ Below w.heap.size w w' := by
  have HV := Lib.hid (show ∀ W, Below w.heap.size w W → RLab W v a from fun W hb => hv.below hb)
  obtain ⟨sv, tv, rfl, _, _⟩ := hv
  obtain ⟨W0, hW0⟩ : ∃ W0, W0 = w.alloc (.cells #[sv, tv] 37) := ⟨_, rfl⟩
  have hz0 : Below w.heap.size w W0 := by rw [hW0]; exact (Below.refl _ _).alloc (Nat.le_refl _) _
  have hs0 : W0.heap.size = w.heap.size + 1 := by rw [hW0]; simp
  have bx0 : W0.heap[w.heap.size]? = some (.cells #[sv, tv] 37) := by rw [hW0]; exact heap_alloc_new _ _
  have HX := Lib.hid (show ∀ W, Below W0.heap.size W0 W → W.cell? ⟨w.heap.size, 0, none⟩ = some sv ∧ W.cell? ⟨w.heap.size, 1, none⟩ = some tv from fun W hW => box_cells' ((hW.block _ (by omega)).trans bx0))
  have HSA := Lib.hid (szLabelled_any _ a 1048576 W0 (by omega) (by omega) (HV.out W0 hz0))
  have HW0 := Lib.hid hW0
  clear bx0
  go_enter Tryz.func4, Tryz.ntmps4
  go_wp2_with fail
  rw [← hW0]
  clear hW0
  refine HSA.out.mono ?_
  rintro e w1 ⟨rfl, hw1⟩
  have HTW := Lib.hid (show Below W0.heap.size W0 w1 from hw1)
  have HT := Lib.hid (hz0.trans (hw1.mono hz0.size))
  obtain ⟨p0, p1⟩ := HX.out w1 hw1
  clear hw1
  by_cases hna : szLab a 1048576 < 0
  · go_wp2_with fail
    go_ret
    exact ⟨rfl, HT.out⟩
  have hza := lz_small hna
  obtain ⟨hsa, _, _⟩ := szLab_small (by omega) (by omega) hna
  go_wp2_with fail
  refine (toLabelled_any _ a w1 (HV.out w1 HT.out) hsa).mono ?_
  rintro e w2 ⟨u2, rfl, hu2, hb2⟩
  obtain ⟨U1, uc1, U2, uc2, rfl⟩ := ownLab_form hu2
  have HU2 := Lib.hid (hu2.rlab hsa)
  have HTW := Lib.hid (HTW.out.trans (hb2.mono HTW.out.size))
  have HT := Lib.hid (HT.out.trans (hb2.mono HT.out.size))
  have hsT2 := HT.out.size
  have hsT3 := HTW.out.size
  clear hu2 hb2 p0 p1
  go_wp2_with fail
  refine (specTellR_any _ a s t w2 hsa HU2.out).mono ?_
  rintro e w3 ⟨r3, rfl, hr3, hb3⟩
  obtain ⟨YA, yc, rfl, hr3⟩ := owns_form hr3
  have hs3 := hb3.size
  have HOY := Lib.hid (show Own w3 (fun q => w2.heap.size ≤ q ∧ q < w3.heap.size) (.slice YA (tellR a s t).length yc) (tellR a s t).length (ints (tellR a s t)) from (Own.of_owns hr3).mono (fun q hq => hr3.lt q hq))
  have HTW := Lib.hid (HTW.out.trans (hb3.mono HTW.out.size))
  have HT := Lib.hid (HT.out.trans (hb3.mono HT.out.size))
  clear hr3 hb3
  obtain ⟨p0, p1⟩ := HX.out _ HTW.out
  go_wp2_with fail
  refine (toLabelled_any _ a _ (HV.out _ HT.out) hsa).mono ?_
  rintro e w4 ⟨u4, rfl, hu4, hb4⟩
  obtain ⟨X1, xc1, X2, xc2, rfl⟩ := ownLab_form hu4
  have hs4 := hb4.size
  have hba : Below w4.heap.size w4 (w4.alloc (.cells #[.slice X1 a.shows.length xc1, .slice X2 a.steps.length xc2] 27)) := (Below.refl _ _).alloc (Nat.le_refl _) _
  have hb34 := hb4.trans (hba.mono hb4.size)
  have HTW := Lib.hid (HTW.out.trans (hb34.mono HTW.out.size))
  have HT := Lib.hid (HT.out.trans (hb34.mono HT.out.size))
  have HOY := Lib.hid (HOY.out.below hb34 (Nat.le_refl _))
  have HOX := Lib.hid (hu4.below hba (Nat.le_refl _))
  have HBX := Lib.hid (heap_alloc_new w4 (.cells #[.slice X1 a.shows.length xc1, .slice X2 a.steps.length xc2] 27))
  clear hu4 hb4 hba hb34 p0 p1
  obtain ⟨q0, q1⟩ := box_cells' HBX.out
  go_wp2_with fail
  refine (implTellR_any _ a s t _ hsa (HOX.out.rlab hsa)).mono ?_
  rintro e w5 ⟨r5, rfl, hr5, hb5⟩
  obtain ⟨GA, gc, rfl, hr5⟩ := owns_form hr5
  have hs5 := hb5.size
  simp only [World.size_alloc] at hs5
  have HTW := Lib.hid (HTW.out.trans (hb5.mono HTW.out.size))
  have HT := Lib.hid (HT.out.trans (hb5.mono HT.out.size))
  have HVI := Lib.hid (show VI w2.heap.size w3.heap.size w4.heap.size w5.heap.size (.slice YA (tellR a s t).length yc) _ _ (.slice GA (tellR a s t).length gc) a (tellR a s t) (tellR a s t) w5 from
    { bx := (hb5.block _ (by simp)).trans HBX.out, oy := HOY.out.below hb5 (Nat.le_refl _), ox := HOX.out.below hb5 (Nat.le_refl _), og := (Own.of_owns hr5).mono (fun q hq => by have := hr5.lt q hq; simp at this; omega), l0 := hs3, l1 := hs4, l2 := by omega, l3 := Nat.le_refl _ })
  clear hr5 hb5 HOY HOX HBX q0 q1
  have hR := tellR_len a s t
  have hpa := lz_pos a
  have hbne : (tellOk a s t != tellOk a s t) = false := by rw [bne_self_eq_false]
  have HIMP := Lib.hid (fun v W (hv : RLab W v a) => implTellR_any v a s t W hsa hv)
  have HSM := Lib.hid (sameI_same (tellR a s t))
  obtain ⟨c0, c1⟩ := HVI.out.cells
  generalize tellR a s t = R at *
  generalize tellOk a s t = ok at *
  go_wp2_with fail
  refine (eqIntS_any GA YA gc yc R R w5 (by omega) (by omega) HVI.out.og.cellsA HVI.out.oy.cellsA).mono ?_
  rintro e w6 ⟨rfl, hw6⟩
  rw [HSM.out]
  have HVI := Lib.hid (HVI.out.below hw6)
  have HTW := Lib.hid (HTW.out.trans (hw6.mono HTW.out.size))
  have HT := Lib.hid (HT.out.trans (hw6.mono HT.out.size))
  clear c0 c1
  obtain ⟨c0, c1⟩ := HVI.out.cells
  clear hw6
  obtain ⟨p0, p1⟩ := HX.out _ HTW.out
  have HR6 := Lib.hid (HVI.out.ox.rlab hsa)
  go_wp2_with fail
  go_region_held3 (fun w' => w'.cell? ⟨w4.heap.size, 0, none⟩ = some (.slice X1 a.shows.length xc1) ∧ w'.cell? ⟨w4.heap.size, 1, none⟩ = some (.slice X2 a.steps.length xc2) ∧ w'.cell? ⟨w.heap.size, 0, none⟩ = some sv ∧ w'.cell? ⟨w.heap.size, 1, none⟩ = some tv)
    (first | go_keep | (have hk := hw7.trans (hw8.mono hw7.size); exact ⟨cell_below hk c0 (lt_of_cell c0), cell_below hk c1 (lt_of_cell c1), cell_below hk p0 (lt_of_cell p0), cell_below hk p1 (lt_of_cell p1)⟩) | exact ⟨cell_below hw7 c0 (lt_of_cell c0), cell_below hw7 c1 (lt_of_cell c1), cell_below hw7 p0 (lt_of_cell p0), cell_below hw7 p1 (lt_of_cell p1)⟩)
    (first
      | (go_at_call 18; refine (toLabelled_any _ a _ (HV.out _ HT.out.drew) hsa).mono ?_; rintro e w7 ⟨u7, rfl, hu7, hw7⟩)
      | (go_at_call 20; refine (eqLabelled_any _ _ a a _ (HR6.out.drew.below hw7) (hu7.rlab hsa) hsa hsa).mono ?_; rintro e w8 ⟨rfl, hw8⟩))
  have hsl := sameLab_refl a
  simp only [hsl, Bool.not_true]
  have h6 : Below w6.heap.size w6 w8 := (Below.refl _ w6).drew.trans (hw7.trans (hw8.mono hw7.size))
  clear hw7 hw8 hu7 HR6 p0 p1
  have HVI := Lib.hid (HVI.out.below h6)
  have HTW := Lib.hid (HTW.out.trans (h6.mono HTW.out.size))
  have HT := Lib.hid (HT.out.trans (h6.mono HT.out.size))
  clear c0 c1
  obtain ⟨c0, c1⟩ := HVI.out.cells
  clear h6
  go_wp2_with fail
  refine (markLabelled_any _ _ a 1 w8 hsa (by decide) (by omega) HVI.out.ox).mono ?_
  rintro e w9 ⟨rfl, hu9, hk9⟩
  have HTW := Lib.hid (HTW.out.trans (hk9.below (B := W0.heap.size) (fun q hq => by have := hq.1; omega) HTW.out.size))
  have HT := Lib.hid (HT.out.trans (hk9.below (B := w.heap.size) (fun q hq => by have := hq.1; omega) HT.out.size))
  have HVI := Lib.hid (HVI.out.markx hk9 hu9)
  clear c0 c1
  obtain ⟨c0, c1⟩ := HVI.out.cells
  clear hk9 hu9
  have hkp : ¬ (1 + sizeLab a < 0) := by omega
  go_wp2_with fail
  refine (eqIntS_any GA YA gc yc R R w9 (by omega) (by omega) HVI.out.og.cellsA HVI.out.oy.cellsA).mono ?_
  rintro e w10 ⟨rfl, hw10⟩
  rw [HSM.out]
  have HVI := Lib.hid (HVI.out.below hw10)
  have HTW := Lib.hid (HTW.out.trans (hw10.mono HTW.out.size))
  have HT := Lib.hid (HT.out.trans (hw10.mono HT.out.size))
  clear c0 c1
  obtain ⟨c0, c1⟩ := HVI.out.cells
  clear hw10
  go_wp2_with fail
  refine (markIntS_any _ _ R 1 w10 (by omega) (by decide) (by decide) HVI.out.og).mono ?_
  rintro e w11 ⟨rfl, hu11, hk11⟩
  have l0 := HVI.out.l0
  have l1 := HVI.out.l1
  have HTW := Lib.hid (HTW.out.trans (hk11.below (B := W0.heap.size) (fun q hq => by have := hq.1; omega) HTW.out.size))
  have HT := Lib.hid (HT.out.trans (hk11.below (B := w.heap.size) (fun q hq => by have := hq.1; omega) HT.out.size))
  have HVI := Lib.hid (HVI.out.markg (Q' := up 1 R.length) hk11 (by rw [up_length]; exact hu11))
  clear c0 c1
  obtain ⟨c0, c1⟩ := HVI.out.cells
  clear hk11 hu11
  have hupl := up_length 1 R.length
  have HC11 := Lib.hid (show ∀ W, VI w2.heap.size w3.heap.size w4.heap.size w5.heap.size (.slice YA R.length yc) (.slice X1 a.shows.length xc1) (.slice X2 a.steps.length xc2) (.slice GA R.length gc) (markLab 1 a) R (up 1 R.length) W → Cells W GA (ints (up 1 R.length)) from fun W hW => by
    have := hW.og
    rw [up_length] at this
    exact this.cellsA)
  clear hupl
  go_wp2_with fail
  refine (heldIntS_any GA gc R.length 1 w11 (by omega) (by decide) (by decide) (HC11.out _ HVI.out)).mono ?_
  rintro e w12 ⟨rfl, rfl⟩
  obtain ⟨p0, p1⟩ := HX.out _ HTW.out
  go_wp2_with fail
  refine (toLabelled_any _ a w11 (HV.out w11 HT.out) hsa).mono ?_
  rintro e w13 ⟨u13, rfl, hu13, hb13⟩
  obtain ⟨Y1, yc1, Y2, yc2, rfl⟩ := ownLab_form hu13
  have HU13 := Lib.hid (hu13.rlab hsa)
  clear p0 p1 hu13
  have HVI := Lib.hid (HVI.out.below hb13)
  have HTW := Lib.hid (HTW.out.trans (hb13.mono HTW.out.size))
  have HT := Lib.hid (HT.out.trans (hb13.mono HT.out.size))
  clear c0 c1
  obtain ⟨c0, c1⟩ := HVI.out.cells
  clear hb13
  go_wp2_with fail
  refine (HIMP.out _ w13 HU13.out).mono ?_
  rintro e w14 ⟨r14, rfl, hr14, hb14⟩
  obtain ⟨HA', hc', rfl, hr14⟩ := owns_form hr14
  have HCH := Lib.hid (Cells.of_owns hr14)
  clear hr14
  have HVI := Lib.hid (HVI.out.below hb14)
  have HTW := Lib.hid (HTW.out.trans (hb14.mono HTW.out.size))
  have HT := Lib.hid (HT.out.trans (hb14.mono HT.out.size))
  clear c0 c1
  obtain ⟨c0, c1⟩ := HVI.out.cells
  clear hb14
  go_wp2_with fail
  refine (eqIntS_any HA' YA hc' yc R R w14 (by omega) (by omega) HCH.out HVI.out.oy.cellsA).mono ?_
  rintro e w15 ⟨rfl, hw15⟩
  rw [HSM.out]
  have HVI := Lib.hid (HVI.out.below hw15)
  have HTW := Lib.hid (HTW.out.trans (hw15.mono HTW.out.size))
  have HT := Lib.hid (HT.out.trans (hw15.mono HT.out.size))
  clear c0 c1
  obtain ⟨c0, c1⟩ := HVI.out.cells
  clear hw15
  go_wp2_with fail
  refine (heldIntS_any GA gc R.length 1 w15 (by omega) (by decide) (by decide) (HC11.out _ HVI.out)).mono ?_
  rintro e w16 ⟨rfl, rfl⟩
  go_wp2_with fail
  go_ret
  exact ⟨rfl, HT.out⟩

end Go.Proofs.YtdgnhfhaaghoaaaGreatDoor
