/- The law that program and reference agree on QuotientOf, walked. -/
import Derived.Test.YtdgnhfhaaghoaaaGreatDoorProg
import Derived.Test.YtdgnhfhaaghoaaaGreatDoorJ48
import Derived.Test.YtdgnhfhaaghoaaaGreatDoorJ21
import Derived.Test.YtdgnhfhaaghoaaaGreatDoorJ22
import Derived.Test.YtdgnhfhaaghoaaaGreatDoorJ20
import Derived.Deep.RegionHeld3
set_option linter.unusedVariables false
namespace Go.Proofs.YtdgnhfhaaghoaaaGreatDoor
open Go.RowKit

set_option maxRecDepth 100000 in
set_option maxHeartbeats 16000000 in
theorem lawQuotientOf (v : Value) (a : Lab) (w : World) (hv : RLab w v a) :
    Calls Tryz.prog 7 #[v] w fun e w' => e = .returned (.bool true) ∧ Below w.heap.size w w' := by
  have HV := Lib.hid (show ∀ W, Below w.heap.size w W → RLab W v a from fun W hb => hv.below hb)
  obtain ⟨sv, tv, rfl, _, _⟩ := hv
  obtain ⟨W0, hW0⟩ : ∃ W0, W0 = w.alloc (.cells #[sv, tv] 37) := ⟨_, rfl⟩
  have hz0 : Below w.heap.size w W0 := by rw [hW0]; exact (Below.refl _ _).alloc (Nat.le_refl _) _
  have hs0 : W0.heap.size = w.heap.size + 1 := by rw [hW0]; simp
  have bx0 : W0.heap[w.heap.size]? = some (.cells #[sv, tv] 37) := by rw [hW0]; exact heap_alloc_new _ _
  have HX := Lib.hid (show ∀ W, Below W0.heap.size W0 W → W.cell? ⟨w.heap.size, 0, none⟩ = some sv ∧ W.cell? ⟨w.heap.size, 1, none⟩ = some tv from fun W hW => box_cells' ((hW.block _ (by omega)).trans bx0))
  have HSA := Lib.hid (szLabelled_any _ a 1048576 W0 (by omega) (by omega) (HV.out W0 hz0))
  have HW0 := Lib.hid hW0
  clear bx0
  go_enter Tryz.func7, Tryz.ntmps7
  go_wp2_with fail
  rw [← hW0]
  clear hW0
  refine HSA.out.mono ?_
  rintro e w1 ⟨rfl, hw1⟩
  have HTW := Lib.hid (show Below W0.heap.size W0 w1 from hw1)
  have HT := Lib.hid (hz0.trans (hw1.mono hz0.size))
  obtain ⟨p0, p1⟩ := HX.out w1 hw1
  clear hw1
  by_cases hna : szLab a 1048576 < 0
  · go_wp2_with fail
    go_ret
    exact ⟨rfl, HT.out⟩
  have hza := lz_small hna
  obtain ⟨hsa, _, _⟩ := szLab_small (by omega) (by omega) hna
  go_wp2_with fail
  refine (toLabelled_any _ a w1 (HV.out w1 HT.out) hsa).mono ?_
  rintro e w2 ⟨u2, rfl, hu2, hb2⟩
  obtain ⟨U1, uc1, U2, uc2, rfl⟩ := ownLab_form hu2
  have HU2 := Lib.hid (hu2.rlab hsa)
  have HTW := Lib.hid (HTW.out.trans (hb2.mono HTW.out.size))
  have HT := Lib.hid (HT.out.trans (hb2.mono HT.out.size))
  have hsT2 := HT.out.size
  have hsT3 := HTW.out.size
  clear hu2 hb2 p0 p1
  go_wp2_with fail
  refine (specQuotientOf_any _ a w2 hsa HU2.out).mono ?_
  rintro e w3 ⟨r3, rfl, hr3, hb3⟩
  obtain ⟨B1, d1, B2, d2, rfl⟩ := ownLab_form hr3
  have hs3 := hb3.size
  have hba : Below w3.heap.size w3 (w3.alloc (.cells #[.slice B1 (quoR a).shows.length d1, .slice B2 (quoR a).steps.length d2] 27)) := (Below.refl _ _).alloc (Nat.le_refl _) _
  have hb23 := hb3.trans (hba.mono hs3)
  have HTW := Lib.hid (HTW.out.trans (hb23.mono HTW.out.size))
  have HT := Lib.hid (HT.out.trans (hb23.mono HT.out.size))
  have HOY := Lib.hid (hr3.below hba (Nat.le_refl _))
  have HBY := Lib.hid (heap_alloc_new w3 (.cells #[.slice B1 (quoR a).shows.length d1, .slice B2 (quoR a).steps.length d2] 27))
  have hn2 : w2.heap.size ≤ w3.heap.size := hs3
  clear hr3 hb3 hba hb23
  obtain ⟨p0, p1⟩ := HX.out _ HTW.out
  go_wp2_with fail
  refine (toLabelled_any _ a _ (HV.out _ HT.out) hsa).mono ?_
  rintro e w4 ⟨u4, rfl, hu4, hb4⟩
  obtain ⟨X1, xc1, X2, xc2, rfl⟩ := ownLab_form hu4
  have hs4 := hb4.size
  simp only [World.size_alloc] at hs4
  have hba : Below w4.heap.size w4 (w4.alloc (.cells #[.slice X1 a.shows.length xc1, .slice X2 a.steps.length xc2] 27)) := (Below.refl _ _).alloc (Nat.le_refl _) _
  have hb34 := hb4.trans (hba.mono hb4.size)
  have HTW := Lib.hid (HTW.out.trans (hb34.mono HTW.out.size))
  have HT := Lib.hid (HT.out.trans (hb34.mono HT.out.size))
  have HOY := Lib.hid (HOY.out.below hb34 (Nat.le_refl _))
  have HBY := Lib.hid ((hb34.block w3.heap.size (by simp)).trans HBY.out)
  have HOX := Lib.hid (hu4.below hba (Nat.le_refl _))
  have HBX := Lib.hid (heap_alloc_new w4 (.cells #[.slice X1 a.shows.length xc1, .slice X2 a.steps.length xc2] 27))
  clear hu4 hb4 hba hb34 p0 p1
  obtain ⟨q0, q1⟩ := box_cells' HBX.out
  go_wp2_with fail
  refine (implQuotientOf_any _ a _ hsa (HOX.out.rlab hsa)).mono ?_
  rintro e w5 ⟨r5, rfl, hr5, hb5⟩
  obtain ⟨G1, gc1, G2, gc2, rfl⟩ := ownLab_form hr5
  have hs5 := hb5.size
  simp only [World.size_alloc] at hs5
  have hba : Below w5.heap.size w5 (w5.alloc (.cells #[.slice G1 (quoR a).shows.length gc1, .slice G2 (quoR a).steps.length gc2] 27)) := (Below.refl _ _).alloc (Nat.le_refl _) _
  have hb45 := hb5.trans (hba.mono hb5.size)
  have HTW := Lib.hid (HTW.out.trans (hb45.mono HTW.out.size))
  have HT := Lib.hid (HT.out.trans (hb45.mono HT.out.size))
  have HVZ := Lib.hid (show VZ w2.heap.size w3.heap.size w4.heap.size w5.heap.size _ _ _ _ _ _ a (quoR a) (quoR a) (w5.alloc (.cells #[.slice G1 (quoR a).shows.length gc1, .slice G2 (quoR a).steps.length gc2] 27)) from
    { by' := (hb45.block _ (by simp; omega)).trans HBY.out, bx := (hb45.block _ (by simp)).trans HBX.out, bg := heap_alloc_new _ _, oy := HOY.out.below hb45 (Nat.le_refl _), ox := ownLab_mono (HOX.out.below hb45 (Nat.le_refl _)) (fun q hq => by simp at hq; omega), og := ownLab_mono (hr5.below hba (Nat.le_refl _)) (fun q hq => by simp at hq; omega), l0 := hn2, l1 := by omega, l2 := by omega, l3 := by simp })
  clear hr5 hb5 hba hb45 HOY HBY HOX HBX q0 q1
  have hsR := small_quoR a
  have hsz := size_quoR a
  have hsp := lz_pos (quoR a)
  have hpa := lz_pos a
  have hbne : (goodLab a != goodLab a) = false := by rw [bne_self_eq_false]
  have HIMP := Lib.hid (fun v W (hv : RLab W v a) => implQuotientOf_any v a W hsa hv)
  obtain ⟨⟨c0, c1⟩, ⟨c2, c3⟩, c4, c5⟩ := HVZ.out.cells
  generalize quoR a = R at *
  generalize goodLab a = ok at *
  go_wp2_with fail
  refine (eqLabelled_any _ _ R R _ (HVZ.out.og.rlab hsR) (HVZ.out.oy.rlab hsR) hsR hsR).mono ?_
  rintro e w6 ⟨rfl, hw6⟩
  rw [sameLab_refl]
  have HVZ := Lib.hid (HVZ.out.below hw6)
  have HTW := Lib.hid (HTW.out.trans (hw6.mono HTW.out.size))
  have HT := Lib.hid (HT.out.trans (hw6.mono HT.out.size))
  clear c0 c1 c2 c3 c4 c5
  obtain ⟨⟨c0, c1⟩, ⟨c2, c3⟩, c4, c5⟩ := HVZ.out.cells
  clear hw6
  obtain ⟨p0, p1⟩ := HX.out _ HTW.out
  have HR6 := Lib.hid (HVZ.out.ox.rlab hsa)
  go_wp2_with fail
  go_region_held3 (fun w' => w'.cell? ⟨w4.heap.size, 0, none⟩ = some (.slice X1 a.shows.length xc1) ∧ w'.cell? ⟨w4.heap.size, 1, none⟩ = some (.slice X2 a.steps.length xc2) ∧ w'.cell? ⟨w.heap.size, 0, none⟩ = some sv ∧ w'.cell? ⟨w.heap.size, 1, none⟩ = some tv)
    (first | go_keep | (have hk := hw7.trans (hw8.mono hw7.size); exact ⟨cell_below hk c2 (lt_of_cell c2), cell_below hk c3 (lt_of_cell c3), cell_below hk p0 (lt_of_cell p0), cell_below hk p1 (lt_of_cell p1)⟩) | exact ⟨cell_below hw7 c2 (lt_of_cell c2), cell_below hw7 c3 (lt_of_cell c3), cell_below hw7 p0 (lt_of_cell p0), cell_below hw7 p1 (lt_of_cell p1)⟩)
    (first
      | (go_at_call 18; refine (toLabelled_any _ a _ (HV.out _ HT.out.drew) hsa).mono ?_; rintro e w7 ⟨u7, rfl, hu7, hw7⟩)
      | (go_at_call 20; refine (eqLabelled_any _ _ a a _ (HR6.out.drew.below hw7) (hu7.rlab hsa) hsa hsa).mono ?_; rintro e w8 ⟨rfl, hw8⟩))
  have hsl := sameLab_refl a
  simp only [hsl, Bool.not_true]
  have h6 : Below w6.heap.size w6 w8 := (Below.refl _ w6).drew.trans (hw7.trans (hw8.mono hw7.size))
  clear hw7 hw8 hu7 HR6 p0 p1
  have HVZ := Lib.hid (HVZ.out.below h6)
  have HTW := Lib.hid (HTW.out.trans (h6.mono HTW.out.size))
  have HT := Lib.hid (HT.out.trans (h6.mono HT.out.size))
  clear c0 c1 c2 c3 c4 c5
  obtain ⟨⟨c0, c1⟩, ⟨c2, c3⟩, c4, c5⟩ := HVZ.out.cells
  clear h6
  go_wp2_with fail
  refine (markLabelled_any _ _ a 1 w8 hsa (by decide) (by omega) HVZ.out.ox).mono ?_
  rintro e w9 ⟨rfl, hu9, hk9⟩
  have HTW := Lib.hid (HTW.out.trans (hk9.below (B := W0.heap.size) (fun q hq => by have := hq.1; omega) HTW.out.size))
  have HT := Lib.hid (HT.out.trans (hk9.below (B := w.heap.size) (fun q hq => by have := hq.1; omega) HT.out.size))
  have HVZ := Lib.hid (HVZ.out.markx hk9 hu9)
  clear c0 c1 c2 c3 c4 c5
  obtain ⟨⟨c0, c1⟩, ⟨c2, c3⟩, c4, c5⟩ := HVZ.out.cells
  clear hk9 hu9
  have hkp : ¬ (1 + sizeLab a < 0) := by omega
  go_wp2_with fail
  refine (eqLabelled_any _ _ R R _ (HVZ.out.og.rlab hsR) (HVZ.out.oy.rlab hsR) hsR hsR).mono ?_
  rintro e w10 ⟨rfl, hw10⟩
  rw [sameLab_refl]
  have HVZ := Lib.hid (HVZ.out.below hw10)
  have HTW := Lib.hid (HTW.out.trans (hw10.mono HTW.out.size))
  have HT := Lib.hid (HT.out.trans (hw10.mono HT.out.size))
  clear c0 c1 c2 c3 c4 c5
  obtain ⟨⟨c0, c1⟩, ⟨c2, c3⟩, c4, c5⟩ := HVZ.out.cells
  clear hw10
  go_wp2_with fail
  refine (markLabelled_any _ _ R 1 w10 hsR (by decide) (by omega) HVZ.out.og).mono ?_
  rintro e w11 ⟨rfl, hu11, hk11⟩
  have l0 := HVZ.out.l0
  have l1 := HVZ.out.l1
  have HTW := Lib.hid (HTW.out.trans (hk11.below (B := W0.heap.size) (fun q hq => by have := hq.1; omega) HTW.out.size))
  have HT := Lib.hid (HT.out.trans (hk11.below (B := w.heap.size) (fun q hq => by have := hq.1; omega) HT.out.size))
  have HVZ := Lib.hid (HVZ.out.markg hk11 hu11)
  clear c0 c1 c2 c3 c4 c5
  obtain ⟨⟨c0, c1⟩, ⟨c2, c3⟩, c4, c5⟩ := HVZ.out.cells
  clear hk11 hu11
  have hkp2 : ¬ (1 + sizeLab R < 0) := by omega
  go_wp2_with fail
  refine (heldLabelled_any _ R 1 w11 hsR (by decide) (by omega) (HVZ.out.og.rlab (markLab_small hsR 1))).mono ?_
  rintro e w12 ⟨rfl, hw12⟩
  have HVZ := Lib.hid (HVZ.out.below hw12)
  have HTW := Lib.hid (HTW.out.trans (hw12.mono HTW.out.size))
  have HT := Lib.hid (HT.out.trans (hw12.mono HT.out.size))
  clear c0 c1 c2 c3 c4 c5
  obtain ⟨⟨c0, c1⟩, ⟨c2, c3⟩, c4, c5⟩ := HVZ.out.cells
  clear hw12
  obtain ⟨p0, p1⟩ := HX.out _ HTW.out
  go_wp2_with fail
  refine (toLabelled_any _ a w12 (HV.out w12 HT.out) hsa).mono ?_
  rintro e w13 ⟨u13, rfl, hu13, hb13⟩
  obtain ⟨Y1, yc1, Y2, yc2, rfl⟩ := ownLab_form hu13
  have HU13 := Lib.hid (hu13.rlab hsa)
  clear p0 p1 hu13
  have HVZ := Lib.hid (HVZ.out.below hb13)
  have HTW := Lib.hid (HTW.out.trans (hb13.mono HTW.out.size))
  have HT := Lib.hid (HT.out.trans (hb13.mono HT.out.size))
  clear c0 c1 c2 c3 c4 c5
  obtain ⟨⟨c0, c1⟩, ⟨c2, c3⟩, c4, c5⟩ := HVZ.out.cells
  clear hb13
  go_wp2_with fail
  refine (HIMP.out _ w13 HU13.out).mono ?_
  rintro e w14 ⟨r14, rfl, hr14, hb14⟩
  obtain ⟨H1, hc1, H2, hc2, rfl⟩ := ownLab_form hr14
  have hba : Below w14.heap.size w14 (w14.alloc (.cells #[.slice H1 R.shows.length hc1, .slice H2 R.steps.length hc2] 27)) := (Below.refl _ _).alloc (Nat.le_refl _) _
  have h14 := hb14.trans (hba.mono hb14.size)
  have HOH := Lib.hid ((hr14.below hba (Nat.le_refl _)).rlab hsR)
  obtain ⟨q0, q1⟩ := box_cells' (heap_alloc_new w14 (.cells #[.slice H1 R.shows.length hc1, .slice H2 R.steps.length hc2] 27))
  clear hr14 hb14 hba
  have HVZ := Lib.hid (HVZ.out.below h14)
  have HTW := Lib.hid (HTW.out.trans (h14.mono HTW.out.size))
  have HT := Lib.hid (HT.out.trans (h14.mono HT.out.size))
  clear c0 c1 c2 c3 c4 c5
  obtain ⟨⟨c0, c1⟩, ⟨c2, c3⟩, c4, c5⟩ := HVZ.out.cells
  clear h14
  go_wp2_with fail
  refine (eqLabelled_any _ _ R R _ HOH.out (HVZ.out.oy.rlab hsR) hsR hsR).mono ?_
  rintro e w15 ⟨rfl, hw15⟩
  rw [sameLab_refl]
  clear q0 q1
  have HVZ := Lib.hid (HVZ.out.below hw15)
  have HTW := Lib.hid (HTW.out.trans (hw15.mono HTW.out.size))
  have HT := Lib.hid (HT.out.trans (hw15.mono HT.out.size))
  clear c0 c1 c2 c3 c4 c5
  obtain ⟨⟨c0, c1⟩, ⟨c2, c3⟩, c4, c5⟩ := HVZ.out.cells
  clear hw15
  go_wp2_with fail
  refine (heldLabelled_any _ R 1 w15 hsR (by decide) (by omega) (HVZ.out.og.rlab (markLab_small hsR 1))).mono ?_
  rintro e w16 ⟨rfl, hw16⟩
  have HVZ := Lib.hid (HVZ.out.below hw16)
  have HTW := Lib.hid (HTW.out.trans (hw16.mono HTW.out.size))
  have HT := Lib.hid (HT.out.trans (hw16.mono HT.out.size))
  clear c0 c1 c2 c3 c4 c5
  obtain ⟨⟨c0, c1⟩, ⟨c2, c3⟩, c4, c5⟩ := HVZ.out.cells
  clear hw16
  go_wp2_with fail
  go_ret
  exact ⟨rfl, HT.out⟩

end Go.Proofs.YtdgnhfhaaghoaaaGreatDoor
