/- The law that program and reference agree on IsSimulated, walked. -/
import Derived.Test.YtojdobpmknadhaaProg
import Derived.Test.YtojdobpmknadhaaSimI
set_option linter.unusedVariables false
namespace Go.Proofs.Ytojdobpmknadhaa
open Go.RowKit

set_option maxRecDepth 100000 in
set_option maxHeartbeats 4000000 in
theorem lawIsSimulated (v : Value) (l : Lab) (s t : Int) (w : World) (hv : RLab w v l) :
    Calls Try.prog 4 #[v, .int .i64 s, .int .i64 t] w fun e w' => e = .returned (.bool true) ∧ Below w.heap.size w w' := by
  have hb1 : ∀ o, Below w.heap.size w (w.alloc o) := fun o => (Below.refl _ _).alloc (Nat.le_refl _) o
  have HSZ := Lib.hid (fun o => szLabelled_any v l 1048576 (w.alloc o) (by omega) (by omega) (hv.below (hb1 o)))
  have HV := Lib.hid (show ∀ W, Below w.heap.size w W → RLab W v l from fun W hb => hv.below hb)
  obtain ⟨sv, tv, rfl, _, _⟩ := hv
  have HB1 := Lib.hid hb1
  clear hb1
  go_enter Try.func4, Try.ntmps4
  go_wp2_with fail
  refine (HSZ.out _).mono ?_
  rintro e w1 ⟨rfl, hw1⟩
  obtain ⟨bx, hlt1⟩ := one_box hw1
  have x0 : w1.cell? ⟨w.heap.size, 0, none⟩ = some sv := cell_of_row _ _ _ _ _ _ bx
  have x1 : w1.cell? ⟨w.heap.size, 1, none⟩ = some tv := cell_of_row _ _ _ _ _ _ bx
  have hz1 := (HB1.out _).trans (hw1.mono (HB1.out _).size)
  have HZ1 := Lib.hid hz1
  clear bx hw1 hz1
  by_cases hneg : szLab l 1048576 < 0
  · go_wp2_with fail
    go_ret
    exact ⟨rfl, HZ1.out⟩
  · obtain ⟨hs, _, _⟩ := szLab_small (by omega) (by omega) hneg
    have HS := Lib.hid hs
    clear hs
    go_wp2_with fail
    refine (toLabelled_any _ l w1 (HV.out w1 HZ1.out) HS.out).mono ?_
    rintro e w2 ⟨u2, rfl, hu2, hw2⟩
    go_wp2_with fail
    refine (specIsSimulated_any u2 l s t w2 HS.out (hu2.rlab HS.out)).mono ?_
    rintro e w3 ⟨bS, rfl, hbS, hw3⟩
    have HBS := Lib.hid hbS
    have h13 := hw2.trans (hw3.mono hw2.size)
    have y0 := cell_below h13 x0 (lt_of_cell x0)
    have y1 := cell_below h13 x1 (lt_of_cell x1)
    have HZ3 := Lib.hid (HZ1.out.trans (h13.mono HZ1.out.size))
    clear x0 x1 hw2 hw3 h13 hu2 hbS
    go_wp2_with fail
    refine (toLabelled_any _ l w3 (HV.out w3 HZ3.out) HS.out).mono ?_
    rintro e w4 ⟨u4, rfl, hu4, hw4⟩
    obtain ⟨A4, c4, B4, d4, rfl⟩ := hu4.form
    have z0 := cell_below hw4 y0 (lt_of_cell y0)
    have z1 := cell_below hw4 y1 (lt_of_cell y1)
    have HU4 := Lib.hid hu4
    have HW4 := Lib.hid hw4
    have HZ4 := Lib.hid (HZ3.out.trans (hw4.mono HZ3.out.size))
    clear y0 y1 hu4 hw4
    go_wp2_with fail
    have hba : Below w4.heap.size w4 (w4.alloc (.cells #[.slice A4 l.shows.length c4, .slice B4 l.steps.length d4] 27)) := (Below.refl _ _).alloc (Nat.le_refl _) _
    have H5 := Lib.hid (implIsSimulated_any _ l s t _ HS.out ((HU4.out.rlab HS.out).below hba))
    have HBA := Lib.hid hba
    clear hba
    refine H5.out.mono ?_
    rintro e w5 ⟨bI, rfl, hbI, hw5⟩
    obtain rfl := simSaid_one HBS.out hbI
    obtain ⟨bx, _⟩ := one_box hw5
    have q0 : w5.cell? ⟨w4.heap.size, 0, none⟩ = some (.slice A4 l.shows.length c4) := cell_of_row _ _ _ _ _ _ bx
    have q1 : w5.cell? ⟨w4.heap.size, 1, none⟩ = some (.slice B4 l.steps.length d4) := cell_of_row _ _ _ _ _ _ bx
    have h45 := HBA.out.trans (hw5.mono HBA.out.size)
    have p0 := cell_below h45 z0 (lt_of_cell z0)
    have p1 := cell_below h45 z1 (lt_of_cell z1)
    have HZ5 := Lib.hid (HZ4.out.trans (h45.mono HZ4.out.size))
    have HR4 := Lib.hid ((HU4.out.rlab HS.out).below h45)
    have hne : (bS != bS) = false := by rw [bne_self_eq_false]
    have hne2 : (okST l s t != okST l s t) = false := by rw [bne_self_eq_false]
    clear bx hw5 h45 z0 z1 hbI
    generalize okST l s t = ok at *
    go_wp2_with fail
    go_region_held3 (fun w' => w'.cell? ⟨w4.heap.size, 0, none⟩ = some (.slice A4 l.shows.length c4) ∧ w'.cell? ⟨w4.heap.size, 1, none⟩ = some (.slice B4 l.steps.length d4) ∧ w'.cell? ⟨w.heap.size, 0, none⟩ = some sv ∧ w'.cell? ⟨w.heap.size, 1, none⟩ = some tv)
      (first | go_keep | (have hk := hw6.trans (hw7.mono hw6.size); exact ⟨cell_below hk q0 (lt_of_cell q0), cell_below hk q1 (lt_of_cell q1), cell_below hk p0 (lt_of_cell p0), cell_below hk p1 (lt_of_cell p1)⟩) | exact ⟨cell_below hw6 q0 (lt_of_cell q0), cell_below hw6 q1 (lt_of_cell q1), cell_below hw6 p0 (lt_of_cell p0), cell_below hw6 p1 (lt_of_cell p1)⟩)
      (first
        | (go_at_call 9; refine (toLabelled_any _ l _ (HV.out _ HZ5.out.drew) HS.out).mono ?_; rintro e w6 ⟨u6, rfl, hu6, hw6⟩)
        | (go_at_call 11; refine (eqLabelled_any _ _ l l _ (HR4.out.drew.below hw6) (hu6.rlab HS.out) HS.out HS.out).mono ?_; rintro e w7 ⟨rfl, hw7⟩))
    have hsl := sameLab_refl l
    have HF := Lib.hid ((HZ5.out.drew.trans (hw6.mono HZ5.out.drew.size)).trans (hw7.mono (Nat.le_trans HZ5.out.drew.size hw6.size)))
    clear hw6 hw7
    simp only [hsl, Bool.not_true]
    go_wp2_with fail
    go_ret
    exact ⟨rfl, HF.out⟩

end Go.Proofs.Ytojdobpmknadhaa
