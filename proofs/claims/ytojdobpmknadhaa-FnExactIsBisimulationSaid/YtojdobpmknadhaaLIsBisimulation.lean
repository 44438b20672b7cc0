/- The law that program and reference agree on IsBisimulation, walked. -/
import Derived.Test.YtojdobpmknadhaaProg
import Derived.Test.YtojdobpmknadhaaBisI
set_option linter.unusedVariables false
namespace Go.Proofs.Ytojdobpmknadhaa
open Go.RowKit

set_option maxRecDepth 100000 in
set_option maxHeartbeats 4000000 in
theorem lawIsBisimulation (v : Value) (l : Lab) (u : Value) (ps : List I2) (w : World) (hv : RLab w v l) (hu : RA2 w u ps) :
    Calls Try.prog 5 #[v, u] w fun e w' => e = .returned (.bool true) ∧ Below w.heap.size w w' := by
  have hb1 : ∀ o, Below w.heap.size w (w.alloc o) := fun o => (Below.refl _ _).alloc (Nat.le_refl _) o
  have HSZ := Lib.hid (fun o => szLabelled_any v l 1048576 (w.alloc o) (by omega) (by omega) (hv.below (hb1 o)))
  have HV := Lib.hid (show ∀ W, Below w.heap.size w W → RLab W v l from fun W hb => hv.below hb)
  have HU := Lib.hid (show ∀ W, Below w.heap.size w W → RA2 W u ps from fun W hb => hu.below hb)
  obtain ⟨A9, c9, rfl, hm9, _⟩ := hu
  obtain ⟨sv, tv, rfl, _, _⟩ := hv
  have HB1 := Lib.hid hb1
  clear hb1
  go_enter Try.func5, Try.ntmps5
  go_wp2_with fail
  refine (HSZ.out _).mono ?_
  rintro e w1 ⟨rfl, hw1⟩
  obtain ⟨bx, hlt1⟩ := one_box hw1
  have x0 : w1.cell? ⟨w.heap.size, 0, none⟩ = some sv := cell_of_row _ _ _ _ _ _ bx
  have x1 : w1.cell? ⟨w.heap.size, 1, none⟩ = some tv := cell_of_row _ _ _ _ _ _ bx
  have hz1 := (HB1.out _).trans (hw1.mono (HB1.out _).size)
  have HZ1 := Lib.hid hz1
  clear bx hw1 hz1
  by_cases hneg : szLab l 1048576 < 0
  · go_wp2_with fail
    go_ret
    exact ⟨rfl, HZ1.out⟩
  obtain ⟨hs, hle0, hle1⟩ := szLab_small (by omega) (by omega) hneg
  have HS := Lib.hid hs
  clear hs
  have HQ := Lib.hid (szIntA2S_any A9 ps.length c9 (szLab l 1048576) w1 hm9 hle0 hle1)
  generalize szLab l 1048576 = left at *
  by_cases hneg2 : szRow ps.length left < 0
  · have hr : szRow ps.length left = -1 := by unfold szRow at hneg2 ⊢; split at hneg2 <;> simp_all
    rw [hr] at HQ
    clear hr
    go_wp2_with fail
    refine HQ.out.mono ?_
    rintro e w1' ⟨rfl, rfl⟩
    go_wp2_with fail
    go_ret
    exact ⟨rfl, HZ1.out⟩
  have hps : ps.length ≤ 16777216 := by unfold szRow at hneg2; split at hneg2 <;> omega
  go_wp2_with fail
  refine HQ.out.mono ?_
  rintro e w1' ⟨rfl, rfl⟩
  clear HQ
  generalize szRow ps.length left = left2 at *
  go_wp2_with fail
  refine (toLabelled_any _ l w1 (HV.out w1 HZ1.out) HS.out).mono ?_
  rintro e w2 ⟨u2, rfl, hu2, hw2⟩
  have HZ2 := Lib.hid (HZ1.out.trans (hw2.mono HZ1.out.size))
  go_wp2_with fail
  refine (toIntA2S_any _ ps w2 (HU.out w2 HZ2.out) hps).mono ?_
  rintro e w2a ⟨v2, rfl, hv2, hw2a⟩
  obtain ⟨A2, c2, rfl, hv2⟩ := owns_form hv2
  have hu2 := hu2.below hw2a (Nat.le_refl _)
  go_wp2_with fail
  refine (specIsBisimulation_any u2 _ l ps w2a HS.out (hu2.rlab HS.out) hps ⟨A2, c2, rfl, le_maxLen hps, .of_owns hv2⟩).mono ?_
  rintro e w3 ⟨rfl, hw3⟩
  have h13 := hw2.trans ((hw2a.trans (hw3.mono hw2a.size)).mono hw2.size)
  have y0 := cell_below h13 x0 (lt_of_cell x0)
  have y1 := cell_below h13 x1 (lt_of_cell x1)
  have HZ3 := Lib.hid (HZ1.out.trans (h13.mono HZ1.out.size))
  clear x0 x1 hw2 hw2a hw3 h13 hu2 hv2
  go_wp2_with fail
  refine (toLabelled_any _ l w3 (HV.out w3 HZ3.out) HS.out).mono ?_
  rintro e w4 ⟨u4, rfl, hu4, hw4⟩
  obtain ⟨A4, c4, B4, d4, rfl⟩ := hu4.form
  have z0 := cell_below hw4 y0 (lt_of_cell y0)
  have z1 := cell_below hw4 y1 (lt_of_cell y1)
  have HU4 := Lib.hid hu4
  have HZ4 := Lib.hid (HZ3.out.trans (hw4.mono HZ3.out.size))
  clear y0 y1 hu4 hw4
  go_wp2_with fail
  have hba : Below w4.heap.size w4 (w4.alloc (.cells #[.slice A4 l.shows.length c4, .slice B4 l.steps.length d4] 27)) := (Below.refl _ _).alloc (Nat.le_refl _) _
  refine (toIntA2S_any _ ps _ (HU.out _ (HZ4.out.trans (hba.mono HZ4.out.size))) hps).mono ?_
  rintro e w5 ⟨v5, rfl, hv5, hw5⟩
  obtain ⟨A5, c5, rfl, hv5⟩ := owns_form hv5
  obtain ⟨bx, _⟩ := one_box hw5
  have q0 : w5.cell? ⟨w4.heap.size, 0, none⟩ = some (.slice A4 l.shows.length c4) := cell_of_row _ _ _ _ _ _ bx
  have q1 : w5.cell? ⟨w4.heap.size, 1, none⟩ = some (.slice B4 l.steps.length d4) := cell_of_row _ _ _ _ _ _ bx
  have h45 := hba.trans (hw5.mono hba.size)
  have p0 := cell_below h45 z0 (lt_of_cell z0)
  have p1 := cell_below h45 z1 (lt_of_cell z1)
  have HZ5 := Lib.hid (HZ4.out.trans (h45.mono HZ4.out.size))
  have HR5 := Lib.hid ((HU4.out.rlab HS.out).below h45)
  have HC5 := Lib.hid (show RA2 w5 (.slice A5 ps.length c5) ps from ⟨A5, c5, rfl, le_maxLen hps, .of_owns hv5⟩)
  clear bx hba hw5 h45 z0 z1 hv5
  go_wp2_with fail
  refine (implIsBisimulation_any _ _ l ps w5 HS.out HR5.out hps HC5.out).mono ?_
  rintro e w6 ⟨rfl, hw6⟩
  have q0 := cell_below hw6 q0 (lt_of_cell q0)
  have q1 := cell_below hw6 q1 (lt_of_cell q1)
  have p0 := cell_below hw6 p0 (lt_of_cell p0)
  have p1 := cell_below hw6 p1 (lt_of_cell p1)
  have HZ6 := Lib.hid (HZ5.out.trans (hw6.mono HZ5.out.size))
  have HR6 := Lib.hid (HR5.out.below hw6)
  have HC6 := Lib.hid (HC5.out.below hw6)
  clear hw6
  generalize (okB l ps && bisB l ps) = bb at *
  generalize okB l ps = ok at *
  have hne : (bb != bb) = false := by rw [bne_self_eq_false]
  have hne2 : (ok != ok) = false := by rw [bne_self_eq_false]
  go_wp2_with fail
  go_region_held3 (fun w' => w'.cell? ⟨w4.heap.size, 0, none⟩ = some (.slice A4 l.shows.length c4) ∧ w'.cell? ⟨w4.heap.size, 1, none⟩ = some (.slice B4 l.steps.length d4) ∧ w'.cell? ⟨w.heap.size, 0, none⟩ = some sv ∧ w'.cell? ⟨w.heap.size, 1, none⟩ = some tv)
    (first | go_keep | (have hk := hw7.trans (hw8.mono hw7.size); exact ⟨cell_below hk q0 (lt_of_cell q0), cell_below hk q1 (lt_of_cell q1), cell_below hk p0 (lt_of_cell p0), cell_below hk p1 (lt_of_cell p1)⟩) | exact ⟨cell_below hw7 q0 (lt_of_cell q0), cell_below hw7 q1 (lt_of_cell q1), cell_below hw7 p0 (lt_of_cell p0), cell_below hw7 p1 (lt_of_cell p1)⟩)
    (first
      | (go_at_call 9; refine (toLabelled_any _ l _ (HV.out _ HZ6.out.drew) HS.out).mono ?_; rintro e w7 ⟨u7, rfl, hu7, hw7⟩)
      | (go_at_call 11; refine (eqLabelled_any _ _ l l _ (HR6.out.drew.below hw7) (hu7.rlab HS.out) HS.out HS.out).mono ?_; rintro e w8 ⟨rfl, hw8⟩))
  have hsl := sameLab_refl l
  have hx : Below w6.heap.size w6 w8 := (Below.refl _ w6).drew.trans (hw7.trans (hw8.mono hw7.size))
  have HZ8 := Lib.hid (HZ6.out.trans (hx.mono HZ6.out.size))
  have HC8 := Lib.hid (HC6.out.below hx)
  clear hw7 hw8 hu7 hx q0 q1 p0 p1
  simp only [hsl, Bool.not_true]
  go_wp2_with fail
  refine (toIntA2S_any _ ps w8 (HU.out w8 HZ8.out) hps).mono ?_
  rintro e w9 ⟨v9, rfl, hv9, hw9⟩
  obtain ⟨A8, c8, rfl, hv9⟩ := owns_form hv9
  have HZ9 := Lib.hid (HZ8.out.trans (hw9.mono HZ8.out.size))
  have HC9 := Lib.hid (HC8.out.below hw9)
  have HD9 := Lib.hid (show RA2 w9 (.slice A8 ps.length c8) ps from ⟨A8, c8, rfl, le_maxLen hps, .of_owns hv9⟩)
  clear hv9 hw9
  go_wp2_with fail
  refine (eqIntA2S_any _ _ ps ps w9 HC9.out HD9.out hps hps).mono ?_
  rintro e w10 ⟨rfl, hw10⟩
  have hsa : sameA2 ps ps = true := by simp [sameA2]
  have HF := Lib.hid (HZ9.out.trans (hw10.mono HZ9.out.size))
  clear hw10
  simp only [hsa]
  go_wp2_with fail
  go_ret
  exact ⟨rfl, HF.out⟩

end Go.Proofs.Ytojdobpmknadhaa
