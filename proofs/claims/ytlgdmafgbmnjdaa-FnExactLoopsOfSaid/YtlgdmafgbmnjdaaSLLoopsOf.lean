/- The law that program and reference agree on LoopsOf, walked. -/
import Derived.Test.YtlgdmafgbmnjdaaProg
import Derived.Test.YtlgdmafgbmnjdaaSLoopsI
import Derived.Test.YtlgdmafgbmnjdaaSysMarkD
import Derived.Test.YtlgdmafgbmnjdaaSysEq
import Derived.Test.YtlgdmafgbmnjdaaSysToD
import Derived.Test.YtlgdmafgbmnjdaaKeptCell
import Derived.Deep.RegionHeld3
set_option linter.unusedVariables false
namespace Go.Proofs.Ytlgdmafgbmnjdaa
open Go.RowKit

set_option maxRecDepth 100000 in
set_option maxHeartbeats 16000000 in
theorem lawLoopsOf (v : Value) (l : Sys) (w : World) (hv : RSys w v l) :
    Calls Try.prog 8 #[v] w fun e w' => e = .returned (.bool true) ∧ Below w.heap.size w w' := by
  have hb1 : ∀ o, Below w.heap.size w (w.alloc o) := fun o => (Below.refl _ _).alloc (Nat.le_refl _) o
  have HSZ := Lib.hid (fun o => szSystem_any v l 1048576 (w.alloc o) (by omega) (by omega) (hv.below (hb1 o)))
  have HV := Lib.hid (show ∀ W, Below w.heap.size w W → RSys W v l from fun W hb => hv.below hb)
  obtain ⟨sv, tv, rfl, _, _⟩ := hv
  have HB1 := Lib.hid hb1
  clear hb1
  go_enter Try.func8, Try.ntmps8
  go_wp2_with fail
  refine (HSZ.out _).mono ?_
  rintro e w1 ⟨r, rfl, hr, hw1⟩
  obtain ⟨bx, hlt1⟩ := one_box hw1
  have x0 : w1.cell? ⟨w.heap.size, 0, none⟩ = some sv := cell_of_row _ _ _ _ _ _ bx
  have x1 : w1.cell? ⟨w.heap.size, 1, none⟩ = some tv := cell_of_row _ _ _ _ _ _ bx
  have hz1 := (HB1.out _).trans (hw1.mono (HB1.out _).size)
  have HZ1 := Lib.hid hz1
  clear bx hw1 hz1
  rcases hr with rfl | ⟨hr0, hr1⟩
  · go_wp2_with fail
    go_ret
    exact ⟨rfl, HZ1.out⟩
  have hcost : costSys l ≤ 1048576 := by omega
  have HC := Lib.hid (show costSys l ≤ 16777216 by omega)
  have HS := Lib.hid (show SmallSys l from ⟨by unfold costSys costL at hcost; omega, by unfold costSys costL at hcost; omega⟩)
  clear hcost
  have hw0 : w.heap.size < w1.heap.size := lt_of_cell x0
  go_wp2_with fail
  refine (toSystem_any _ l w1 (HV.out w1 HZ1.out) HC.out).mono ?_
  rintro e w2 ⟨yS, rfl, hyS, hw2⟩
  have hsz2 := hw2.size
  have HZ2 := Lib.hid (HZ1.out.trans (hw2.mono HZ1.out.size))
  have HYS := Lib.hid hyS
  have HW2 := Lib.hid hw2
  clear hyS hw2
  go_wp2_with fail
  refine (specLoopsOf_any _  l  w2 HS.out (HYS.out.r HC.out) ).mono ?_
  rintro e w3 ⟨vS, rfl, hvS, hw3⟩
  obtain ⟨AS, cS, rfl, hvS⟩ := owns_form hvS
  have HOS := Lib.hid (show Own w3 (fun b => w2.heap.size ≤ b ∧ b < w3.heap.size) (.slice AS (lpsL l).length cS) (lpsL l).length (ints (lpsL l)) from (Own.of_owns hvS).mono (fun b hb => hvS.lt b hb))
  have hsz3 := hw3.size
  clear hvS
  have hall := (HW2.out.trans (hw3.mono HW2.out.size))
  have x0 := cell_below hall x0 (lt_of_cell x0)
  have x1 := cell_below hall x1 (lt_of_cell x1)
  have HZ3 := Lib.hid (HZ2.out.trans (hw3.mono HZ2.out.size))
  clear hall hw3
  go_wp2_with fail
  refine (toSystem_any _ l w3 (HV.out w3 HZ3.out) HC.out).mono ?_
  rintro e w4 ⟨yI, rfl, hyI, hw4⟩
  obtain ⟨AI, cI, BI, dI, rfl⟩ := hyI.form
  have x0 := cell_below hw4 x0 (lt_of_cell x0)
  have x1 := cell_below hw4 x1 (lt_of_cell x1)
  have hsz4 := hw4.size
  have HZ4 := Lib.hid (HZ3.out.trans (hw4.mono HZ3.out.size))
  have HYI := Lib.hid hyI
  have HW4 := Lib.hid hw4
  clear hyI hw4
  have hba : Below w4.heap.size w4 (w4.alloc (.cells #[.slice AI l.states.length cI, .slice BI l.steps.length dI] 32)) := (Below.refl _ _).alloc (Nat.le_refl _) _
  have HYI := Lib.hid (HYI.out.below hba (Nat.le_refl _))
  have HZ4 := Lib.hid (HZ4.out.trans (hba.mono HZ4.out.size))
  have hsA : (w4.alloc (.cells #[.slice AI l.states.length cI, .slice BI l.steps.length dI] 32)).heap.size = w4.heap.size + 1 := by simp
  go_wp2_with fail
  refine (implLoopsOf_any _  l  _ HS.out (HYI.out.r HC.out) ).mono ?_
  rintro e w5 ⟨vI, rfl, hvI, hw5⟩
  obtain ⟨AR, cR, rfl, hvI⟩ := owns_form hvI
  have HOR := Lib.hid (show Own w5 (fun b => (w4.alloc (.cells #[.slice AI l.states.length cI, .slice BI l.steps.length dI] 32)).heap.size ≤ b ∧ b < w5.heap.size) (.slice AR (lpsL l).length cR) (lpsL l).length (ints (lpsL l)) from (Own.of_owns hvI).mono (fun b hb => hvI.lt b hb))
  have hsz5 := hw5.size
  clear hvI
  rw [hsA] at HOR hsz5
  obtain ⟨bx, _⟩ := one_box hw5
  have q0 : w5.cell? ⟨w4.heap.size, 0, none⟩ = some (.slice AI l.states.length cI) := cell_of_row _ _ _ _ _ _ bx
  have q1 : w5.cell? ⟨w4.heap.size, 1, none⟩ = some (.slice BI l.steps.length dI) := cell_of_row _ _ _ _ _ _ bx
  have hx := hba.trans (hw5.mono hba.size)
  have x0 := cell_below hx x0 (lt_of_cell x0)
  have x1 := cell_below hx x1 (lt_of_cell x1)
  have HOS := Lib.hid (((HOS.out.below HW4.out (Nat.le_refl _)).below hba (Nat.le_refl _)).below hw5 (Nat.le_refl _))
  clear bx hx hba
  have HZ5 := Lib.hid (HZ4.out.trans (hw5.mono HZ4.out.size))
  have HYO := Lib.hid (HYI.out.below hw5 (Nat.le_refl _))
  clear hw5
  have hres : (lpsL l).length ≤ 16777216 := lps_len HS.out
  have HIMP := Lib.hid (fun v  W (hv : RSys W v l) => implLoopsOf_any v  l  W HS.out hv)
  have HSM := Lib.hid (show sameI (lpsL l) (lpsL l) = true from sameI_eq.2 rfl)
  generalize lpsL l = res at *
  generalize goodSys l = ok at *
  have hne : (ok != ok) = false := by simp
  go_wp2_with fail
  refine (eqIntS_ri _ _ res res w5 (HOR.out.ri (max_of hres)) (HOS.out.ri (max_of hres)) hres hres).mono ?_
  rintro e w6 ⟨rfl, hw6⟩
  rw [HSM.out]
  have x0 := cell_below hw6 x0 (lt_of_cell x0)
  have x1 := cell_below hw6 x1 (lt_of_cell x1)
  have q0 := cell_below hw6 q0 (lt_of_cell q0)
  have q1 := cell_below hw6 q1 (lt_of_cell q1)
  have HOS := Lib.hid (HOS.out.below hw6 (Nat.le_refl _))
  have HOR := Lib.hid (HOR.out.below hw6 (Nat.le_refl _))
  have HYO := Lib.hid (HYO.out.below hw6 (Nat.le_refl _))
  have HYI := Lib.hid (HYO.out.r HC.out)
  have hsz6 := hw6.size
  have HZ6 := Lib.hid (HZ5.out.trans (hw6.mono HZ5.out.size))
  clear hw6
  go_wp2_with fail
  go_region_held3 (fun w' => w'.cell? ⟨w4.heap.size, 0, none⟩ = some (.slice AI l.states.length cI) ∧ w'.cell? ⟨w4.heap.size, 1, none⟩ = some (.slice BI l.steps.length dI) ∧ w'.cell? ⟨w.heap.size, 0, none⟩ = some sv ∧ w'.cell? ⟨w.heap.size, 1, none⟩ = some tv)
    (first | go_keep | (have hk := hw7.trans (hw8.mono hw7.size); exact ⟨cell_below hk q0 (lt_of_cell q0), cell_below hk q1 (lt_of_cell q1), cell_below hk x0 (lt_of_cell x0), cell_below hk x1 (lt_of_cell x1)⟩) | exact ⟨cell_below hw7 q0 (lt_of_cell q0), cell_below hw7 q1 (lt_of_cell q1), cell_below hw7 x0 (lt_of_cell x0), cell_below hw7 x1 (lt_of_cell x1)⟩)
    (first
      | (go_at_call 11; refine (toSystem_any _ l _ (HV.out _ HZ6.out.drew) HC.out).mono ?_; rintro e w7 ⟨yK, rfl, hyK, hw7⟩)
      | (go_at_call 14; refine (eqSystem_any _ _ l l _ (HYI.out.below (show Below w6.heap.size w6 w7 from (Below.refl _ _).drew.trans hw7)) (hyK.r HC.out) HC.out HC.out).mono ?_; rintro e w8 ⟨rfl, hw8⟩))
  have hsl := sameSys_refl l
  simp only [hsl, Bool.not_true]
  have hx : Below w6.heap.size w6 w8 := (Below.refl _ w6).drew.trans (hw7.trans (hw8.mono hw7.size))
  have HZ8 := Lib.hid (HZ6.out.trans (hx.mono HZ6.out.size))
  have x0 := cell_below hx x0 (lt_of_cell x0)
  have x1 := cell_below hx x1 (lt_of_cell x1)
  have q0 := cell_below hx q0 (lt_of_cell q0)
  have q1 := cell_below hx q1 (lt_of_cell q1)
  have HOS := Lib.hid (HOS.out.below hx (Nat.le_refl _))
  have HOR := Lib.hid (HOR.out.below hx (Nat.le_refl _))
  have HYO := Lib.hid (HYO.out.below hx (Nat.le_refl _))
  have hsz8 := hx.size
  clear hw7 hw8 hx hyK
  have hrun := runSys_le HC.out
  have HRUN := Lib.hid hrun
  go_wp2_with fail
  refine (markSystem_any (fun b => w3.heap.size ≤ b ∧ b < w4.heap.size) _ l 1 w8 HC.out (by decide) (by decide) (fun b hb => by omega) HYO.out).mono ?_
  rintro e w9 ⟨rfl, hk9⟩
  have hsz9 := hk9.size
  have x0 := kept_cell hk9 x0 (by intro h; have := h.1; dsimp only at this; omega)
  have x1 := kept_cell hk9 x1 (by intro h; have := h.1; dsimp only at this; omega)
  have HOS := Lib.hid (HOS.out.kept hk9 (fun b h1 h2 => by omega))
  have HOR := Lib.hid (HOR.out.kept hk9 (fun b h1 h2 => by omega))
  have HZ9 := Lib.hid (HZ8.out.trans (hk9.below (B := w.heap.size) (fun b hb => by omega) (by omega)))
  clear hk9 q0 q1
  have hkp : ¬ (1 + ((runSys l : Nat) : Int) < 0) := by omega
  go_wp2_with fail
  refine (eqIntS_ri _ _ res res w9 (HOR.out.ri (max_of hres)) (HOS.out.ri (max_of hres)) hres hres).mono ?_
  rintro e w10 ⟨rfl, hw10⟩
  rw [HSM.out]
  have hsz10 := hw10.size
  have x0 := cell_below hw10 x0 (lt_of_cell x0)
  have x1 := cell_below hw10 x1 (lt_of_cell x1)
  have HOS := Lib.hid (HOS.out.below hw10 (Nat.le_refl _))
  have HOR := Lib.hid (HOR.out.below hw10 (Nat.le_refl _))
  have HZ10 := Lib.hid (HZ9.out.trans (hw10.mono HZ9.out.size))
  clear hw10
  go_wp2_with fail
  refine (markIntS_any _ _ res 1 w10 hres (by decide) (by decide) HOR.out).mono ?_
  rintro e w11 ⟨rfl, hu11, hk11⟩
  have hsz11 := hk11.size
  have x0 := kept_cell hk11 x0 (by intro h; have := h.1; dsimp only at this; omega)
  have x1 := kept_cell hk11 x1 (by intro h; have := h.1; dsimp only at this; omega)
  have HOS := Lib.hid (HOS.out.kept hk11 (fun b h1 h2 => by omega))
  have HZ11 := Lib.hid (HZ10.out.trans (hk11.below (B := w.heap.size) (fun b hb => by omega) (by omega)))
  obtain ⟨AR', cR', eR, hcR⟩ := hu11.cells
  cases eR
  have HCR := Lib.hid hcR
  clear hk11 hu11 hcR
  go_wp2_with fail
  refine (heldIntS_any AR cR res.length 1 w11 hres (by decide) (by decide) HCR.out).mono ?_
  rintro e wq ⟨rfl, rfl⟩
  go_wp2_with fail
  refine (toSystem_any _ l w11 (HV.out w11 HZ11.out) HC.out).mono ?_
  rintro e w12 ⟨uK, rfl, huK, hw12⟩
  have HZ12 := Lib.hid (HZ11.out.trans (hw12.mono HZ11.out.size))
  go_wp2_with fail
  refine (HIMP.out uK  w12 (huK.r HC.out) ).mono ?_
  rintro e w13 ⟨vZ, rfl, hvZ, hw13⟩
  obtain ⟨AZ, cZ, rfl, hvZ⟩ := owns_form hvZ
  have hall := (hw12.trans (hw13.mono hw12.size))
  have HCRZ := Lib.hid (HCR.out.below hall)
  have HOS := Lib.hid (HOS.out.below hall (Nat.le_refl _))
  have HZ13 := Lib.hid (HZ11.out.trans (hall.mono HZ11.out.size))
  have HRZ := Lib.hid ((Own.of_owns hvZ).ri (max_of hres))
  clear hw12 hw13 hall huK  x0 x1 hvZ
  go_wp2_with fail
  refine (eqIntS_ri _ _ res res w13 HRZ.out (HOS.out.ri (max_of hres)) hres hres).mono ?_
  rintro e w14 ⟨rfl, hw14⟩
  rw [HSM.out]
  have HCR0 := Lib.hid (HCRZ.out.below hw14)
  have HZ14 := Lib.hid (HZ13.out.trans (hw14.mono HZ13.out.size))
  clear hw14
  go_wp2_with fail
  refine (heldIntS_any AR cR res.length 1 w14 hres (by decide) (by decide) HCR0.out).mono ?_
  rintro e wq ⟨rfl, rfl⟩
  go_wp2_with fail
  go_ret
  exact ⟨rfl, HZ14.out⟩

end Go.Proofs.Ytlgdmafgbmnjdaa
