/- The law that program and reference agree on AlwaysHas, walked. -/
import Derived.Test.YtlgdmafgbmnjdaaProg
import Derived.Test.YtlgdmafgbmnjdaaSAlways
import Derived.Test.YtlgdmafgbmnjdaaSysEq
import Derived.Test.YtlgdmafgbmnjdaaSysToD
import Derived.Deep.RegionHeld3
set_option linter.unusedVariables false
namespace Go.Proofs.Ytlgdmafgbmnjdaa
open Go.RowKit

set_option maxRecDepth 100000 in
set_option maxHeartbeats 8000000 in
theorem lawAlwaysHas (v : Value) (l : Sys) (p0 : Int) (A1 : Option Addr) (c1 : Nat) (f1 : List Int) (w : World) (hv : RSys w v l) (hf1 : Cells w A1 (ints f1)) :
    Calls Try.prog 6 #[v, .int .i64 p0, .slice A1 f1.length c1] w fun e w' => e = .returned (.bool true) ∧ Below w.heap.size w w' := by
  have hb1 : ∀ o, Below w.heap.size w (w.alloc o) := fun o => (Below.refl _ _).alloc (Nat.le_refl _) o
  have HSZ := Lib.hid (fun o => szSystem_any v l 1048576 (w.alloc o) (by omega) (by omega) (hv.below (hb1 o)))
  have HV := Lib.hid (show ∀ W, Below w.heap.size w W → RSys W v l from fun W hb => hv.below hb)
  have HF1 := Lib.hid (show ∀ W, Below w.heap.size w W → Cells W A1 (ints f1) from fun W hb => hf1.below hb)
  clear hf1
  obtain ⟨sv, tv, rfl, _, _⟩ := hv
  have HB1 := Lib.hid hb1
  clear hb1
  by_cases hl1 : (1048576 : Int) < (f1.length : Int)
  · go_enter Try.func6, Try.ntmps6
    go_wp2_with fail
    go_ret
    exact ⟨rfl, HB1.out _⟩
  have hfl1 : f1.length ≤ 1048576 := by omega
  go_enter Try.func6, Try.ntmps6
  go_wp2_with fail
  refine (HSZ.out _).mono ?_
  rintro e w1 ⟨r, rfl, hr, hw1⟩
  obtain ⟨bx, hlt1⟩ := one_box hw1
  have x0 : w1.cell? ⟨w.heap.size, 0, none⟩ = some sv := cell_of_row _ _ _ _ _ _ bx
  have x1 : w1.cell? ⟨w.heap.size, 1, none⟩ = some tv := cell_of_row _ _ _ _ _ _ bx
  have hz1 := (HB1.out _).trans (hw1.mono (HB1.out _).size)
  have HZ1 := Lib.hid hz1
  clear bx hw1 hz1
  rcases hr with rfl | ⟨hr0, hr1⟩
  · go_wp2_with fail
    go_ret
    exact ⟨rfl, HZ1.out⟩
  have hcost : costSys l ≤ 1048576 := by omega
  have HC := Lib.hid (show costSys l ≤ 16777216 by omega)
  have HS := Lib.hid (show SmallSys l from ⟨by unfold costSys costL at hcost; omega, by unfold costSys costL at hcost; omega⟩)
  clear hcost
  go_wp2_with fail
  refine (toSystem_any _ l w1 (HV.out w1 HZ1.out) HC.out).mono ?_
  rintro e w2 ⟨yS, rfl, hyS, hw2⟩
  have HZ2 := Lib.hid (HZ1.out.trans (hw2.mono HZ1.out.size))
  have HYS := Lib.hid hyS
  have HW2 := Lib.hid hw2
  clear hyS hw2
  go_wp2_with fail
  refine (toIntS_own _ f1 w2 ⟨_, _, rfl, max_of (by omega), HF1.out _ HZ2.out⟩ (by omega)).mono ?_
  rintro e w3 ⟨aS1, rfl, haS1, hw3⟩
  obtain ⟨AS1, cS1, rfl, _⟩ := id haS1
  have hstep := hw3
  have HYS := Lib.hid (HYS.out.below hstep (Nat.le_refl _))
  have HGS1 := Lib.hid haS1
  have HZ3 := Lib.hid (HZ2.out.trans (hstep.mono HZ2.out.size))
  have HW3 := Lib.hid hstep
  clear haS1 hw3 hstep
  go_wp2_with fail
  refine (specAlwaysHas_any _ _ l p0 f1 w3 HS.out (HYS.out.r HC.out) (by omega) (HGS1.out.ri (max_of (by omega)))).mono ?_
  rintro e w4 ⟨rfl, hw4⟩
  have hall := (HW2.out.trans ((HW3.out.trans (hw4.mono HW3.out.size)).mono HW2.out.size))
  have x0 := cell_below hall x0 (lt_of_cell x0)
  have x1 := cell_below hall x1 (lt_of_cell x1)
  have HZ4 := Lib.hid (HZ3.out.trans (hw4.mono HZ3.out.size))
  clear hall hw4
  go_wp2_with fail
  refine (toSystem_any _ l w4 (HV.out w4 HZ4.out) HC.out).mono ?_
  rintro e w5 ⟨yI, rfl, hyI, hw5⟩
  obtain ⟨AI, cI, BI, dI, rfl⟩ := hyI.form
  have x0 := cell_below hw5 x0 (lt_of_cell x0)
  have x1 := cell_below hw5 x1 (lt_of_cell x1)
  have HZ5 := Lib.hid (HZ4.out.trans (hw5.mono HZ4.out.size))
  have HYI := Lib.hid hyI
  have HW5 := Lib.hid hw5
  clear hyI hw5
  have hba : Below w5.heap.size w5 (w5.alloc (.cells #[.slice AI l.states.length cI, .slice BI l.steps.length dI] 32)) := (Below.refl _ _).alloc (Nat.le_refl _) _
  go_wp2_with fail
  refine (toIntS_own _ f1 _ ⟨_, _, rfl, max_of (by omega), HF1.out _ (HZ5.out.trans (hba.mono HZ5.out.size))⟩ (by omega)).mono ?_
  rintro e w6 ⟨aI1, rfl, haI1, hw6⟩
  obtain ⟨AI1, cI1, rfl, _⟩ := id haI1
  obtain ⟨bx, _⟩ := one_box hw6
  have q0 : w6.cell? ⟨w5.heap.size, 0, none⟩ = some (.slice AI l.states.length cI) := cell_of_row _ _ _ _ _ _ bx
  have q1 : w6.cell? ⟨w5.heap.size, 1, none⟩ = some (.slice BI l.steps.length dI) := cell_of_row _ _ _ _ _ _ bx
  have hstep := hba.trans (hw6.mono hba.size)
  clear bx
  have x0 := cell_below hstep x0 (lt_of_cell x0)
  have x1 := cell_below hstep x1 (lt_of_cell x1)
  have HYI := Lib.hid (HYI.out.below hstep (Nat.le_refl _))
  have HGI1 := Lib.hid haI1
  have HZ6 := Lib.hid (HZ5.out.trans (hstep.mono HZ5.out.size))
  have HW6 := Lib.hid hstep
  clear haI1 hw6 hstep
  go_wp2_with fail
  refine (implAlwaysHas_any _ _ l p0 f1 w6 HS.out (HYI.out.r HC.out) (by omega) (HGI1.out.ri (max_of (by omega)))).mono ?_
  rintro e w7 ⟨rfl, hw7⟩
  have q0 := cell_below hw7 q0 (lt_of_cell q0)
  have q1 := cell_below hw7 q1 (lt_of_cell q1)
  have x0 := cell_below hw7 x0 (lt_of_cell x0)
  have x1 := cell_below hw7 x1 (lt_of_cell x1)
  have HZ7 := Lib.hid (HZ6.out.trans (hw7.mono HZ6.out.size))
  have HYI := Lib.hid ((HYI.out.below hw7 (Nat.le_refl _)).r HC.out)
  have HGI1 := Lib.hid (HGI1.out.below hw7 (Nat.le_refl _))
  clear hw7
  generalize alwaysB l p0 f1 = res0 at *
  have hne0 : (res0 != res0) = false := by simp
  generalize okAlways l p0 f1 = res1 at *
  have hne1 : (res1 != res1) = false := by simp
  go_wp2_with fail
  go_region_held3 (fun w' => w'.cell? ⟨w5.heap.size, 0, none⟩ = some (.slice AI l.states.length cI) ∧ w'.cell? ⟨w5.heap.size, 1, none⟩ = some (.slice BI l.steps.length dI) ∧ w'.cell? ⟨w.heap.size, 0, none⟩ = some sv ∧ w'.cell? ⟨w.heap.size, 1, none⟩ = some tv)
    (first | go_keep | (have hk := hw8.trans (hw9.mono hw8.size); exact ⟨cell_below hk q0 (lt_of_cell q0), cell_below hk q1 (lt_of_cell q1), cell_below hk x0 (lt_of_cell x0), cell_below hk x1 (lt_of_cell x1)⟩) | exact ⟨cell_below hw8 q0 (lt_of_cell q0), cell_below hw8 q1 (lt_of_cell q1), cell_below hw8 x0 (lt_of_cell x0), cell_below hw8 x1 (lt_of_cell x1)⟩)
    (first
      | (go_at_call 11; refine (toSystem_any _ l _ (HV.out _ HZ7.out.drew) HC.out).mono ?_; rintro e w8 ⟨yK, rfl, hyK, hw8⟩)
      | (go_at_call 14; refine (eqSystem_any _ _ l l _ (HYI.out.below (show Below w7.heap.size w7 w8 from (Below.refl _ _).drew.trans hw8)) (hyK.r HC.out) HC.out HC.out).mono ?_; rintro e w9 ⟨rfl, hw9⟩))
  have hsl := sameSys_refl l
  simp only [hsl, Bool.not_true]
  have hx : Below w7.heap.size w7 w9 := (Below.refl _ w7).drew.trans (hw8.trans (hw9.mono hw8.size))
  have HZ9 := Lib.hid (HZ7.out.trans (hx.mono HZ7.out.size))
  have HGI1 := Lib.hid (HGI1.out.below hx (Nat.le_refl _))
  clear hw8 hw9 hx hyK q0 q1 x0 x1
  go_wp2_with fail
  refine (toIntS_own _ f1 w9 ⟨_, _, rfl, max_of (by omega), HF1.out _ HZ9.out⟩ (by omega)).mono ?_
  rintro e w10 ⟨e1, rfl, he1, hw10⟩
  obtain ⟨E1, g1, rfl, _⟩ := id he1
  go_wp2_with fail
  refine (eqIntS_ri _ _ f1 f1 w10 ((HGI1.out.below hw10 (Nat.le_refl _)).ri (max_of (by omega))) (he1.ri (max_of (by omega))) (by omega) (by omega)).mono ?_
  rintro e w11 ⟨rfl, hw11⟩
  have hsa : sameI f1 f1 = true := sameI_eq.2 rfl
  simp only [hsa]
  have hx := hw10.trans (hw11.mono hw10.size)
  have HZ11 := Lib.hid (HZ9.out.trans (hx.mono HZ9.out.size))
  clear hw10 hw11 hx he1 hsa
  go_wp2_with fail
  go_ret
  exact ⟨rfl, HZ11.out⟩

end Go.Proofs.Ytlgdmafgbmnjdaa
