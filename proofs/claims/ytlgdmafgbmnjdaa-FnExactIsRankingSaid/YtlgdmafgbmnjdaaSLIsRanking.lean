/- The law that program and reference agree on IsRanking, walked. -/
import Derived.Test.YtlgdmafgbmnjdaaProg
import Derived.Test.YtlgdmafgbmnjdaaSRankS
import Derived.Test.YtlgdmafgbmnjdaaSysEq
import Derived.Test.YtlgdmafgbmnjdaaSysToD
import Derived.Deep.RegionHeld3
set_option linter.unusedVariables false
namespace Go.Proofs.Ytlgdmafgbmnjdaa
open Go.RowKit

set_option maxRecDepth 100000 in
set_option maxHeartbeats 8000000 in
theorem lawIsRanking (v : Value) (l : Sys) (A0 : Option Addr) (c0 : Nat) (f0 : List Int) (A1 : Option Addr) (c1 : Nat) (f1 : List Int) (w : World) (hv : RSys w v l) (hf0 : Cells w A0 (ints f0)) (hf1 : Cells w A1 (ints f1)) :
    Calls Try.prog 3 #[v, .slice A0 f0.length c0, .slice A1 f1.length c1] w fun e w' => e = .returned (.bool true) ∧ Below w.heap.size w w' := by
  have hb1 : ∀ o, Below w.heap.size w (w.alloc o) := fun o => (Below.refl _ _).alloc (Nat.le_refl _) o
  have HSZ := Lib.hid (fun o => szSystem_any v l 1048576 (w.alloc o) (by omega) (by omega) (hv.below (hb1 o)))
  have HV := Lib.hid (show ∀ W, Below w.heap.size w W → RSys W v l from fun W hb => hv.below hb)
  have HF0 := Lib.hid (show ∀ W, Below w.heap.size w W → Cells W A0 (ints f0) from fun W hb => hf0.below hb)
  clear hf0
  have HF1 := Lib.hid (show ∀ W, Below w.heap.size w W → Cells W A1 (ints f1) from fun W hb => hf1.below hb)
  clear hf1
  obtain ⟨sv, tv, rfl, _, _⟩ := hv
  have HB1 := Lib.hid hb1
  clear hb1
  by_cases hl0 : (1048576 : Int) < (f0.length : Int)
  · go_enter Try.func3, Try.ntmps3
    go_wp2_with fail
    go_ret
    exact ⟨rfl, HB1.out _⟩
  have hfl0 : f0.length ≤ 1048576 := by omega
  by_cases hl1 : (1048576 : Int) < (f1.length : Int)
  · go_enter Try.func3, Try.ntmps3
    go_wp2_with fail
    go_ret
    exact ⟨rfl, HB1.out _⟩
  have hfl1 : f1.length ≤ 1048576 := by omega
  go_enter Try.func3, Try.ntmps3
  go_wp2_with fail
  refine (HSZ.out _).mono ?_
  rintro e w1 ⟨r, rfl, hr, hw1⟩
  obtain ⟨bx, hlt1⟩ := one_box hw1
  have x0 : w1.cell? ⟨w.heap.size, 0, none⟩ = some sv := cell_of_row _ _ _ _ _ _ bx
  have x1 : w1.cell? ⟨w.heap.size, 1, none⟩ = some tv := cell_of_row _ _ _ _ _ _ bx
  have hz1 := (HB1.out _).trans (hw1.mono (HB1.out _).size)
  have HZ1 := Lib.hid hz1
  clear bx hw1 hz1
  rcases hr with rfl | ⟨hr0, hr1⟩
  · go_wp2_with fail
    go_ret
    exact ⟨rfl, HZ1.out⟩
  have hcost : costSys l ≤ 1048576 := by omega
  have HC := Lib.hid (show costSys l ≤ 16777216 by omega)
  have HS := Lib.hid (show SmallSys l from ⟨by unfold costSys costL at hcost; omega, by unfold costSys costL at hcost; omega⟩)
  clear hcost
  go_wp2_with fail
  refine (toSystem_any _ l w1 (HV.out w1 HZ1.out) HC.out).mono ?_
  rintro e w2 ⟨yS, rfl, hyS, hw2⟩
  have HZ2 := Lib.hid (HZ1.out.trans (hw2.mono HZ1.out.size))
  have HYS := Lib.hid hyS
  have HW2 := Lib.hid hw2
  clear hyS hw2
  go_wp2_with fail
  refine (toIntS_own _ f0 w2 ⟨_, _, rfl, max_of (by omega), HF0.out _ HZ2.out⟩ (by omega)).mono ?_
  rintro e w3 ⟨aS0, rfl, haS0, hw3⟩
  obtain ⟨AS0, cS0, rfl, _⟩ := id haS0
  have hstep := hw3
  have HYS := Lib.hid (HYS.out.below hstep (Nat.le_refl _))
  have HGS0 := Lib.hid haS0
  have HZ3 := Lib.hid (HZ2.out.trans (hstep.mono HZ2.out.size))
  have HW3 := Lib.hid hstep
  clear haS0 hw3 hstep
  go_wp2_with fail
  refine (toIntS_own _ f1 w3 ⟨_, _, rfl, max_of (by omega), HF1.out _ HZ3.out⟩ (by omega)).mono ?_
  rintro e w4 ⟨aS1, rfl, haS1, hw4⟩
  obtain ⟨AS1, cS1, rfl, _⟩ := id haS1
  have hstep := hw4
  have HYS := Lib.hid (HYS.out.below hstep (Nat.le_refl _))
  have HGS0 := Lib.hid (HGS0.out.below hstep (Nat.le_refl _))
  have HGS1 := Lib.hid haS1
  have HZ4 := Lib.hid (HZ3.out.trans (hstep.mono HZ3.out.size))
  have HW4 := Lib.hid hstep
  clear haS1 hw4 hstep
  go_wp2_with fail
  refine (specIsRanking_any _ _ _ l f0 f1 w4 HS.out (HYS.out.r HC.out) (by omega) (HGS0.out.ri (max_of (by omega))) (by omega) (HGS1.out.ri (max_of (by omega)))).mono ?_
  rintro e w5 ⟨rfl, hw5⟩
  have hall := (HW2.out.trans ((HW3.out.trans ((HW4.out.trans (hw5.mono HW4.out.size)).mono HW3.out.size)).mono HW2.out.size))
  have x0 := cell_below hall x0 (lt_of_cell x0)
  have x1 := cell_below hall x1 (lt_of_cell x1)
  have HZ5 := Lib.hid (HZ4.out.trans (hw5.mono HZ4.out.size))
  clear hall hw5
  go_wp2_with fail
  refine (toSystem_any _ l w5 (HV.out w5 HZ5.out) HC.out).mono ?_
  rintro e w6 ⟨yI, rfl, hyI, hw6⟩
  obtain ⟨AI, cI, BI, dI, rfl⟩ := hyI.form
  have x0 := cell_below hw6 x0 (lt_of_cell x0)
  have x1 := cell_below hw6 x1 (lt_of_cell x1)
  have HZ6 := Lib.hid (HZ5.out.trans (hw6.mono HZ5.out.size))
  have HYI := Lib.hid hyI
  have HW6 := Lib.hid hw6
  clear hyI hw6
  have hba : Below w6.heap.size w6 (w6.alloc (.cells #[.slice AI l.states.length cI, .slice BI l.steps.length dI] 32)) := (Below.refl _ _).alloc (Nat.le_refl _) _
  go_wp2_with fail
  refine (toIntS_own _ f0 _ ⟨_, _, rfl, max_of (by omega), HF0.out _ (HZ6.out.trans (hba.mono HZ6.out.size))⟩ (by omega)).mono ?_
  rintro e w7 ⟨aI0, rfl, haI0, hw7⟩
  obtain ⟨AI0, cI0, rfl, _⟩ := id haI0
  obtain ⟨bx, _⟩ := one_box hw7
  have q0 : w7.cell? ⟨w6.heap.size, 0, none⟩ = some (.slice AI l.states.length cI) := cell_of_row _ _ _ _ _ _ bx
  have q1 : w7.cell? ⟨w6.heap.size, 1, none⟩ = some (.slice BI l.steps.length dI) := cell_of_row _ _ _ _ _ _ bx
  have hstep := hba.trans (hw7.mono hba.size)
  clear bx
  have x0 := cell_below hstep x0 (lt_of_cell x0)
  have x1 := cell_below hstep x1 (lt_of_cell x1)
  have HYI := Lib.hid (HYI.out.below hstep (Nat.le_refl _))
  have HGI0 := Lib.hid haI0
  have HZ7 := Lib.hid (HZ6.out.trans (hstep.mono HZ6.out.size))
  have HW7 := Lib.hid hstep
  clear haI0 hw7 hstep
  go_wp2_with fail
  refine (toIntS_own _ f1 w7 ⟨_, _, rfl, max_of (by omega), HF1.out _ HZ7.out⟩ (by omega)).mono ?_
  rintro e w8 ⟨aI1, rfl, haI1, hw8⟩
  obtain ⟨AI1, cI1, rfl, _⟩ := id haI1
  have hstep := hw8
  have q0 := cell_below hw8 q0 (lt_of_cell q0)
  have q1 := cell_below hw8 q1 (lt_of_cell q1)
  have x0 := cell_below hstep x0 (lt_of_cell x0)
  have x1 := cell_below hstep x1 (lt_of_cell x1)
  have HYI := Lib.hid (HYI.out.below hstep (Nat.le_refl _))
  have HGI0 := Lib.hid (HGI0.out.below hstep (Nat.le_refl _))
  have HGI1 := Lib.hid haI1
  have HZ8 := Lib.hid (HZ7.out.trans (hstep.mono HZ7.out.size))
  have HW8 := Lib.hid hstep
  clear haI1 hw8 hstep
  go_wp2_with fail
  refine (implIsRanking_any _ _ _ l f0 f1 w8 HS.out (HYI.out.r HC.out) (by omega) (HGI0.out.ri (max_of (by omega))) (by omega) (HGI1.out.ri (max_of (by omega)))).mono ?_
  rintro e w9 ⟨rfl, hw9⟩
  have q0 := cell_below hw9 q0 (lt_of_cell q0)
  have q1 := cell_below hw9 q1 (lt_of_cell q1)
  have x0 := cell_below hw9 x0 (lt_of_cell x0)
  have x1 := cell_below hw9 x1 (lt_of_cell x1)
  have HZ9 := Lib.hid (HZ8.out.trans (hw9.mono HZ8.out.size))
  have HYI := Lib.hid ((HYI.out.below hw9 (Nat.le_refl _)).r HC.out)
  have HGI0 := Lib.hid (HGI0.out.below hw9 (Nat.le_refl _))
  have HGI1 := Lib.hid (HGI1.out.below hw9 (Nat.le_refl _))
  clear hw9
  generalize rankingB l f0 f1 = res0 at *
  have hne0 : (res0 != res0) = false := by simp
  generalize okGoals l f0 = res1 at *
  have hne1 : (res1 != res1) = false := by simp
  go_wp2_with fail
  go_region_held3 (fun w' => w'.cell? ⟨w6.heap.size, 0, none⟩ = some (.slice AI l.states.length cI) ∧ w'.cell? ⟨w6.heap.size, 1, none⟩ = some (.slice BI l.steps.length dI) ∧ w'.cell? ⟨w.heap.size, 0, none⟩ = some sv ∧ w'.cell? ⟨w.heap.size, 1, none⟩ = some tv)
    (first | go_keep | (have hk := hw10.trans (hw11.mono hw10.size); exact ⟨cell_below hk q0 (lt_of_cell q0), cell_below hk q1 (lt_of_cell q1), cell_below hk x0 (lt_of_cell x0), cell_below hk x1 (lt_of_cell x1)⟩) | exact ⟨cell_below hw10 q0 (lt_of_cell q0), cell_below hw10 q1 (lt_of_cell q1), cell_below hw10 x0 (lt_of_cell x0), cell_below hw10 x1 (lt_of_cell x1)⟩)
    (first
      | (go_at_call 11; refine (toSystem_any _ l _ (HV.out _ HZ9.out.drew) HC.out).mono ?_; rintro e w10 ⟨yK, rfl, hyK, hw10⟩)
      | (go_at_call 14; refine (eqSystem_any _ _ l l _ (HYI.out.below (show Below w9.heap.size w9 w10 from (Below.refl _ _).drew.trans hw10)) (hyK.r HC.out) HC.out HC.out).mono ?_; rintro e w11 ⟨rfl, hw11⟩))
  have hsl := sameSys_refl l
  simp only [hsl, Bool.not_true]
  have hx : Below w9.heap.size w9 w11 := (Below.refl _ w9).drew.trans (hw10.trans (hw11.mono hw10.size))
  have HZ11 := Lib.hid (HZ9.out.trans (hx.mono HZ9.out.size))
  have HGI0 := Lib.hid (HGI0.out.below hx (Nat.le_refl _))
  have HGI1 := Lib.hid (HGI1.out.below hx (Nat.le_refl _))
  clear hw10 hw11 hx hyK q0 q1 x0 x1
  go_wp2_with fail
  refine (toIntS_own _ f0 w11 ⟨_, _, rfl, max_of (by omega), HF0.out _ HZ11.out⟩ (by omega)).mono ?_
  rintro e w12 ⟨e0, rfl, he0, hw12⟩
  obtain ⟨E0, g0, rfl, _⟩ := id he0
  go_wp2_with fail
  refine (eqIntS_ri _ _ f0 f0 w12 ((HGI0.out.below hw12 (Nat.le_refl _)).ri (max_of (by omega))) (he0.ri (max_of (by omega))) (by omega) (by omega)).mono ?_
  rintro e w13 ⟨rfl, hw13⟩
  have hsa : sameI f0 f0 = true := sameI_eq.2 rfl
  simp only [hsa]
  have hx := hw12.trans (hw13.mono hw12.size)
  have HZ13 := Lib.hid (HZ11.out.trans (hx.mono HZ11.out.size))
  have HGI1 := Lib.hid (HGI1.out.below hx (Nat.le_refl _))
  clear hw12 hw13 hx he0 hsa
  go_wp2_with fail
  refine (toIntS_own _ f1 w13 ⟨_, _, rfl, max_of (by omega), HF1.out _ HZ13.out⟩ (by omega)).mono ?_
  rintro e w14 ⟨e1, rfl, he1, hw14⟩
  obtain ⟨E1, g1, rfl, _⟩ := id he1
  go_wp2_with fail
  refine (eqIntS_ri _ _ f1 f1 w14 ((HGI1.out.below hw14 (Nat.le_refl _)).ri (max_of (by omega))) (he1.ri (max_of (by omega))) (by omega) (by omega)).mono ?_
  rintro e w15 ⟨rfl, hw15⟩
  have hsa : sameI f1 f1 = true := sameI_eq.2 rfl
  simp only [hsa]
  have hx := hw14.trans (hw15.mono hw14.size)
  have HZ15 := Lib.hid (HZ13.out.trans (hx.mono HZ13.out.size))
  clear hw14 hw15 hx he1 hsa
  go_wp2_with fail
  go_ret
  exact ⟨rfl, HZ15.out⟩

end Go.Proofs.Ytlgdmafgbmnjdaa
