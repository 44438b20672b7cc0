/- The law that program and reference agree on CountWays, walked. -/
import Derived.Test.YteljknidcaoeoaaProg
import Derived.Test.YteljknidcaoeoaaSCountW
import Derived.Test.YteljknidcaoeoaaSysEq
import Derived.Test.YteljknidcaoeoaaSysToD
import Derived.Deep.RegionHeld3
set_option linter.unusedVariables false
namespace Go.Proofs.Yteljknidcaoeoaa
open Go.RowKit

set_option maxRecDepth 100000 in
set_option maxHeartbeats 8000000 in
theorem lawCountWays (v : Value) (l : Sys) (p0 : Int) (p1 : Int) (w : World) (hv : RSys w v l) :
    Calls Try.prog 4 #[v, .int .i64 p0, .int .i64 p1] w fun e w' => e = .returned (.bool true) ∧ Below w.heap.size w w' := by
  have hb1 : ∀ o, Below w.heap.size w (w.alloc o) := fun o => (Below.refl _ _).alloc (Nat.le_refl _) o
  have HSZ := Lib.hid (fun o => szSystem_any v l 1048576 (w.alloc o) (by omega) (by omega) (hv.below (hb1 o)))
  have HV := Lib.hid (show ∀ W, Below w.heap.size w W → RSys W v l from fun W hb => hv.below hb)
  obtain ⟨sv, tv, rfl, _, _⟩ := hv
  have HB1 := Lib.hid hb1
  clear hb1
  go_enter Try.func4, Try.ntmps4
  go_wp2_with fail
  refine (HSZ.out _).mono ?_
  rintro e w1 ⟨r, rfl, hr, hw1⟩
  obtain ⟨bx, hlt1⟩ := one_box hw1
  have x0 : w1.cell? ⟨w.heap.size, 0, none⟩ = some sv := cell_of_row _ _ _ _ _ _ bx
  have x1 : w1.cell? ⟨w.heap.size, 1, none⟩ = some tv := cell_of_row _ _ _ _ _ _ bx
  have hz1 := (HB1.out _).trans (hw1.mono (HB1.out _).size)
  have HZ1 := Lib.hid hz1
  clear bx hw1 hz1
  rcases hr with rfl | ⟨hr0, hr1⟩
  · go_wp2_with fail
    go_ret
    exact ⟨rfl, HZ1.out⟩
  have hcost : costSys l ≤ 1048576 := by omega
  have HC := Lib.hid (show costSys l ≤ 16777216 by omega)
  have HS := Lib.hid (show SmallSys l from ⟨by unfold costSys costL at hcost; omega, by unfold costSys costL at hcost; omega⟩)
  clear hcost
  go_wp2_with fail
  refine (toSystem_any _ l w1 (HV.out w1 HZ1.out) HC.out).mono ?_
  rintro e w2 ⟨yS, rfl, hyS, hw2⟩
  have HZ2 := Lib.hid (HZ1.out.trans (hw2.mono HZ1.out.size))
  have HYS := Lib.hid hyS
  have HW2 := Lib.hid hw2
  clear hyS hw2
  go_wp2_with fail
  refine (specCountWays_any _  l p0 p1 w2 HS.out (HYS.out.r HC.out) ).mono ?_
  rintro e w3 ⟨rfl, hw3⟩
  have hall := (HW2.out.trans (hw3.mono HW2.out.size))
  have x0 := cell_below hall x0 (lt_of_cell x0)
  have x1 := cell_below hall x1 (lt_of_cell x1)
  have HZ3 := Lib.hid (HZ2.out.trans (hw3.mono HZ2.out.size))
  clear hall hw3
  go_wp2_with fail
  refine (toSystem_any _ l w3 (HV.out w3 HZ3.out) HC.out).mono ?_
  rintro e w4 ⟨yI, rfl, hyI, hw4⟩
  obtain ⟨AI, cI, BI, dI, rfl⟩ := hyI.form
  have x0 := cell_below hw4 x0 (lt_of_cell x0)
  have x1 := cell_below hw4 x1 (lt_of_cell x1)
  have HZ4 := Lib.hid (HZ3.out.trans (hw4.mono HZ3.out.size))
  have HYI := Lib.hid hyI
  have HW4 := Lib.hid hw4
  clear hyI hw4
  have hba : Below w4.heap.size w4 (w4.alloc (.cells #[.slice AI l.states.length cI, .slice BI l.steps.length dI] 32)) := (Below.refl _ _).alloc (Nat.le_refl _) _
  have HYI := Lib.hid (HYI.out.below hba (Nat.le_refl _))
  have HZ4 := Lib.hid (HZ4.out.trans (hba.mono HZ4.out.size))
  go_wp2_with fail
  refine (implCountWays_any _  l p0 p1 _ HS.out (HYI.out.r HC.out) ).mono ?_
  rintro e w5 ⟨rfl, hw5⟩
  obtain ⟨bx, _⟩ := one_box hw5
  have q0 : w5.cell? ⟨w4.heap.size, 0, none⟩ = some (.slice AI l.states.length cI) := cell_of_row _ _ _ _ _ _ bx
  have q1 : w5.cell? ⟨w4.heap.size, 1, none⟩ = some (.slice BI l.steps.length dI) := cell_of_row _ _ _ _ _ _ bx
  have hx := hba.trans (hw5.mono hba.size)
  have x0 := cell_below hx x0 (lt_of_cell x0)
  have x1 := cell_below hx x1 (lt_of_cell x1)
  clear bx hx hba
  have HZ5 := Lib.hid (HZ4.out.trans (hw5.mono HZ4.out.size))
  have HYI := Lib.hid ((HYI.out.below hw5 (Nat.le_refl _)).r HC.out)
  clear hw5
  generalize countR l p0 p1 = res0 at *
  have hne0 : (res0 != res0) = false := by rw [bne_self_eq_false]
  generalize countOk l p0 p1 = res1 at *
  have hne1 : (res1 != res1) = false := by simp
  go_wp2_with fail
  go_region_held3 (fun w' => w'.cell? ⟨w4.heap.size, 0, none⟩ = some (.slice AI l.states.length cI) ∧ w'.cell? ⟨w4.heap.size, 1, none⟩ = some (.slice BI l.steps.length dI) ∧ w'.cell? ⟨w.heap.size, 0, none⟩ = some sv ∧ w'.cell? ⟨w.heap.size, 1, none⟩ = some tv)
    (first | go_keep | (have hk := hw6.trans (hw7.mono hw6.size); exact ⟨cell_below hk q0 (lt_of_cell q0), cell_below hk q1 (lt_of_cell q1), cell_below hk x0 (lt_of_cell x0), cell_below hk x1 (lt_of_cell x1)⟩) | exact ⟨cell_below hw6 q0 (lt_of_cell q0), cell_below hw6 q1 (lt_of_cell q1), cell_below hw6 x0 (lt_of_cell x0), cell_below hw6 x1 (lt_of_cell x1)⟩)
    (first
      | (go_at_call 15; refine (toSystem_any _ l _ (HV.out _ HZ5.out.drew) HC.out).mono ?_; rintro e w6 ⟨yK, rfl, hyK, hw6⟩)
      | (go_at_call 18; refine (eqSystem_any _ _ l l _ (HYI.out.below (show Below w5.heap.size w5 w6 from (Below.refl _ _).drew.trans hw6)) (hyK.r HC.out) HC.out HC.out).mono ?_; rintro e w7 ⟨rfl, hw7⟩))
  have hsl := sameSys_refl l
  simp only [hsl, Bool.not_true]
  have hx : Below w5.heap.size w5 w7 := (Below.refl _ w5).drew.trans (hw6.trans (hw7.mono hw6.size))
  have HZ7 := Lib.hid (HZ5.out.trans (hx.mono HZ5.out.size))
  clear hw6 hw7 hx hyK q0 q1 x0 x1
  go_wp2_with fail
  go_ret
  exact ⟨rfl, HZ7.out⟩

end Go.Proofs.Yteljknidcaoeoaa
