/- The law that program and reference agree on IsWay, walked. -/
import Derived.Test.YteljknidcaoeoaaProg
import Derived.Test.YteljknidcaoeoaaSWayB
import Derived.Test.YteljknidcaoeoaaSysEq
import Derived.Test.YteljknidcaoeoaaSysToD
import Derived.Deep.RegionHeld3
set_option linter.unusedVariables false
namespace Go.Proofs.Yteljknidcaoeoaa
open Go.RowKit

set_option maxRecDepth 100000 in
set_option maxHeartbeats 8000000 in
theorem lawIsWay (v : Value) (l : Sys) (p0 : Int) (u1 : Value) (t1 : List I3) (w : World) (hv : RSys w v l) (hu1 : RA3 w u1 t1) :
    Calls Try.prog 3 #[v, .int .i64 p0, u1] w fun e w' => e = .returned (.bool true) ∧ Below w.heap.size w w' := by
  have hb1 : ∀ o, Below w.heap.size w (w.alloc o) := fun o => (Below.refl _ _).alloc (Nat.le_refl _) o
  have HSZ := Lib.hid (fun o => szSystem_any v l 1048576 (w.alloc o) (by omega) (by omega) (hv.below (hb1 o)))
  have HV := Lib.hid (show ∀ W, Below w.heap.size w W → RSys W v l from fun W hb => hv.below hb)
  have HU1 := Lib.hid (show ∀ W, Below w.heap.size w W → RA3 W u1 t1 from fun W hb => hu1.below hb)
  clear hu1
  obtain ⟨sv, tv, rfl, _, _⟩ := hv
  have HB1 := Lib.hid hb1
  clear hb1
  go_enter Try.func3, Try.ntmps3
  go_wp2_with fail
  refine (HSZ.out _).mono ?_
  rintro e w1 ⟨r, rfl, hr, hw1⟩
  obtain ⟨bx, hlt1⟩ := one_box hw1
  have x0 : w1.cell? ⟨w.heap.size, 0, none⟩ = some sv := cell_of_row _ _ _ _ _ _ bx
  have x1 : w1.cell? ⟨w.heap.size, 1, none⟩ = some tv := cell_of_row _ _ _ _ _ _ bx
  have hz1 := (HB1.out _).trans (hw1.mono (HB1.out _).size)
  have HZ1 := Lib.hid hz1
  clear bx hw1 hz1
  rcases hr with rfl | ⟨hr0, hr1⟩
  · go_wp2_with fail
    go_ret
    exact ⟨rfl, HZ1.out⟩
  have hcost : costSys l ≤ 1048576 := by omega
  have HC := Lib.hid (show costSys l ≤ 16777216 by omega)
  have HS := Lib.hid (show SmallSys l from ⟨by unfold costSys costL at hcost; omega, by unfold costSys costL at hcost; omega⟩)
  clear hcost
  go_wp2_with fail
  refine (szIntA3S_left u1 t1 r w1 (by omega) (by omega) (HU1.out _ HZ1.out)).mono ?_
  rintro e w2 ⟨r1, rfl, hq1, hw2⟩
  have x0 := cell_below hw2 x0 (lt_of_cell x0)
  have x1 := cell_below hw2 x1 (lt_of_cell x1)
  have HZ1 := Lib.hid (HZ1.out.trans (hw2.mono HZ1.out.size))
  clear hw2
  rcases hq1 with rfl | ⟨hq1, hs1⟩
  · go_wp2_with fail
    go_ret
    exact ⟨rfl, HZ1.out⟩
  have hsm1 : t1.length ≤ 16777216 := by omega
  go_wp2_with fail
  refine (toSystem_any _ l w2 (HV.out w2 HZ1.out) HC.out).mono ?_
  rintro e w3 ⟨yS, rfl, hyS, hw3⟩
  have HZ3 := Lib.hid (HZ1.out.trans (hw3.mono HZ1.out.size))
  have HYS := Lib.hid hyS
  have HW3 := Lib.hid hw3
  clear hyS hw3
  go_wp2_with fail
  refine (toIntA3S_own _ t1 w3 (HU1.out _ HZ3.out) hsm1).mono ?_
  rintro e w4 ⟨aS1, rfl, haS1, hw4⟩
  obtain ⟨AS1, cS1, rfl, _⟩ := id haS1
  have hstep := hw4
  have HYS := Lib.hid (HYS.out.below hstep (Nat.le_refl _))
  have HGS1 := Lib.hid haS1
  have HZ4 := Lib.hid (HZ3.out.trans (hstep.mono HZ3.out.size))
  have HW4 := Lib.hid hstep
  clear haS1 hw4 hstep
  go_wp2_with fail
  refine (specIsWay_any _ _ l p0 t1 w4 HS.out (HYS.out.r HC.out) hsm1 (HGS1.out.ra3 (max_of hsm1))).mono ?_
  rintro e w5 ⟨rfl, hw5⟩
  have hall := (HW3.out.trans ((HW4.out.trans (hw5.mono HW4.out.size)).mono HW3.out.size))
  have x0 := cell_below hall x0 (lt_of_cell x0)
  have x1 := cell_below hall x1 (lt_of_cell x1)
  have HZ5 := Lib.hid (HZ4.out.trans (hw5.mono HZ4.out.size))
  clear hall hw5
  go_wp2_with fail
  refine (toSystem_any _ l w5 (HV.out w5 HZ5.out) HC.out).mono ?_
  rintro e w6 ⟨yI, rfl, hyI, hw6⟩
  obtain ⟨AI, cI, BI, dI, rfl⟩ := hyI.form
  have x0 := cell_below hw6 x0 (lt_of_cell x0)
  have x1 := cell_below hw6 x1 (lt_of_cell x1)
  have HZ6 := Lib.hid (HZ5.out.trans (hw6.mono HZ5.out.size))
  have HYI := Lib.hid hyI
  have HW6 := Lib.hid hw6
  clear hyI hw6
  have hba : Below w6.heap.size w6 (w6.alloc (.cells #[.slice AI l.states.length cI, .slice BI l.steps.length dI] 32)) := (Below.refl _ _).alloc (Nat.le_refl _) _
  go_wp2_with fail
  refine (toIntA3S_own _ t1 _ (HU1.out _ (HZ6.out.trans (hba.mono HZ6.out.size))) hsm1).mono ?_
  rintro e w7 ⟨aI1, rfl, haI1, hw7⟩
  obtain ⟨AI1, cI1, rfl, _⟩ := id haI1
  obtain ⟨bx, _⟩ := one_box hw7
  have q0 : w7.cell? ⟨w6.heap.size, 0, none⟩ = some (.slice AI l.states.length cI) := cell_of_row _ _ _ _ _ _ bx
  have q1 : w7.cell? ⟨w6.heap.size, 1, none⟩ = some (.slice BI l.steps.length dI) := cell_of_row _ _ _ _ _ _ bx
  have hstep := hba.trans (hw7.mono hba.size)
  clear bx
  have x0 := cell_below hstep x0 (lt_of_cell x0)
  have x1 := cell_below hstep x1 (lt_of_cell x1)
  have HYI := Lib.hid (HYI.out.below hstep (Nat.le_refl _))
  have HGI1 := Lib.hid haI1
  have HZ7 := Lib.hid (HZ6.out.trans (hstep.mono HZ6.out.size))
  have HW7 := Lib.hid hstep
  clear haI1 hw7 hstep
  go_wp2_with fail
  refine (implIsWay_any _ _ l p0 t1 w7 HS.out (HYI.out.r HC.out) hsm1 (HGI1.out.ra3 (max_of hsm1))).mono ?_
  rintro e w8 ⟨rfl, hw8⟩
  have q0 := cell_below hw8 q0 (lt_of_cell q0)
  have q1 := cell_below hw8 q1 (lt_of_cell q1)
  have x0 := cell_below hw8 x0 (lt_of_cell x0)
  have x1 := cell_below hw8 x1 (lt_of_cell x1)
  have HZ8 := Lib.hid (HZ7.out.trans (hw8.mono HZ7.out.size))
  have HYI := Lib.hid ((HYI.out.below hw8 (Nat.le_refl _)).r HC.out)
  have HGI1 := Lib.hid (HGI1.out.below hw8 (Nat.le_refl _))
  clear hw8
  generalize (okState l p0 && wayB l.steps p0 t1) = res0 at *
  have hne0 : (res0 != res0) = false := by simp
  generalize okState l p0 = res1 at *
  have hne1 : (res1 != res1) = false := by simp
  go_wp2_with fail
  go_region_held3 (fun w' => w'.cell? ⟨w6.heap.size, 0, none⟩ = some (.slice AI l.states.length cI) ∧ w'.cell? ⟨w6.heap.size, 1, none⟩ = some (.slice BI l.steps.length dI) ∧ w'.cell? ⟨w.heap.size, 0, none⟩ = some sv ∧ w'.cell? ⟨w.heap.size, 1, none⟩ = some tv)
    (first | go_keep | (have hk := hw9.trans (hw10.mono hw9.size); exact ⟨cell_below hk q0 (lt_of_cell q0), cell_below hk q1 (lt_of_cell q1), cell_below hk x0 (lt_of_cell x0), cell_below hk x1 (lt_of_cell x1)⟩) | exact ⟨cell_below hw9 q0 (lt_of_cell q0), cell_below hw9 q1 (lt_of_cell q1), cell_below hw9 x0 (lt_of_cell x0), cell_below hw9 x1 (lt_of_cell x1)⟩)
    (first
      | (go_at_call 15; refine (toSystem_any _ l _ (HV.out _ HZ8.out.drew) HC.out).mono ?_; rintro e w9 ⟨yK, rfl, hyK, hw9⟩)
      | (go_at_call 18; refine (eqSystem_any _ _ l l _ (HYI.out.below (show Below w8.heap.size w8 w9 from (Below.refl _ _).drew.trans hw9)) (hyK.r HC.out) HC.out HC.out).mono ?_; rintro e w10 ⟨rfl, hw10⟩))
  have hsl := sameSys_refl l
  simp only [hsl, Bool.not_true]
  have hx : Below w8.heap.size w8 w10 := (Below.refl _ w8).drew.trans (hw9.trans (hw10.mono hw9.size))
  have HZ10 := Lib.hid (HZ8.out.trans (hx.mono HZ8.out.size))
  have HGI1 := Lib.hid (HGI1.out.below hx (Nat.le_refl _))
  clear hw9 hw10 hx hyK q0 q1 x0 x1
  go_wp2_with fail
  refine (toIntA3S_own _ t1 w10 (HU1.out _ HZ10.out) hsm1).mono ?_
  rintro e w11 ⟨e1, rfl, he1, hw11⟩
  obtain ⟨E1, g1, rfl, _⟩ := id he1
  go_wp2_with fail
  refine (eqIntA3S_any _ _ t1 t1 w11 ((HGI1.out.below hw11 (Nat.le_refl _)).ra3 (max_of hsm1)) (he1.ra3 (max_of hsm1)) hsm1 hsm1).mono ?_
  rintro e w12 ⟨rfl, hw12⟩
  have hsa : sameA3 t1 t1 = true := by simp [sameA3]
  simp only [hsa]
  have hx := hw11.trans (hw12.mono hw11.size)
  have HZ12 := Lib.hid (HZ10.out.trans (hx.mono HZ10.out.size))
  clear hw11 hw12 hx he1 hsa
  go_wp2_with fail
  go_ret
  exact ⟨rfl, HZ12.out⟩

end Go.Proofs.Yteljknidcaoeoaa
