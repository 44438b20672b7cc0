/- The law that program and reference agree on ShortestWay, walked. -/
import Derived.Test.YtlgdmafgbmnjdaaProg
import Derived.Test.YtlgdmafgbmnjdaaSFarY
import Derived.Test.YtlgdmafgbmnjdaaSysMarkD
import Derived.Test.YtlgdmafgbmnjdaaSysEq
import Derived.Test.YtlgdmafgbmnjdaaSysToD
import Derived.Test.YtlgdmafgbmnjdaaKeptCell
import Derived.Deep.RegionHeld3
set_option linter.unusedVariables false
namespace Go.Proofs.Ytlgdmafgbmnjdaa
open Go.RowKit

set_option maxRecDepth 100000 in
set_option maxHeartbeats 16000000 in
theorem lawShortestWay (v : Value) (l : Sys) (p0 : Int) (A1 : Option Addr) (c1 : Nat) (f1 : List Int) (w : World) (hv : RSys w v l) (hf1 : Cells w A1 (ints f1)) :
    Calls Try.prog 4 #[v, .int .i64 p0, .slice A1 f1.length c1] w fun e w' => e = .returned (.bool true) ∧ Below w.heap.size w w' := by
  have hb1 : ∀ o, Below w.heap.size w (w.alloc o) := fun o => (Below.refl _ _).alloc (Nat.le_refl _) o
  have HSZ := Lib.hid (fun o => szSystem_any v l 1048576 (w.alloc o) (by omega) (by omega) (hv.below (hb1 o)))
  have HV := Lib.hid (show ∀ W, Below w.heap.size w W → RSys W v l from fun W hb => hv.below hb)
  have HF1 := Lib.hid (show ∀ W, Below w.heap.size w W → Cells W A1 (ints f1) from fun W hb => hf1.below hb)
  clear hf1
  obtain ⟨sv, tv, rfl, _, _⟩ := hv
  have HB1 := Lib.hid hb1
  clear hb1
  by_cases hl1 : (1048576 : Int) < (f1.length : Int)
  · go_enter Try.func4, Try.ntmps4
    go_wp2_with fail
    go_ret
    exact ⟨rfl, HB1.out _⟩
  have hsm1 : f1.length ≤ 16777216 := by omega
  go_enter Try.func4, Try.ntmps4
  go_wp2_with fail
  refine (HSZ.out _).mono ?_
  rintro e w1 ⟨r, rfl, hr, hw1⟩
  obtain ⟨bx, hlt1⟩ := one_box hw1
  have x0 : w1.cell? ⟨w.heap.size, 0, none⟩ = some sv := cell_of_row _ _ _ _ _ _ bx
  have x1 : w1.cell? ⟨w.heap.size, 1, none⟩ = some tv := cell_of_row _ _ _ _ _ _ bx
  have hz1 := (HB1.out _).trans (hw1.mono (HB1.out _).size)
  have HZ1 := Lib.hid hz1
  clear bx hw1 hz1
  rcases hr with rfl | ⟨hr0, hr1⟩
  · go_wp2_with fail
    go_ret
    exact ⟨rfl, HZ1.out⟩
  have hcost : costSys l ≤ 1048576 := by omega
  have HC := Lib.hid (show costSys l ≤ 16777216 by omega)
  have HS := Lib.hid (show SmallSys l from ⟨by unfold costSys costL at hcost; omega, by unfold costSys costL at hcost; omega⟩)
  clear hcost
  have hw0 : w.heap.size < w1.heap.size := lt_of_cell x0
  go_wp2_with fail
  refine (toSystem_any _ l w1 (HV.out w1 HZ1.out) HC.out).mono ?_
  rintro e w2 ⟨yS, rfl, hyS, hw2⟩
  have hsz2 := hw2.size
  have HZ2 := Lib.hid (HZ1.out.trans (hw2.mono HZ1.out.size))
  have HYS := Lib.hid hyS
  have HW2 := Lib.hid hw2
  clear hyS hw2
  go_wp2_with fail
  refine (toIntS_own _ f1 w2 ⟨_, _, rfl, max_of (by omega), HF1.out _ HZ2.out⟩ (by omega)).mono ?_
  rintro e w3 ⟨aS1, rfl, haS1, hw3⟩
  obtain ⟨AS1, cS1, rfl, _⟩ := id haS1
  have hstep := hw3
  have HYS := Lib.hid (HYS.out.below hstep (Nat.le_refl _))
  have HGS1 := Lib.hid haS1
  have hsz3 := hstep.size
  have HZ3 := Lib.hid (HZ2.out.trans (hstep.mono HZ2.out.size))
  have HW3 := Lib.hid hstep
  clear haS1 hw3 hstep
  go_wp2_with fail
  refine (specShortestWay_any _ _ l p0 f1 w3 HS.out (HYS.out.r HC.out) (by omega) (HGS1.out.ri (max_of (by omega)))).mono ?_
  rintro e w4 ⟨vS, rfl, hvS, hw4⟩
  obtain ⟨AS, cS, rfl, hvS⟩ := owns_form hvS
  have HOS := Lib.hid (show Own w4 (fun b => w3.heap.size ≤ b ∧ b < w4.heap.size) (.slice AS (shortL l p0 f1).length cS) (shortL l p0 f1).length ((shortL l p0 f1).flatMap tri) from (Own.of_owns hvS).mono (fun b hb => hvS.lt b hb))
  have hsz4 := hw4.size
  clear hvS
  have hall := (HW2.out.trans ((HW3.out.trans (hw4.mono HW3.out.size)).mono HW2.out.size))
  have x0 := cell_below hall x0 (lt_of_cell x0)
  have x1 := cell_below hall x1 (lt_of_cell x1)
  have HZ4 := Lib.hid (HZ3.out.trans (hw4.mono HZ3.out.size))
  clear hall hw4
  go_wp2_with fail
  refine (toSystem_any _ l w4 (HV.out w4 HZ4.out) HC.out).mono ?_
  rintro e w5 ⟨yI, rfl, hyI, hw5⟩
  obtain ⟨AI, cI, BI, dI, rfl⟩ := hyI.form
  have x0 := cell_below hw5 x0 (lt_of_cell x0)
  have x1 := cell_below hw5 x1 (lt_of_cell x1)
  have hsz5 := hw5.size
  have HZ5 := Lib.hid (HZ4.out.trans (hw5.mono HZ4.out.size))
  have HYI := Lib.hid hyI
  have HW5 := Lib.hid hw5
  clear hyI hw5
  have hba : Below w5.heap.size w5 (w5.alloc (.cells #[.slice AI l.states.length cI, .slice BI l.steps.length dI] 32)) := (Below.refl _ _).alloc (Nat.le_refl _) _
  go_wp2_with fail
  refine (toIntS_own _ f1 _ ⟨_, _, rfl, max_of (by omega), HF1.out _ (HZ5.out.trans (hba.mono HZ5.out.size))⟩ (by omega)).mono ?_
  rintro e w6 ⟨aI1, rfl, haI1, hw6⟩
  obtain ⟨AI1, cI1, rfl, _⟩ := id haI1
  obtain ⟨bx, _⟩ := one_box hw6
  have q0 : w6.cell? ⟨w5.heap.size, 0, none⟩ = some (.slice AI l.states.length cI) := cell_of_row _ _ _ _ _ _ bx
  have q1 : w6.cell? ⟨w5.heap.size, 1, none⟩ = some (.slice BI l.steps.length dI) := cell_of_row _ _ _ _ _ _ bx
  have hstep := hba.trans (hw6.mono hba.size)
  have hsA : (w5.alloc (.cells #[.slice AI l.states.length cI, .slice BI l.steps.length dI] 32)).heap.size = w5.heap.size + 1 := by simp
  rw [hsA] at haI1
  clear bx
  have x0 := cell_below hstep x0 (lt_of_cell x0)
  have x1 := cell_below hstep x1 (lt_of_cell x1)
  have HYI := Lib.hid (HYI.out.below hstep (Nat.le_refl _))
  have HGI1 := Lib.hid haI1
  have hsz6 := hstep.size
  have HZ6 := Lib.hid (HZ5.out.trans (hstep.mono HZ5.out.size))
  have HW6 := Lib.hid hstep
  clear haI1 hw6 hstep
  go_wp2_with fail
  refine (implShortestWay_any _ _ l p0 f1 w6 HS.out (HYI.out.r HC.out) (by omega) (HGI1.out.ri (max_of (by omega)))).mono ?_
  rintro e w7 ⟨vI, rfl, hvI, hw7⟩
  obtain ⟨AR, cR, rfl, hvI⟩ := owns_form hvI
  have HOR := Lib.hid (show Own w7 (fun b => w6.heap.size ≤ b ∧ b < w7.heap.size) (.slice AR (shortL l p0 f1).length cR) (shortL l p0 f1).length ((shortL l p0 f1).flatMap tri) from (Own.of_owns hvI).mono (fun b hb => hvI.lt b hb))
  have hsz7 := hw7.size
  clear hvI
  have HOS := Lib.hid (((HOS.out.below HW5.out (Nat.le_refl _)).below HW6.out (Nat.le_refl _)).below hw7 (Nat.le_refl _))
  have q0 := cell_below hw7 q0 (lt_of_cell q0)
  have q1 := cell_below hw7 q1 (lt_of_cell q1)
  have x0 := cell_below hw7 x0 (lt_of_cell x0)
  have x1 := cell_below hw7 x1 (lt_of_cell x1)
  have HZ7 := Lib.hid (HZ6.out.trans (hw7.mono HZ6.out.size))
  have HYO := Lib.hid (HYI.out.below hw7 (Nat.le_refl _))
  have HGI1 := Lib.hid (HGI1.out.below hw7 (Nat.le_refl _))
  clear hw7
  have hres : (shortL l p0 f1).length ≤ 16777216 := short_len l p0 f1
  have HIMP := Lib.hid (fun v z1 W (hv : RSys W v l) (hz1 : RI W z1 f1) => implShortestWay_any v z1 l p0 f1 W HS.out hv hsm1 hz1)
  have HSM := Lib.hid (show sameA3 (shortL l p0 f1) (shortL l p0 f1) = true from by simp [sameA3])
  generalize shortL l p0 f1 = res at *
  generalize okShort l p0 f1 = ok at *
  have hne : (ok != ok) = false := by simp
  go_wp2_with fail
  refine (eqIntA3S_any _ _ res res w7 (HOR.out.ra3 (max_of hres)) (HOS.out.ra3 (max_of hres)) hres hres).mono ?_
  rintro e w8 ⟨rfl, hw8⟩
  rw [HSM.out]
  have x0 := cell_below hw8 x0 (lt_of_cell x0)
  have x1 := cell_below hw8 x1 (lt_of_cell x1)
  have q0 := cell_below hw8 q0 (lt_of_cell q0)
  have q1 := cell_below hw8 q1 (lt_of_cell q1)
  have HOS := Lib.hid (HOS.out.below hw8 (Nat.le_refl _))
  have HOR := Lib.hid (HOR.out.below hw8 (Nat.le_refl _))
  have HYO := Lib.hid (HYO.out.below hw8 (Nat.le_refl _))
  have HGI1 := Lib.hid (HGI1.out.below hw8 (Nat.le_refl _))
  have HYI := Lib.hid (HYO.out.r HC.out)
  have hsz8 := hw8.size
  have HZ8 := Lib.hid (HZ7.out.trans (hw8.mono HZ7.out.size))
  clear hw8
  go_wp2_with fail
  go_region_held3 (fun w' => w'.cell? ⟨w5.heap.size, 0, none⟩ = some (.slice AI l.states.length cI) ∧ w'.cell? ⟨w5.heap.size, 1, none⟩ = some (.slice BI l.steps.length dI) ∧ w'.cell? ⟨w.heap.size, 0, none⟩ = some sv ∧ w'.cell? ⟨w.heap.size, 1, none⟩ = some tv)
    (first | go_keep | (have hk := hw9.trans (hw10.mono hw9.size); exact ⟨cell_below hk q0 (lt_of_cell q0), cell_below hk q1 (lt_of_cell q1), cell_below hk x0 (lt_of_cell x0), cell_below hk x1 (lt_of_cell x1)⟩) | exact ⟨cell_below hw9 q0 (lt_of_cell q0), cell_below hw9 q1 (lt_of_cell q1), cell_below hw9 x0 (lt_of_cell x0), cell_below hw9 x1 (lt_of_cell x1)⟩)
    (first
      | (go_at_call 11; refine (toSystem_any _ l _ (HV.out _ HZ8.out.drew) HC.out).mono ?_; rintro e w9 ⟨yK, rfl, hyK, hw9⟩)
      | (go_at_call 14; refine (eqSystem_any _ _ l l _ (HYI.out.below (show Below w8.heap.size w8 w9 from (Below.refl _ _).drew.trans hw9)) (hyK.r HC.out) HC.out HC.out).mono ?_; rintro e w10 ⟨rfl, hw10⟩))
  have hsl := sameSys_refl l
  simp only [hsl, Bool.not_true]
  have hx : Below w8.heap.size w8 w10 := (Below.refl _ w8).drew.trans (hw9.trans (hw10.mono hw9.size))
  have HZ10 := Lib.hid (HZ8.out.trans (hx.mono HZ8.out.size))
  have x0 := cell_below hx x0 (lt_of_cell x0)
  have x1 := cell_below hx x1 (lt_of_cell x1)
  have q0 := cell_below hx q0 (lt_of_cell q0)
  have q1 := cell_below hx q1 (lt_of_cell q1)
  have HOS := Lib.hid (HOS.out.below hx (Nat.le_refl _))
  have HOR := Lib.hid (HOR.out.below hx (Nat.le_refl _))
  have HYO := Lib.hid (HYO.out.below hx (Nat.le_refl _))
  have HGI1 := Lib.hid (HGI1.out.below hx (Nat.le_refl _))
  have hsz10 := hx.size
  clear hw9 hw10 hx hyK
  go_wp2_with fail
  refine (toIntS_own _ f1 w10 ⟨_, _, rfl, max_of (by omega), HF1.out _ HZ10.out⟩ (by omega)).mono ?_
  rintro e w11 ⟨e1, rfl, he1, hw11⟩
  obtain ⟨E1, g1, rfl, _⟩ := id he1
  go_wp2_with fail
  refine (eqIntS_ri _ _ f1 f1 w11 ((HGI1.out.below hw11 (Nat.le_refl _)).ri (max_of (by omega))) (he1.ri (max_of (by omega))) (by omega) (by omega)).mono ?_
  rintro e w12 ⟨rfl, hw12⟩
  have hsa : sameI f1 f1 = true := sameI_eq.2 rfl
  simp only [hsa]
  have hx := hw11.trans (hw12.mono hw11.size)
  have HZ12 := Lib.hid (HZ10.out.trans (hx.mono HZ10.out.size))
  have hsz12 := hx.size
  have x0 := cell_below hx x0 (lt_of_cell x0)
  have x1 := cell_below hx x1 (lt_of_cell x1)
  have q0 := cell_below hx q0 (lt_of_cell q0)
  have q1 := cell_below hx q1 (lt_of_cell q1)
  have HOS := Lib.hid (HOS.out.below hx (Nat.le_refl _))
  have HOR := Lib.hid (HOR.out.below hx (Nat.le_refl _))
  have HYO := Lib.hid (HYO.out.below hx (Nat.le_refl _))
  have HGI1 := Lib.hid (HGI1.out.below hx (Nat.le_refl _))
  clear hw11 hw12 hx he1 hsa
  have hrun := runSys_le HC.out
  have HRUN := Lib.hid hrun
  go_wp2_with fail
  refine (markSystem_any (fun b => w4.heap.size ≤ b ∧ b < w5.heap.size) _ l 1 w12 HC.out (by decide) (by decide) (fun b hb => by omega) HYO.out).mono ?_
  rintro e w13 ⟨rfl, hk13⟩
  have hsz13 := hk13.size
  have x0 := kept_cell hk13 x0 (by intro h; have := h.1; dsimp only at this; omega)
  have x1 := kept_cell hk13 x1 (by intro h; have := h.1; dsimp only at this; omega)
  have HGI1 := Lib.hid (HGI1.out.kept hk13 (fun b h1 h2 => by omega))
  have HOS := Lib.hid (HOS.out.kept hk13 (fun b h1 h2 => by omega))
  have HOR := Lib.hid (HOR.out.kept hk13 (fun b h1 h2 => by omega))
  have HZ13 := Lib.hid (HZ12.out.trans (hk13.below (B := w.heap.size) (fun b hb => by omega) (by omega)))
  clear hk13 q0 q1
  go_wp2_with fail
  refine (markIntS_any _ _ f1 _ w13 hsm1 (by omega) (by omega) HGI1.out).mono ?_
  rintro e w14 ⟨rfl, _, hk14⟩
  have hsz14 := hk14.size
  have x0 := kept_cell hk14 x0 (by intro h; have := h.1; dsimp only at this; omega)
  have x1 := kept_cell hk14 x1 (by intro h; have := h.1; dsimp only at this; omega)
  have HOS := Lib.hid (HOS.out.kept hk14 (fun b h1 h2 => by omega))
  have HOR := Lib.hid (HOR.out.kept hk14 (fun b h1 h2 => by omega))
  have HZ14 := Lib.hid (HZ13.out.trans (hk14.below (B := w.heap.size) (fun b hb => by omega) (by omega)))
  clear hk14
  have hkp : ¬ (1 + ((runSys l : Nat) : Int) + (f1.length : Int) < 0) := by omega
  go_wp2_with fail
  refine (eqIntA3S_any _ _ res res w14 (HOR.out.ra3 (max_of hres)) (HOS.out.ra3 (max_of hres)) hres hres).mono ?_
  rintro e w15 ⟨rfl, hw15⟩
  rw [HSM.out]
  have hsz15 := hw15.size
  have x0 := cell_below hw15 x0 (lt_of_cell x0)
  have x1 := cell_below hw15 x1 (lt_of_cell x1)
  have HOS := Lib.hid (HOS.out.below hw15 (Nat.le_refl _))
  have HOR := Lib.hid (HOR.out.below hw15 (Nat.le_refl _))
  have HZ15 := Lib.hid (HZ14.out.trans (hw15.mono HZ14.out.size))
  clear hw15
  go_wp2_with fail
  refine (markIntA3S_any _ _ res 1 w15 hres (by decide) (by decide) HOR.out).mono ?_
  rintro e w16 ⟨rfl, hu16, hk16⟩
  have hsz16 := hk16.size
  have x0 := kept_cell hk16 x0 (by intro h; have := h.1; dsimp only at this; omega)
  have x1 := kept_cell hk16 x1 (by intro h; have := h.1; dsimp only at this; omega)
  have HOS := Lib.hid (HOS.out.kept hk16 (fun b h1 h2 => by omega))
  have HZ16 := Lib.hid (HZ15.out.trans (hk16.below (B := w.heap.size) (fun b hb => by omega) (by omega)))
  have htl := trips_length 1 res.length
  have HCR := Lib.hid (show RA3 w16 (.slice AR res.length cR) (trips 1 res.length) from Own.ra3 (by rw [htl]; exact hu16) (by rw [htl]; exact max_of hres))
  clear hk16 hu16 htl
  go_wp2_with fail
  refine (heldIntA3S_any (.slice AR res.length cR) res.length 1 w16 hres (by decide) (by decide) HCR.out).mono ?_
  rintro e wq ⟨rfl, rfl⟩
  go_wp2_with fail
  refine (toSystem_any _ l w16 (HV.out w16 HZ16.out) HC.out).mono ?_
  rintro e w17 ⟨uK, rfl, huK, hw17⟩
  have HZ17 := Lib.hid (HZ16.out.trans (hw17.mono HZ16.out.size))
  go_wp2_with fail
  refine (toIntS_own _ f1 w17 ⟨_, _, rfl, max_of (by omega), HF1.out w17 HZ17.out⟩ (by omega)).mono ?_
  rintro e w18 ⟨vK1, rfl, hvK1, hw18⟩
  have huK := huK.below hw18 (Nat.le_refl _)
  have HZ18 := Lib.hid (HZ17.out.trans (hw18.mono HZ17.out.size))
  go_wp2_with fail
  refine (HIMP.out uK vK1 w18 (huK.r HC.out) (hvK1.ri (max_of hsm1))).mono ?_
  rintro e w19 ⟨vZ, rfl, hvZ, hw19⟩
  obtain ⟨AZ, cZ, rfl, hvZ⟩ := owns_form hvZ
  have hall := (hw17.trans ((hw18.trans (hw19.mono hw18.size)).mono hw17.size))
  have HCRZ := Lib.hid (HCR.out.below hall)
  have HOS := Lib.hid (HOS.out.below hall (Nat.le_refl _))
  have HZ19 := Lib.hid (HZ16.out.trans (hall.mono HZ16.out.size))
  have HRZ := Lib.hid ((Own.of_owns hvZ).ra3 (max_of hres))
  clear hw17 hw18 hw19 hall huK hvK1 x0 x1 hvZ
  go_wp2_with fail
  refine (eqIntA3S_any _ _ res res w19 HRZ.out (HOS.out.ra3 (max_of hres)) hres hres).mono ?_
  rintro e w20 ⟨rfl, hw20⟩
  rw [HSM.out]
  have HCR0 := Lib.hid (HCRZ.out.below hw20)
  have HZ20 := Lib.hid (HZ19.out.trans (hw20.mono HZ19.out.size))
  clear hw20
  go_wp2_with fail
  refine (heldIntA3S_any (.slice AR res.length cR) res.length 1 w20 hres (by decide) (by decide) HCR0.out).mono ?_
  rintro e wq ⟨rfl, rfl⟩
  go_wp2_with fail
  go_ret
  exact ⟨rfl, HZ20.out⟩

end Go.Proofs.Ytlgdmafgbmnjdaa
