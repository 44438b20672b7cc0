/- The law that program and reference agree on RuleWord, walked. -/
import Derived.Test.YteljknidcaoeoaaProg
import Derived.Test.YteljknidcaoeoaaSWord
import Derived.Test.YteljknidcaoeoaaSysMarkD
import Derived.Test.YteljknidcaoeoaaSysEq
import Derived.Test.YteljknidcaoeoaaSysToD
import Derived.Deep.RegionHeld3
set_option linter.unusedVariables false
namespace Go.Proofs.Yteljknidcaoeoaa
open Go.RowKit

theorem kept_cell {S : Nat → Prop} {w w' : World} {p : Addr} {u : Value} (hk : Kept S w w') (h : w.cell? p = some u) (hn : ¬ S p.block) : w'.cell? p = some u :=
  (World.cell?_of_block (hk.block _ (lt_of_cell h) hn)).trans h

set_option maxRecDepth 100000 in
set_option maxHeartbeats 8000000 in
theorem lawRuleWord (v : Value) (l : Sys) (u1 : Value) (t1 : List I3) (w : World) (hv : RSys w v l) (hu1 : RA3 w u1 t1) :
    Calls Try.prog 6 #[v, u1] w fun e w' => e = .returned (.bool true) ∧ Below w.heap.size w w' := by
  have hb1 : ∀ o, Below w.heap.size w (w.alloc o) := fun o => (Below.refl _ _).alloc (Nat.le_refl _) o
  have HSZ := Lib.hid (fun o => szSystem_any v l 1048576 (w.alloc o) (by omega) (by omega) (hv.below (hb1 o)))
  have HV := Lib.hid (show ∀ W, Below w.heap.size w W → RSys W v l from fun W hb => hv.below hb)
  have HU1 := Lib.hid (show ∀ W, Below w.heap.size w W → RA3 W u1 t1 from fun W hb => hu1.below hb)
  clear hu1
  obtain ⟨sv, tv, rfl, _, _⟩ := hv
  have HB1 := Lib.hid hb1
  clear hb1
  go_enter Try.func6, Try.ntmps6
  go_wp2_with fail
  refine (HSZ.out _).mono ?_
  rintro e w1 ⟨r, rfl, hr, hw1⟩
  obtain ⟨bx, hlt1⟩ := one_box hw1
  have x0 : w1.cell? ⟨w.heap.size, 0, none⟩ = some sv := cell_of_row _ _ _ _ _ _ bx
  have x1 : w1.cell? ⟨w.heap.size, 1, none⟩ = some tv := cell_of_row _ _ _ _ _ _ bx
  have hz1 := (HB1.out _).trans (hw1.mono (HB1.out _).size)
  have HZ1 := Lib.hid hz1
  clear bx hw1 hz1
  rcases hr with rfl | ⟨hr0, hr1⟩
  · go_wp2_with fail
    go_ret
    exact ⟨rfl, HZ1.out⟩
  have hcost : costSys l ≤ 1048576 := by omega
  have HC := Lib.hid (show costSys l ≤ 16777216 by omega)
  have HS := Lib.hid (show SmallSys l from ⟨by unfold costSys costL at hcost; omega, by unfold costSys costL at hcost; omega⟩)
  clear hcost
  go_wp2_with fail
  refine (szIntA3S_left u1 t1 r w1 (by omega) (by omega) (HU1.out _ HZ1.out)).mono ?_
  rintro e w2 ⟨r1, rfl, hq1, hw2⟩
  have x0 := cell_below hw2 x0 (lt_of_cell x0)
  have x1 := cell_below hw2 x1 (lt_of_cell x1)
  have HZ1 := Lib.hid (HZ1.out.trans (hw2.mono HZ1.out.size))
  clear hw2
  rcases hq1 with rfl | ⟨hq1, hs1⟩
  · go_wp2_with fail
    go_ret
    exact ⟨rfl, HZ1.out⟩
  have hsm1 : t1.length ≤ 16777216 := by omega
  go_wp2_with fail
  refine (toSystem_any _ l w2 (HV.out w2 HZ1.out) HC.out).mono ?_
  rintro e w3 ⟨yS, rfl, hyS, hw3⟩
  have HZ3 := Lib.hid (HZ1.out.trans (hw3.mono HZ1.out.size))
  have HYS := Lib.hid hyS
  have HW3 := Lib.hid hw3
  clear hyS hw3
  go_wp2_with fail
  refine (toIntA3S_own _ t1 w3 (HU1.out _ HZ3.out) hsm1).mono ?_
  rintro e w4 ⟨aS1, rfl, haS1, hw4⟩
  obtain ⟨AS1, cS1, rfl, _⟩ := id haS1
  have hstep := hw4
  have HYS := Lib.hid (HYS.out.below hstep (Nat.le_refl _))
  have HGS1 := Lib.hid haS1
  have HZ4 := Lib.hid (HZ3.out.trans (hstep.mono HZ3.out.size))
  have HW4 := Lib.hid hstep
  clear haS1 hw4 hstep
  go_wp2_with fail
  refine (specRuleWord_any _ _ l t1 w4 HS.out (HYS.out.r HC.out) hsm1 (HGS1.out.ra3 (max_of hsm1))).mono ?_
  rintro e w5 ⟨vS, rfl, hvS, hw5⟩
  have hwlt : w.heap.size < w4.heap.size := by have a := lt_of_cell x0; have b := HW3.out.size; have c := HW4.out.size; dsimp only at a; omega
  obtain ⟨AS, cS, rfl, hvS⟩ := owns_form hvS
  have HOS := Lib.hid (show Own w5 (fun b => w4.heap.size ≤ b ∧ b < w5.heap.size) (.slice AS (wordL l t1).length cS) (wordL l t1).length (ints (wordL l t1)) from (Own.of_owns hvS).mono (fun b hb => hvS.lt b hb))
  have hs5 := hw5.size
  clear hvS
  have hall := (HW3.out.trans ((HW4.out.trans (hw5.mono HW4.out.size)).mono HW3.out.size))
  have x0 := cell_below hall x0 (lt_of_cell x0)
  have x1 := cell_below hall x1 (lt_of_cell x1)
  have HZ5 := Lib.hid (HZ4.out.trans (hw5.mono HZ4.out.size))
  clear hall hw5
  go_wp2_with fail
  refine (toSystem_any _ l w5 (HV.out w5 HZ5.out) HC.out).mono ?_
  rintro e w6 ⟨yI, rfl, hyI, hw6⟩
  obtain ⟨AI, cI, BI, dI, rfl⟩ := hyI.form
  have x0 := cell_below hw6 x0 (lt_of_cell x0)
  have x1 := cell_below hw6 x1 (lt_of_cell x1)
  have HZ6 := Lib.hid (HZ5.out.trans (hw6.mono HZ5.out.size))
  have HYI := Lib.hid hyI
  have HW6 := Lib.hid hw6
  clear hyI hw6
  have hba : Below w6.heap.size w6 (w6.alloc (.cells #[.slice AI l.states.length cI, .slice BI l.steps.length dI] 32)) := (Below.refl _ _).alloc (Nat.le_refl _) _
  go_wp2_with fail
  refine (toIntA3S_own _ t1 _ (HU1.out _ (HZ6.out.trans (hba.mono HZ6.out.size))) hsm1).mono ?_
  rintro e w7 ⟨aI1, rfl, haI1, hw7⟩
  obtain ⟨AI1, cI1, rfl, _⟩ := id haI1
  obtain ⟨bx, _⟩ := one_box hw7
  have q0 : w7.cell? ⟨w6.heap.size, 0, none⟩ = some (.slice AI l.states.length cI) := cell_of_row _ _ _ _ _ _ bx
  have q1 : w7.cell? ⟨w6.heap.size, 1, none⟩ = some (.slice BI l.steps.length dI) := cell_of_row _ _ _ _ _ _ bx
  have hstep := hba.trans (hw7.mono hba.size)
  clear bx
  have x0 := cell_below hstep x0 (lt_of_cell x0)
  have x1 := cell_below hstep x1 (lt_of_cell x1)
  have HYI := Lib.hid (HYI.out.below hstep (Nat.le_refl _))
  have HGI1 := Lib.hid haI1
  have HZ7 := Lib.hid (HZ6.out.trans (hstep.mono HZ6.out.size))
  have HW7 := Lib.hid hstep
  clear haI1 hw7 hstep
  go_wp2_with fail
  refine (implRuleWord_any _ _ l t1 w7 HS.out (HYI.out.r HC.out) hsm1 (HGI1.out.ra3 (max_of hsm1))).mono ?_
  rintro e w8 ⟨vI, rfl, hvI, hw8⟩
  obtain ⟨AR, cR, rfl, hvI⟩ := owns_form hvI
  have HOR := Lib.hid (show Own w8 (fun b => w7.heap.size ≤ b ∧ b < w8.heap.size) (.slice AR (wordL l t1).length cR) (wordL l t1).length (ints (wordL l t1)) from (Own.of_owns hvI).mono (fun b hb => hvI.lt b hb))
  have HOS := Lib.hid (((HOS.out.below HW6.out (Nat.le_refl _)).below HW7.out (Nat.le_refl _)).below hw8 (Nat.le_refl _))
  have hs8 := hw8.size
  clear hvI
  have q0 := cell_below hw8 q0 (lt_of_cell q0)
  have q1 := cell_below hw8 q1 (lt_of_cell q1)
  have x0 := cell_below hw8 x0 (lt_of_cell x0)
  have x1 := cell_below hw8 x1 (lt_of_cell x1)
  have HZ8 := Lib.hid (HZ7.out.trans (hw8.mono HZ7.out.size))
  have HYO := Lib.hid (HYI.out.below hw8 (Nat.le_refl _))
  have HGI1 := Lib.hid (HGI1.out.below hw8 (Nat.le_refl _))
  clear hw8
  have hres : (wordL l t1).length ≤ 16777216 := by unfold wordL; split <;> simp <;> omega
  have HIMP := Lib.hid (fun v u W (hv : RSys W v l) (hu : RA3 W u t1) => implRuleWord_any v u l t1 W HS.out hv hsm1 hu)
  have HSM := Lib.hid (show sameI (wordL l t1) (wordL l t1) = true from sameI_eq.2 rfl)
  generalize wordL l t1 = res at *
  generalize okWord l t1 = ok at *
  have hne : (ok != ok) = false := by simp
  go_wp2_with fail
  refine (eqIntS_ri _ _ res res w8 (HOR.out.ri (max_of hres)) (HOS.out.ri (max_of hres)) hres hres).mono ?_
  rintro e w8b ⟨rfl, hw8b⟩
  rw [HSM.out]
  have q0 := cell_below hw8b q0 (lt_of_cell q0)
  have q1 := cell_below hw8b q1 (lt_of_cell q1)
  have x0 := cell_below hw8b x0 (lt_of_cell x0)
  have x1 := cell_below hw8b x1 (lt_of_cell x1)
  have HYO := Lib.hid (HYO.out.below hw8b (Nat.le_refl _))
  have HYI := Lib.hid (HYO.out.r HC.out)
  have HGI1 := Lib.hid (HGI1.out.below hw8b (Nat.le_refl _))
  have HOS := Lib.hid (HOS.out.below hw8b (Nat.le_refl _))
  have HOR := Lib.hid (HOR.out.below hw8b (Nat.le_refl _))
  have HZ8b := Lib.hid (HZ8.out.trans (hw8b.mono HZ8.out.size))
  have hs8b := hw8b.size
  clear hw8b
  go_wp2_with fail
  go_region_held3 (fun w' => w'.cell? ⟨w6.heap.size, 0, none⟩ = some (.slice AI l.states.length cI) ∧ w'.cell? ⟨w6.heap.size, 1, none⟩ = some (.slice BI l.steps.length dI) ∧ w'.cell? ⟨w.heap.size, 0, none⟩ = some sv ∧ w'.cell? ⟨w.heap.size, 1, none⟩ = some tv)
    (first | go_keep | (have hk := hw9.trans (hw10.mono hw9.size); exact ⟨cell_below hk q0 (lt_of_cell q0), cell_below hk q1 (lt_of_cell q1), cell_below hk x0 (lt_of_cell x0), cell_below hk x1 (lt_of_cell x1)⟩) | exact ⟨cell_below hw9 q0 (lt_of_cell q0), cell_below hw9 q1 (lt_of_cell q1), cell_below hw9 x0 (lt_of_cell x0), cell_below hw9 x1 (lt_of_cell x1)⟩)
    (first
      | (go_at_call 15; refine (toSystem_any _ l _ (HV.out _ HZ8b.out.drew) HC.out).mono ?_; rintro e w9 ⟨yK, rfl, hyK, hw9⟩)
      | (go_at_call 18; refine (eqSystem_any _ _ l l _ (HYI.out.below (show Below w8b.heap.size w8b w9 from (Below.refl _ _).drew.trans hw9)) (hyK.r HC.out) HC.out HC.out).mono ?_; rintro e w10 ⟨rfl, hw10⟩))
  have hsl := sameSys_refl l
  simp only [hsl, Bool.not_true]
  have hx : Below w8b.heap.size w8b w10 := (Below.refl _ w8b).drew.trans (hw9.trans (hw10.mono hw9.size))
  have HZ10 := Lib.hid (HZ8b.out.trans (hx.mono HZ8b.out.size))
  have HGI1 := Lib.hid (HGI1.out.below hx (Nat.le_refl _))
  have HYO := Lib.hid (HYO.out.below hx (Nat.le_refl _))
  have HOS := Lib.hid (HOS.out.below hx (Nat.le_refl _))
  have HOR := Lib.hid (HOR.out.below hx (Nat.le_refl _))
  have q0 := cell_below hx q0 (lt_of_cell q0)
  have q1 := cell_below hx q1 (lt_of_cell q1)
  have x0 := cell_below hx x0 (lt_of_cell x0)
  have x1 := cell_below hx x1 (lt_of_cell x1)
  have hs10 := hx.size
  clear hw9 hw10 hx hyK
  go_wp2_with fail
  refine (toIntA3S_own _ t1 w10 (HU1.out _ HZ10.out) hsm1).mono ?_
  rintro e w11 ⟨e1, rfl, he1, hw11⟩
  obtain ⟨E1, g1, rfl, _⟩ := id he1
  go_wp2_with fail
  refine (eqIntA3S_any _ _ t1 t1 w11 ((HGI1.out.below hw11 (Nat.le_refl _)).ra3 (max_of hsm1)) (he1.ra3 (max_of hsm1)) hsm1 hsm1).mono ?_
  rintro e w12 ⟨rfl, hw12⟩
  have hsa : sameA3 t1 t1 = true := by simp [sameA3]
  simp only [hsa]
  have hx := hw11.trans (hw12.mono hw11.size)
  have HZ12 := Lib.hid (HZ10.out.trans (hx.mono HZ10.out.size))
  have HGI1 := Lib.hid (HGI1.out.below hx (Nat.le_refl _))
  have HYO := Lib.hid (HYO.out.below hx (Nat.le_refl _))
  have HOS := Lib.hid (HOS.out.below hx (Nat.le_refl _))
  have HOR := Lib.hid (HOR.out.below hx (Nat.le_refl _))
  have q0 := cell_below hx q0 (lt_of_cell q0)
  have q1 := cell_below hx q1 (lt_of_cell q1)
  have x0 := cell_below hx x0 (lt_of_cell x0)
  have x1 := cell_below hx x1 (lt_of_cell x1)
  have hs12 := hx.size
  have hs56 := HW6.out.size
  have hs67 := HW7.out.size
  have hs15 := HZ4.out.size
  have hs1w : w.heap.size < w4.heap.size := hwlt
  have hsA : (w6.alloc (.cells #[.slice AI l.states.length cI, .slice BI l.steps.length dI] 32)).heap.size = w6.heap.size + 1 := by simp
  rw [hsA] at HGI1
  have hrun := runSys_le HC.out
  have HRUN := Lib.hid hrun
  clear hw11 hw12 hx he1 hsa
  go_wp2_with fail
  refine (markSystem_any (fun b => w5.heap.size ≤ b ∧ b < w6.heap.size) _ l 1 w12 HC.out (by decide) (by decide) (fun b hb => by omega) HYO.out).mono ?_
  rintro e w13 ⟨rfl, hk13⟩
  have hs13 := hk13.size
  have x0 := kept_cell hk13 x0 (by intro h; have := h.1; dsimp only at this; omega)
  have x1 := kept_cell hk13 x1 (by intro h; have := h.1; dsimp only at this; omega)
  have HGI1 := Lib.hid (HGI1.out.kept hk13 (fun b h1 h2 => by omega))
  have HOS := Lib.hid (HOS.out.kept hk13 (fun b h1 h2 => by omega))
  have HOR := Lib.hid (HOR.out.kept hk13 (fun b h1 h2 => by omega))
  have HZ13 := Lib.hid (HZ12.out.trans (hk13.below (B := w.heap.size) (fun b hb => by omega) (by omega)))
  clear hk13 q0 q1
  go_wp2_with fail
  refine (markIntA3S_any _ _ t1 _ w13 hsm1 (by omega) (by omega) HGI1.out).mono ?_
  rintro e w14 ⟨rfl, _, hk14⟩
  have hs14 := hk14.size
  have x0 := kept_cell hk14 x0 (by intro h; have := h.1; dsimp only at this; omega)
  have x1 := kept_cell hk14 x1 (by intro h; have := h.1; dsimp only at this; omega)
  have HOS := Lib.hid (HOS.out.kept hk14 (fun b h1 h2 => by omega))
  have HOR := Lib.hid (HOR.out.kept hk14 (fun b h1 h2 => by omega))
  have HZ14 := Lib.hid (HZ13.out.trans (hk14.below (B := w.heap.size) (fun b hb => by omega) (by omega)))
  clear hk14
  have hkp : ¬ (1 + ((runSys l : Nat) : Int) + 3 * (t1.length : Int) < 0) := by omega
  go_wp2_with fail
  refine (eqIntS_ri _ _ res res w14 (HOR.out.ri (max_of hres)) (HOS.out.ri (max_of hres)) hres hres).mono ?_
  rintro e w15 ⟨rfl, hw15⟩
  rw [HSM.out]
  have hs15' := hw15.size
  have x0 := cell_below hw15 x0 (lt_of_cell x0)
  have x1 := cell_below hw15 x1 (lt_of_cell x1)
  have HOS := Lib.hid (HOS.out.below hw15 (Nat.le_refl _))
  have HOR := Lib.hid (HOR.out.below hw15 (Nat.le_refl _))
  have HZ15 := Lib.hid (HZ14.out.trans (hw15.mono HZ14.out.size))
  clear hw15
  go_wp2_with fail
  refine (markIntS_any _ _ res 1 w15 hres (by decide) (by decide) HOR.out).mono ?_
  rintro e w16 ⟨rfl, hu16, hk16⟩
  have hs16 := hk16.size
  have x0 := kept_cell hk16 x0 (by intro h; have := h.1; dsimp only at this; omega)
  have x1 := kept_cell hk16 x1 (by intro h; have := h.1; dsimp only at this; omega)
  have HOS := Lib.hid (HOS.out.kept hk16 (fun b h1 h2 => by omega))
  have HZ16 := Lib.hid (HZ15.out.trans (hk16.below (B := w.heap.size) (fun b hb => by omega) (by omega)))
  obtain ⟨AR', cR', eR, hcR⟩ := hu16.cells
  cases eR
  have HCR := Lib.hid hcR
  clear hk16 hu16 hcR
  go_wp2_with fail
  refine (heldIntS_any AR cR res.length 1 w16 hres (by decide) (by decide) HCR.out).mono ?_
  rintro e w16' ⟨rfl, rfl⟩
  go_wp2_with fail
  refine (toSystem_any _ l w16 (HV.out w16 HZ16.out) HC.out).mono ?_
  rintro e w17 ⟨u17, rfl, hu17, hw17⟩
  have hz17 := HZ16.out.trans (hw17.mono HZ16.out.size)
  go_wp2_with fail
  refine (toIntA3S_own _ t1 w17 (HU1.out w17 hz17) hsm1).mono ?_
  rintro e w18 ⟨v18, rfl, hv18, hw18⟩
  have hu18 := hu17.below hw18 (Nat.le_refl _)
  go_wp2_with fail
  refine (HIMP.out u17 v18 w18 (hu18.r HC.out) (hv18.ra3 (max_of hsm1))).mono ?_
  rintro e w19 ⟨v19, rfl, hv19, hw19⟩
  obtain ⟨A19, c19, rfl, hv19⟩ := owns_form hv19
  have h69 := hw17.trans ((hw18.trans (hw19.mono hw18.size)).mono hw17.size)
  have HCR9 := Lib.hid (HCR.out.below h69)
  have HOS := Lib.hid (HOS.out.below h69 (Nat.le_refl _))
  have HZ19 := Lib.hid (HZ16.out.trans (h69.mono HZ16.out.size))
  have HR19 := Lib.hid ((Own.of_owns hv19).ri (max_of hres))
  clear hw17 hw18 hw19 h69 hu17 hu18 hv18 hz17 x0 x1 hv19
  go_wp2_with fail
  refine (eqIntS_ri _ _ res res w19 HR19.out (HOS.out.ri (max_of hres)) hres hres).mono ?_
  rintro e w20 ⟨rfl, hw20⟩
  rw [HSM.out]
  have HCR0 := Lib.hid (HCR9.out.below hw20)
  have HZ20 := Lib.hid (HZ19.out.trans (hw20.mono HZ19.out.size))
  clear hw20
  go_wp2_with fail
  refine (heldIntS_any AR cR res.length 1 w20 hres (by decide) (by decide) HCR0.out).mono ?_
  rintro e w20' ⟨rfl, rfl⟩
  go_wp2_with fail
  go_ret
  exact ⟨rfl, HZ20.out⟩

end Go.Proofs.Yteljknidcaoeoaa
