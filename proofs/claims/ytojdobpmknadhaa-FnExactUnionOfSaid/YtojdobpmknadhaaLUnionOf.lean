/- The law that program and reference agree on UnionOf, walked. -/
import Derived.Test.YtojdobpmknadhaaProg
import Derived.Test.YtojdobpmknadhaaUnionI
import Derived.Test.YtojdobpmknadhaaUniH
import Derived.Test.YtojdobpmknadhaaUniZ
import Derived.Test.YtojdobpmknadhaaUniB
import Derived.Test.YtojdobpmknadhaaHas
import Derived.Test.YtojdobpmknadhaaMark
import Derived.Deep.RegionHeld3
set_option linter.unusedVariables false
namespace Go.Proofs.Ytojdobpmknadhaa
open Go.RowKit

set_option maxRecDepth 100000 in
set_option maxHeartbeats 16000000 in
theorem lawUnionOf (v u : Value) (a b : Lab) (w : World) (hv : RLab w v a) (hu : RLab w u b) :
    Calls Try.prog 3 #[v, u] w fun e w' => e = .returned (.bool true) ∧ Below w.heap.size w w' := by
  have HV := Lib.hid (show ∀ W, Below w.heap.size w W → RLab W v a from fun W hb => hv.below hb)
  have HU := Lib.hid (show ∀ W, Below w.heap.size w W → RLab W u b from fun W hb => hu.below hb)
  obtain ⟨sv, tv, rfl, _, _⟩ := hv
  obtain ⟨su, tu, rfl, _, _⟩ := hu
  obtain ⟨W0, hW0⟩ : ∃ W0, W0 = (w.alloc (.cells #[sv, tv] 25)).alloc (.cells #[su, tu] 25) := ⟨_, rfl⟩
  have hz0 : Below w.heap.size w W0 := by rw [hW0]; exact ((Below.refl _ _).alloc (Nat.le_refl _) _).alloc (by simp) _
  have hs0 : W0.heap.size = w.heap.size + 1 + 1 := by rw [hW0]; simp
  have bx0 : W0.heap[w.heap.size]? = some (.cells #[sv, tv] 25) := by rw [hW0]; exact (heap_alloc_old _ _ (by simp)).trans (heap_alloc_new _ _)
  have bx1 : W0.heap[w.heap.size + 1]? = some (.cells #[su, tu] 25) := by rw [hW0]; exact heap_alloc2_new _ _ _
  have HX := Lib.hid (show ∀ W, Below W0.heap.size W0 W → (W.cell? ⟨w.heap.size, 0, none⟩ = some sv ∧ W.cell? ⟨w.heap.size, 1, none⟩ = some tv) ∧ W.cell? ⟨w.heap.size + 1, 0, none⟩ = some su ∧ W.cell? ⟨w.heap.size + 1, 1, none⟩ = some tu from fun W hW => by
    obtain ⟨a0, a1, _, _⟩ := box_cells ((hW.block _ (by omega)).trans bx0)
    obtain ⟨b0, b1, _, _⟩ := box_cells ((hW.block _ (by omega)).trans bx1)
    exact ⟨⟨a0, a1⟩, b0, b1⟩)
  have HSA := Lib.hid (szLabelled_any _ a 1048576 W0 (by omega) (by omega) (HV.out W0 hz0))
  have HSB := Lib.hid (fun W left h0 h1 (hW : Below W0.heap.size W0 W) => szLabelled_any _ b left W h0 h1 (HU.out W (hz0.trans (hW.mono hz0.size))))
  have HW0 := Lib.hid hW0
  clear bx0 bx1
  go_enter Try.func3, Try.ntmps3
  go_wp2_with fail
  rw [← hW0]
  clear hW0
  refine HSA.out.mono ?_
  rintro e w1 ⟨rfl, hw1⟩
  have HZ1 := Lib.hid (show Below W0.heap.size W0 w1 from hw1)
  have HZW1 := Lib.hid (hz0.trans (hw1.mono hz0.size))
  obtain ⟨⟨p0, p1⟩, p2, p3⟩ := HX.out w1 hw1
  clear hw1
  by_cases hna : szLab a 1048576 < 0
  · go_wp2_with fail
    go_ret
    exact ⟨rfl, HZW1.out⟩
  have hza := sizeU_small (by omega) (by omega) hna
  obtain ⟨hsa, hna0, hna1⟩ := szLab_small (by omega) (by omega) hna
  go_wp2_with fail
  refine (HSB.out w1 _ hna0 hna1 HZ1.out).mono ?_
  rintro e w2 ⟨rfl, hw2⟩
  have hz2 := HZ1.out.trans (hw2.mono HZ1.out.size)
  have HZ2 := Lib.hid hz2
  have HZW2 := Lib.hid (hz0.trans (hz2.mono hz0.size))
  clear p0 p1 p2 p3
  obtain ⟨⟨p0, p1⟩, p2, p3⟩ := HX.out w2 hz2
  clear hw2 hz2
  by_cases hnb : szLab b (szLab a 1048576) < 0
  · go_wp2_with fail
    go_ret
    exact ⟨rfl, HZW2.out⟩
  have hzb := sizeU_small hna0 hna1 hnb
  obtain ⟨hsb, hnb0, _⟩ := szLab_small hna0 hna1 hnb
  go_wp2_with fail
  refine wp_region_inv (by kernel_rfl) (fun L act W => ∃ v6 v7 v27 v28 v29 v30 v31 v32 v33 v34 : Value, act = ⟨#[Value.agg #[sv, tv], Value.agg #[su, tu], Value.pointer (some ⟨w.heap.size, 0, none⟩), Value.pointer (some ⟨w.heap.size + 1, 0, none⟩), Value.bool false, Value.int IntKind.i64 (szLab b (szLab a 1048576)), v6, v7, undef, undef, undef, undef, undef, undef, undef, undef, undef, Value.agg #[sv, tv], Value.int IntKind.i64 1048576, Value.int IntKind.i64 (szLab a 1048576), Value.int IntKind.i64 (szLab a 1048576), Value.bool (decide (szLab a 1048576 < 0)), Value.agg #[su, tu], Value.int IntKind.i64 (szLab a 1048576), Value.int IntKind.i64 (szLab b (szLab a 1048576)), Value.int IntKind.i64 (szLab b (szLab a 1048576)), Value.bool (decide (szLab b (szLab a 1048576) < 0)), v27, v28, v29, v30, v31, v32, v33, v34, undef, undef, undef, undef, undef, undef, undef, undef, undef, undef, undef, undef, undef, undef, undef, undef, undef, undef, undef, undef, undef, undef, undef, undef, undef, undef, undef, undef, undef, undef, undef, undef, undef, undef, undef, undef, undef, undef, undef, undef, undef, undef, undef, undef, undef, undef, undef, undef, undef, undef, undef, undef, undef, undef, undef, undef, undef, undef, undef, undef, undef, undef, undef, undef, undef, undef, undef, undef, undef, undef, undef, undef, undef, undef, undef, undef, undef, undef, undef, undef, undef, undef, undef, undef], []⟩ ∧ UH w2 (.agg #[sv, tv]) (.agg #[su, tu]) a b (unionR a b) (okU a b) L v6 v7 v27 v28 v29 v30 v31 v32 v33 v34 W) ?h0 ?step ?fin
  case h0 => exact ⟨_, _, _, _, _, _, _, _, _, _, rfl, { z := below_drewN' (Below.refl _ _) 1, f0 := fun x => absurd x Bool.false_ne_true, f1 := fun x => absurd x Bool.false_ne_true, f2 := fun x => absurd x Bool.false_ne_true, f3 := fun x => absurd x Bool.false_ne_true, f4 := fun x => absurd x Bool.false_ne_true, f5 := fun x => absurd x Bool.false_ne_true, f6 := fun x => absurd x Bool.false_ne_true, f7 := fun x => absurd x Bool.false_ne_true, f8 := fun x => absurd x Bool.false_ne_true, f9 := fun x => absurd x Bool.false_ne_true, f10 := fun x => absurd x Bool.false_ne_true, e5 := fun x => absurd x Bool.false_ne_true, e6 := fun x => absurd x Bool.false_ne_true, e7 := fun x => absurd x Bool.false_ne_true, e9 := fun x => absurd x Bool.false_ne_true }⟩
  case step =>
    intro L act W i o hJ hL ho hd K' hK
    obtain ⟨v6, v7, v27, v28, v29, v30, v31, v32, v33, v34, rfl, hf⟩ := hJ
    match i, ho with
    | 0, ho =>
      simp only [List.getElem?_toArray, List.getElem?_cons_zero, List.getElem?_cons_succ, Option.some.injEq] at ho
      subst ho
      simp [Region.binds] at hd
      obtain ⟨⟨p0, p1⟩, p2, p3⟩ := HX.out W (HZ2.out.trans (hf.z.mono HZ2.out.size))
      go_simp
      exact hK _ _ ⟨_, _, _, _, _, _, _, _, _, _, rfl, hf.s0 hL rfl⟩
    | 1, ho =>
      simp only [List.getElem?_toArray, List.getElem?_cons_zero, List.getElem?_cons_succ, Option.some.injEq] at ho
      subst ho
      simp [Region.binds] at hd
      obtain rfl := hf.f0 (by simp [hd])
      go_simp
      go_at_call 9
      refine (toLabelled_any _ a W (HV.out W (HZW2.out.trans (hf.z.mono HZW2.out.size))) hsa).mono ?_
      rintro e w3 ⟨r, rfl, hr, hb3⟩
      go_simp
      exact hK _ _ ⟨_, _, _, _, _, _, _, _, _, _, rfl, (hf.below hb3).s1 hL (hr.rlab hsa)⟩
    | 2, ho =>
      simp only [List.getElem?_toArray, List.getElem?_cons_zero, List.getElem?_cons_succ, Option.some.injEq] at ho
      subst ho
      simp [Region.binds] at hd
      obtain ⟨⟨p0, p1⟩, p2, p3⟩ := HX.out W (HZ2.out.trans (hf.z.mono HZ2.out.size))
      go_simp
      exact hK _ _ ⟨_, _, _, _, _, _, _, _, _, _, rfl, hf.s2 hL rfl⟩
    | 3, ho =>
      simp only [List.getElem?_toArray, List.getElem?_cons_zero, List.getElem?_cons_succ, Option.some.injEq] at ho
      subst ho
      simp [Region.binds] at hd
      obtain rfl := hf.f2 (by simp [hd])
      go_simp
      go_at_call 9
      refine (toLabelled_any _ b W (HU.out W (HZW2.out.trans (hf.z.mono HZW2.out.size))) hsb).mono ?_
      rintro e w3 ⟨r, rfl, hr, hb3⟩
      go_simp
      exact hK _ _ ⟨_, _, _, _, _, _, _, _, _, _, rfl, (hf.below hb3).s3 hL (hr.rlab hsb)⟩
    | 4, ho =>
      simp only [List.getElem?_toArray, List.getElem?_cons_zero, List.getElem?_cons_succ, Option.some.injEq] at ho
      subst ho
      simp [Region.binds] at hd
      have n9 : L 9 = false := by
        cases e : L 9
        · rfl
        · exact absurd (hf.e5 (hf.e6 (hf.e9 e).2)) (by simp [hL])
      go_simp
      go_at_call 8
      refine (specUnionOf_any _ _ a b W hsa hsb (hf.f1 (by simp [hd]) n9) (hf.f3 (by simp [hd]) n9)).mono ?_
      rintro e w3 ⟨r, rfl, hr, hb3⟩
      have hsW := hf.z.size
      go_simp
      exact hK _ _ ⟨_, _, _, _, _, _, _, _, _, _, rfl, (hf.below hb3).s4 hL ⟨r, rfl, hr.mono (fun q hq => ⟨by omega, hq.2, fun h8 e8 => by obtain ⟨p, e9, _, hp, _⟩ := hf.f8 h8; rw [e9] at e8; injection e8 with e8; injection e8 with e8; injection e8 with e8; omega⟩)⟩⟩
    | 5, ho =>
      simp only [List.getElem?_toArray, List.getElem?_cons_zero, List.getElem?_cons_succ, Option.some.injEq] at ho
      subst ho
      simp [Region.binds] at hd
      obtain ⟨r, rfl, _⟩ := hf.f4 (by simp [hd])
      go_simp
      exact hK _ _ ⟨_, _, _, _, _, _, _, _, _, _, rfl, hf.s5 hL ⟨rfl, by simp [hd]⟩⟩
    | 6, ho =>
      simp only [List.getElem?_toArray, List.getElem?_cons_zero, List.getElem?_cons_succ, Option.some.injEq] at ho
      subst ho
      simp [Region.binds] at hd
      obtain ⟨r, rfl, _⟩ := hf.f4 (hf.e5 (by simp [hd]))
      obtain rfl := hf.f5 (by simp [hd])
      go_simp
      exact hK _ _ ⟨_, _, _, _, _, _, _, _, _, _, rfl, hf.s6 hL ⟨rfl, by simp [hd]⟩⟩
    | 7, ho =>
      simp only [List.getElem?_toArray, List.getElem?_cons_zero, List.getElem?_cons_succ, Option.some.injEq] at ho
      subst ho
      simp [Region.binds] at hd
      obtain ⟨r, rfl, _⟩ := hf.f4 (hf.e5 (by simp [hd]))
      obtain rfl := hf.f5 (by simp [hd])
      go_simp
      exact hK _ _ ⟨_, _, _, _, _, _, _, _, _, _, rfl, hf.s7 hL ⟨rfl, by simp [hd]⟩⟩
    | 8, ho =>
      simp only [List.getElem?_toArray, List.getElem?_cons_zero, List.getElem?_cons_succ, Option.some.injEq] at ho
      subst ho
      simp [Region.binds] at hd
      have n9 : L 9 = false := by
        cases e : L 9
        · rfl
        · exact absurd (hf.e9 e).1 (by simp [hL])
      have hsW := hf.z.size
      have hba := (Below.refl W.heap.size W).alloc (Nat.le_refl _) (.cells #[.slice none 0 0, .slice none 0 0] 27)
      go_simp
      exact hK _ _ ⟨_, _, _, _, _, _, _, _, _, _, rfl, (hf.below hba).s8 hL ⟨W.heap.size, rfl, hsW, by simp, heap_alloc_new _ _, fun h4 x e4 => by obtain ⟨r, e5, y⟩ := hf.f4 h4; rw [e5] at e4; injection e4 with e4; injection e4 with e4; injection e4 with e4 _; subst e4; exact ((y n9).below hba (Nat.le_refl _)).mono (fun q hq => ⟨hq.1, by simp; omega, by omega⟩)⟩⟩
    | 9, ho =>
      simp only [List.getElem?_toArray, List.getElem?_cons_zero, List.getElem?_cons_succ, Option.some.injEq] at ho
      subst ho
      simp [Region.binds] at hd
      have d8 : L 8 = true := by simp [hd]
      have d6 : L 6 = true := by simp [hd]
      obtain ⟨p, rfl, hp, hpl, hq⟩ := hf.f8 d8
      have hq := hq hL
      obtain ⟨r, rfl, y⟩ := hf.f4 (hf.e5 (hf.e6 d6))
      have e6 := hf.f6 d6
      injection e6 with e6
      injection e6 with e6
      injection e6 with e6 _
      subst e6
      have y := y hL
      obtain ⟨A1, c1, A2, c2, rfl⟩ := y.form
      obtain ⟨s0, s1, s2, s3⟩ := box_cells hq
      have g1 := heap_setCell_same _ p 0 _ _ (.slice A1 (unionR a b).shows.length c1) hq
      have g2 := heap_setCell_same _ p 1 _ _ (.slice A2 (unionR a b).steps.length c2) g1
      have hK9 : Kept (fun q => q = p) W ((W.setCell ⟨p, 0, none⟩ (.slice A1 (unionR a b).shows.length c1)).setCell ⟨p, 1, none⟩ (.slice A2 (unionR a b).steps.length c2)) := Kept.setCell (S := fun q => q = p) (Kept.setCell (S := fun q => q = p) (Kept.refl _ W) (p := ⟨p, 0, none⟩) rfl _) (p := ⟨p, 1, none⟩) rfl _
      go_simp
      exact hK _ _ ⟨_, _, _, _, _, _, _, _, _, _, rfl, hf.s9 hL ((hf.z.setCell hp _).setCell hp _) (by simp) ⟨d8, d6⟩ ⟨p, _, _, rfl, hp, g2, ((y.mono (fun q hq => show w2.heap.size ≤ q ∧ q < W.heap.size ∧ q ≠ p from ⟨hq.1, hq.2.1, fun e => hq.2.2 d8 (by rw [e])⟩)).kept hK9 (fun q h1 h2 => h1.2.2 h2)).mono (fun q hq => ⟨hq.1, by simp; exact hq.2.1, hq.2.2⟩)⟩⟩
    | 10, ho =>
      simp only [List.getElem?_toArray, List.getElem?_cons_zero, List.getElem?_cons_succ, Option.some.injEq] at ho
      subst ho
      simp [Region.binds] at hd
      obtain rfl := hf.f7 (by simp [hd])
      go_simp
      exact hK _ _ ⟨_, _, _, _, _, _, _, _, _, _, rfl, hf.s10 hL rfl⟩
    | k + 11, ho => simp at ho
  case fin =>
    intro L act W hJ hfin
    obtain ⟨v6, v7, v27, v28, v29, v30, v31, v32, v33, v34, rfl, hf⟩ := hJ
    have l0 : L 0 = true := by
      cases e : L 0
      · have x := hfin 0 _ rfl e
        simp [Region.binds] at x
      · rfl
    have l1 : L 1 = true := by
      cases e : L 1
      · have x := hfin 1 _ rfl e
        simp [Region.binds, l0] at x
      · rfl
    have l2 : L 2 = true := by
      cases e : L 2
      · have x := hfin 2 _ rfl e
        simp [Region.binds] at x
      · rfl
    have l3 : L 3 = true := by
      cases e : L 3
      · have x := hfin 3 _ rfl e
        simp [Region.binds, l2, l1] at x
      · rfl
    have l4 : L 4 = true := by
      cases e : L 4
      · have x := hfin 4 _ rfl e
        simp [Region.binds, l1, l3] at x
      · rfl
    have l5 : L 5 = true := by
      cases e : L 5
      · have x := hfin 5 _ rfl e
        simp [Region.binds, l4] at x
      · rfl
    have l6 : L 6 = true := by
      cases e : L 6
      · have x := hfin 6 _ rfl e
        simp [Region.binds, l5] at x
      · rfl
    have l8 : L 8 = true := by
      cases e : L 8
      · have x := hfin 8 _ rfl e
        simp [Region.binds] at x
      · rfl
    have l7 : L 7 = true := by
      cases e : L 7
      · have x := hfin 7 _ rfl e
        simp [Region.binds, l5] at x
      · rfl
    have l9 : L 9 = true := by
      cases e : L 9
      · have x := hfin 9 _ rfl e
        simp [Region.binds, l8, l6, l4, l0, l1, l2, l3, l5] at x
      · rfl
    have l10 : L 10 = true := by
      cases e : L 10
      · have x := hfin 10 _ rfl e
        simp [Region.binds, l7, l9, l0, l1, l2, l3, l4, l5, l6, l8] at x
      · rfl
    obtain ⟨pw, x, y, rfl, hpw, hbw, how⟩ := hf.f9 l9
    obtain rfl := hf.f10 l10
    have hzW := hf.z
    clear hf hfin l0 l1 l2 l3 l4 l5 l6 l7 l8 l9 l10
    obtain ⟨B1, d1, B2, d2, e2⟩ := how.form
    injection e2 with e2
    injection e2 with e2
    injection e2 with e2 e3
    injection e3 with e3 _
    subst e2
    subst e3
    obtain ⟨q0, q1, _, _⟩ := box_cells hbw
    have HOW := Lib.hid how
    have HBW := Lib.hid hbw
    have HZW := Lib.hid hzW
    have HT := Lib.hid (show Below w.heap.size w W from HZW2.out.trans (hzW.mono HZW2.out.size))
    have hW0 : Below W0.heap.size W0 W := HZ2.out.trans (hzW.mono HZ2.out.size)
    have HTW := Lib.hid hW0
    have hsWa := hW0.size
    have hsWb := HT.out.size
    clear p0 p1 p2 p3 how hbw hzW
    obtain ⟨⟨p0, p1⟩, p2, p3⟩ := HX.out W hW0
    clear hW0
    go_wp2_with fail
    refine (toLabelled_any _ a W (HV.out W HT.out) hsa).mono ?_
    rintro e w3 ⟨ux, rfl, hux, hb3⟩
    obtain ⟨X1, xc1, X2, xc2, rfl⟩ := hux.form
    have hs3 := hb3.size
    have hT3 := HT.out.trans (hb3.mono HT.out.size)
    have hTW3 := HTW.out.trans (hb3.mono HTW.out.size)
    have hbA : Below w3.heap.size w3 (w3.alloc (.cells #[.slice X1 a.shows.length xc1, .slice X2 a.steps.length xc2] 27)) := (Below.refl _ _).alloc (Nat.le_refl _) _
    have HT3 := Lib.hid (hT3.trans (hbA.mono hT3.size))
    have HTW3 := Lib.hid (hTW3.trans (hbA.mono hTW3.size))
    have HWA := Lib.hid (hb3.trans (hbA.mono hs3))
    have HUX := Lib.hid (hux.below hbA (Nat.le_refl _))
    have HNX := Lib.hid (heap_alloc_new w3 (.cells #[.slice X1 a.shows.length xc1, .slice X2 a.steps.length xc2] 27))
    clear p0 p1 p2 p3 q0 q1 hux hb3 hT3 hTW3 hbA
    obtain ⟨⟨p0, p1⟩, p2, p3⟩ := HX.out _ HTW3.out
    go_wp2_with fail
    clear p0 p1 p2 p3
    refine (toLabelled_any _ b _ (HU.out _ HT3.out) hsb).mono ?_
    rintro e w4 ⟨uz, rfl, huz, hb4⟩
    obtain ⟨Z1, zc1, Z2, zc2, rfl⟩ := huz.form
    have hs4 := hb4.size
    simp only [World.size_alloc] at hs4
    have hx4 : w3.heap.size < w4.heap.size := by omega
    have bxX : w4.heap[w3.heap.size]? = some (.cells #[.slice X1 a.shows.length xc1, .slice X2 a.steps.length xc2] 27) := (hb4.block _ (by simp)).trans HNX.out
    obtain ⟨q0, q1, _, _⟩ := box_cells bxX
    have hbB : Below w4.heap.size w4 (w4.alloc (.cells #[.slice Z1 b.shows.length zc1, .slice Z2 b.steps.length zc2] 27)) := (Below.refl _ _).alloc (Nat.le_refl _) _
    have hb34 := hb4.trans (hbB.mono hb4.size)
    have HUX4 := Lib.hid (HUX.out.below hb34 (Nat.le_refl _))
    have HUZ4 := Lib.hid (huz.below hbB (Nat.le_refl _))
    have HT4 := Lib.hid (HT3.out.trans (hb34.mono HT3.out.size))
    have HTW4 := Lib.hid (HTW3.out.trans (hb34.mono HTW3.out.size))
    have HW4 := Lib.hid (HWA.out.trans (hb34.mono HWA.out.size))
    have HBX := Lib.hid (show (w4.alloc (.cells #[.slice Z1 b.shows.length zc1, .slice Z2 b.steps.length zc2] 27)).heap[w3.heap.size]? = _ from (heap_alloc_old _ _ (by omega)).trans bxX)
    have HNZ := Lib.hid (heap_alloc_new w4 (.cells #[.slice Z1 b.shows.length zc1, .slice Z2 b.steps.length zc2] 27))
    clear bxX hb4 hbB hb34 huz
    go_wp2_with fail
    clear q0 q1
    refine (implUnionOf_any _ _ a b _ hsa hsb (HUX4.out.rlab hsa) (HUZ4.out.rlab hsb)).mono ?_
    rintro e w5 ⟨ug, rfl, hug, hb5⟩
    obtain ⟨G1, gc1, G2, gc2, rfl⟩ := hug.form
    have hs5 := hb5.size
    simp only [World.size_alloc] at hs5
    have hbG : Below w5.heap.size w5 (w5.alloc (.cells #[.slice G1 (unionR a b).shows.length gc1, .slice G2 (unionR a b).steps.length gc2] 27)) := (Below.refl _ _).alloc (Nat.le_refl _) _
    have hb45 := hb5.trans (hbG.mono hb5.size)
    have hW5 := HW4.out.trans (hb45.mono HW4.out.size)
    have hpwW := (Array.getElem?_eq_some_iff.1 HBW.out).1
    have HUZ := Lib.hid (show UZ w2.heap.size pw W.heap.size w3.heap.size w4.heap.size w5.heap.size _ _ _ _ _ _ _ _ a b (unionR a b) (unionR a b) (w5.alloc (.cells #[.slice G1 (unionR a b).shows.length gc1, .slice G2 (unionR a b).steps.length gc2] 27)) from
      { b0 := (hW5.block _ hpwW).trans HBW.out, bx := (hb45.block _ (by simp; omega)).trans HBX.out, bz := (hb45.block _ (by simp)).trans HNZ.out, bg := heap_alloc_new _ _, o0 := HOW.out.below hW5 (Nat.le_refl _), ox := HUX4.out.below hb45 (Nat.le_refl _), oz := (HUZ4.out.below hb45 (Nat.le_refl _)).mono (fun q hq => by simp at hq; omega), og := (hug.below hbG (Nat.le_refl _)).mono (fun q hq => by simp at hq; omega), l0 := hpw, l1 := hpwW, l2 := hs3, l3 := by omega, l4 := by omega, l5 := by simp })
    have HT5 := Lib.hid (HT4.out.trans (hb45.mono HT4.out.size))
    have HTW5 := Lib.hid (HTW4.out.trans (hb45.mono HTW4.out.size))
    clear hug hb5 hbG hb45 hW5 HBX HNZ HUX HUX4 HUZ4 HNX HWA HW4 HOW HBW
    have hsR := union_small hsa hsb hza hzb
    have hsu := sizeU_union a b
    have hsp := sizeU_pos (unionR a b)
    have hpa := sizeU_pos a
    have hpb := sizeU_pos b
    obtain ⟨⟨c0, c1⟩, ⟨c2, c3⟩, ⟨c4, c5⟩, c6, c7⟩ := HUZ.out.cells
    have l5 := HUZ.out.l5
    go_wp2_with fail
    have HT6 := HT5
    have HTW := HTW5
    have hbne : (okU a b != okU a b) = false := by rw [bne_self_eq_false]
    have HIMP := Lib.hid (fun v u W (hv : RLab W v a) (hu : RLab W u b) => implUnionOf_any v u a b W hsa hsb hv hu)
    refine (eqLabelled_any _ _ (unionR a b) (unionR a b) _ (HUZ.out.og.rlab hsR) (HUZ.out.o0.rlab hsR) hsR hsR).mono ?_
    rintro e w6 ⟨rfl, hw6⟩
    rw [sameLab_refl]
    have HUZ := Lib.hid (HUZ.out.below hw6)
    have HTW := Lib.hid (HTW.out.trans (hw6.mono HTW.out.size))
    have HT6 := Lib.hid (HT6.out.trans (hw6.mono HT6.out.size))
    clear c0 c1 c2 c3 c4 c5 c6 c7
    obtain ⟨⟨c0, c1⟩, ⟨c2, c3⟩, ⟨c4, c5⟩, c6, c7⟩ := HUZ.out.cells
    obtain ⟨⟨p0, p1⟩, p2, p3⟩ := HX.out _ HTW.out
    clear hw6
    have HR6 := Lib.hid (HUZ.out.ox.rlab hsa)
    go_wp2_with fail
    go_region_held3 (fun w' => w'.cell? ⟨w3.heap.size, 0, none⟩ = some (.slice X1 a.shows.length xc1) ∧ w'.cell? ⟨w3.heap.size, 1, none⟩ = some (.slice X2 a.steps.length xc2) ∧ w'.cell? ⟨w.heap.size, 0, none⟩ = some sv ∧ w'.cell? ⟨w.heap.size, 1, none⟩ = some tv)
      (first | go_keep | (have hk := hw9.trans (hw10.mono hw9.size); exact ⟨cell_below hk c2 (lt_of_cell c2), cell_below hk c3 (lt_of_cell c3), cell_below hk p0 (lt_of_cell p0), cell_below hk p1 (lt_of_cell p1)⟩) | exact ⟨cell_below hw9 c2 (lt_of_cell c2), cell_below hw9 c3 (lt_of_cell c3), cell_below hw9 p0 (lt_of_cell p0), cell_below hw9 p1 (lt_of_cell p1)⟩)
      (first
        | (go_at_call 9; refine (toLabelled_any _ a _ (HV.out _ HT6.out.drew) hsa).mono ?_; rintro e w9 ⟨u9, rfl, hu9, hw9⟩)
        | (go_at_call 11; refine (eqLabelled_any _ _ a a _ (HR6.out.drew.below hw9) (hu9.rlab hsa) hsa hsa).mono ?_; rintro e w10 ⟨rfl, hw10⟩))
    have hsl := sameLab_refl a
    simp only [hsl, Bool.not_true]
    have h6 : Below w6.heap.size w6 w10 := (Below.refl _ w6).drew.trans (hw9.trans (hw10.mono hw9.size))
    have HUZ := Lib.hid (HUZ.out.below h6)
    have HTW := Lib.hid (HTW.out.trans (h6.mono HTW.out.size))
    have HT6 := Lib.hid (HT6.out.trans (h6.mono HT6.out.size))
    clear c0 c1 c2 c3 c4 c5 c6 c7
    obtain ⟨⟨c0, c1⟩, ⟨c2, c3⟩, ⟨c4, c5⟩, c6, c7⟩ := HUZ.out.cells
    clear p0 p1 p2 p3 hw9 hw10 hu9 h6 HR6
    obtain ⟨⟨p0, p1⟩, p2, p3⟩ := HX.out _ HTW.out
    have HR6 := Lib.hid (HUZ.out.oz.rlab hsb)
    go_wp2_with fail
    go_region_held3 (fun w' => w'.cell? ⟨w4.heap.size, 0, none⟩ = some (.slice Z1 b.shows.length zc1) ∧ w'.cell? ⟨w4.heap.size, 1, none⟩ = some (.slice Z2 b.steps.length zc2) ∧ w'.cell? ⟨w.heap.size + 1, 0, none⟩ = some su ∧ w'.cell? ⟨w.heap.size + 1, 1, none⟩ = some tu)
      (first | go_keep | (have hk := hw11.trans (hw12.mono hw11.size); exact ⟨cell_below hk c4 (lt_of_cell c4), cell_below hk c5 (lt_of_cell c5), cell_below hk p2 (lt_of_cell p2), cell_below hk p3 (lt_of_cell p3)⟩) | exact ⟨cell_below hw11 c4 (lt_of_cell c4), cell_below hw11 c5 (lt_of_cell c5), cell_below hw11 p2 (lt_of_cell p2), cell_below hw11 p3 (lt_of_cell p3)⟩)
      (first
        | (go_at_call 9; refine (toLabelled_any _ b _ (HU.out _ HT6.out.drew) hsb).mono ?_; rintro e w11 ⟨u9b, rfl, hu9, hw11⟩)
        | (go_at_call 11; refine (eqLabelled_any _ _ b b _ (HR6.out.drew.below hw11) (hu9.rlab hsb) hsb hsb).mono ?_; rintro e w12 ⟨rfl, hw12⟩))
    have hsl := sameLab_refl b
    simp only [hsl, Bool.not_true]
    have h6 : Below w10.heap.size w10 w12 := (Below.refl _ w10).drew.trans (hw11.trans (hw12.mono hw11.size))
    have HUZ := Lib.hid (HUZ.out.below h6)
    have HTW := Lib.hid (HTW.out.trans (h6.mono HTW.out.size))
    have HT6 := Lib.hid (HT6.out.trans (h6.mono HT6.out.size))
    clear c0 c1 c2 c3 c4 c5 c6 c7
    obtain ⟨⟨c0, c1⟩, ⟨c2, c3⟩, ⟨c4, c5⟩, c6, c7⟩ := HUZ.out.cells
    clear p0 p1 p2 p3 hw11 hw12 hu9 h6 HR6
    go_wp2_with fail
    refine (markLabelled_any _ _ a 1 w12 hsa (by decide) (by omega) HUZ.out.ox).mono ?_
    rintro e w13 ⟨rfl, hu13, hk13⟩
    have HUZ := Lib.hid (HUZ.out.markx hk13 hu13)
    have HTW := Lib.hid (HTW.out.trans (hk13.below (B := W0.heap.size) (fun q hq => by have := hq.1; omega) HTW.out.size))
    have HT6 := Lib.hid (HT6.out.trans (hk13.below (B := w.heap.size) (fun q hq => by have := hq.1; omega) HT6.out.size))
    clear c0 c1 c2 c3 c4 c5 c6 c7
    obtain ⟨⟨c0, c1⟩, ⟨c2, c3⟩, ⟨c4, c5⟩, c6, c7⟩ := HUZ.out.cells
    clear hk13 hu13
    go_wp2_with fail
    refine (markLabelled_any _ _ b _ w13 hsb (by omega) (by omega) HUZ.out.oz).mono ?_
    rintro e w14 ⟨rfl, hu14, hk14⟩
    have hl23 := HUZ.out.l2
    have HUZ := Lib.hid (HUZ.out.markz hk14 hu14)
    have HTW := Lib.hid (HTW.out.trans (hk14.below (B := W0.heap.size) (fun q hq => by have := hq.1; omega) HTW.out.size))
    have HT6 := Lib.hid (HT6.out.trans (hk14.below (B := w.heap.size) (fun q hq => by have := hq.1; omega) HT6.out.size))
    clear c0 c1 c2 c3 c4 c5 c6 c7
    obtain ⟨⟨c0, c1⟩, ⟨c2, c3⟩, ⟨c4, c5⟩, c6, c7⟩ := HUZ.out.cells
    clear hk14 hu14
    have hkp : ¬ (1 + sizeLab a + sizeLab b < 0) := by omega
    go_wp2_with fail
    refine (eqLabelled_any _ _ (unionR a b) (unionR a b) _ (HUZ.out.og.rlab hsR) (HUZ.out.o0.rlab hsR) hsR hsR).mono ?_
    rintro e w15 ⟨rfl, hw15⟩
    rw [sameLab_refl]
    have HUZ := Lib.hid (HUZ.out.below hw15)
    have HTW := Lib.hid (HTW.out.trans (hw15.mono HTW.out.size))
    have HT6 := Lib.hid (HT6.out.trans (hw15.mono HT6.out.size))
    clear c0 c1 c2 c3 c4 c5 c6 c7
    obtain ⟨⟨c0, c1⟩, ⟨c2, c3⟩, ⟨c4, c5⟩, c6, c7⟩ := HUZ.out.cells
    clear hw15
    go_wp2_with fail
    refine (markLabelled_any _ _ (unionR a b) 1 w15 hsR (by decide) (by omega) HUZ.out.og).mono ?_
    rintro e w16 ⟨rfl, hu16, hk16⟩
    have hl34 := HUZ.out.l3
    have HUZ := Lib.hid (HUZ.out.markg hk16 hu16)
    have HTW := Lib.hid (HTW.out.trans (hk16.below (B := W0.heap.size) (fun q hq => by have := hq.1; omega) HTW.out.size))
    have HT6 := Lib.hid (HT6.out.trans (hk16.below (B := w.heap.size) (fun q hq => by have := hq.1; omega) HT6.out.size))
    clear c0 c1 c2 c3 c4 c5 c6 c7
    obtain ⟨⟨c0, c1⟩, ⟨c2, c3⟩, ⟨c4, c5⟩, c6, c7⟩ := HUZ.out.cells
    clear hk16 hu16
    have hkp2 : ¬ (1 + sizeLab (unionR a b) < 0) := by omega
    go_wp2_with fail
    refine (heldLabelled_any _ (unionR a b) 1 w16 hsR (by decide) (by omega) (HUZ.out.og.rlab (markLab_small hsR 1))).mono ?_
    rintro e w17 ⟨rfl, hw17⟩
    have HUZ := Lib.hid (HUZ.out.below hw17)
    have HTW := Lib.hid (HTW.out.trans (hw17.mono HTW.out.size))
    have HT6 := Lib.hid (HT6.out.trans (hw17.mono HT6.out.size))
    clear c0 c1 c2 c3 c4 c5 c6 c7
    obtain ⟨⟨c0, c1⟩, ⟨c2, c3⟩, ⟨c4, c5⟩, c6, c7⟩ := HUZ.out.cells
    clear hw17
    obtain ⟨⟨p0, p1⟩, p2, p3⟩ := HX.out _ HTW.out
    go_wp2_with fail
    refine wp_region_inv (by kernel_rfl) (fun L act WW => ∃ t6 t7 t27 t28 t29 t30 t31 t32 t33 t34 : Value, act = ⟨#[Value.agg #[sv, tv], Value.agg #[su, tu], Value.pointer (some ⟨w.heap.size, 0, none⟩), Value.pointer (some ⟨w.heap.size + 1, 0, none⟩), Value.bool false, Value.int IntKind.i64 (szLab b (szLab a 1048576)), Value.pointer (some ⟨pw, 0, none⟩), Value.bool (okU a b), Value.pointer (some ⟨w3.heap.size, 0, none⟩), Value.pointer (some ⟨w4.heap.size, 0, none⟩), Value.pointer (some ⟨w5.heap.size, 0, none⟩), Value.bool (okU a b), Value.int IntKind.i64 (1 + sizeLab a + sizeLab b), Value.int IntKind.i64 (1 + sizeLab (unionR a b)), Value.int IntKind.i64 (1 + sizeLab (unionR a b)), t6, t7, Value.agg #[sv, tv], Value.int IntKind.i64 1048576, Value.int IntKind.i64 (szLab a 1048576), Value.int IntKind.i64 (szLab a 1048576), Value.bool (decide (szLab a 1048576 < 0)), Value.agg #[su, tu], Value.int IntKind.i64 (szLab a 1048576), Value.int IntKind.i64 (szLab b (szLab a 1048576)), Value.int IntKind.i64 (szLab b (szLab a 1048576)), Value.bool (decide (szLab b (szLab a 1048576) < 0)), v27, v28, v29, v30, v31, v32, v33, v34, Value.agg #[sv, tv], Value.agg #[Value.slice X1 a.shows.length xc1, Value.slice X2 a.steps.length xc2], Value.agg #[su, tu], Value.agg #[Value.slice Z1 b.shows.length zc1, Value.slice Z2 b.steps.length zc2], Value.tuple #[Value.agg #[Value.slice G1 (unionR a b).shows.length gc1, Value.slice G2 (unionR a b).steps.length gc2], Value.bool (okU a b)], Value.agg #[Value.slice X1 a.shows.length xc1, Value.slice X2 a.steps.length xc2], Value.agg #[Value.slice Z1 b.shows.length zc1, Value.slice Z2 b.steps.length zc2], Value.tuple #[Value.agg #[Value.slice G1 (unionR a b).shows.length gc1, Value.slice G2 (unionR a b).steps.length gc2], Value.bool (okU a b)], Value.agg #[Value.slice G1 (unionR a b).shows.length gc1, Value.slice G2 (unionR a b).steps.length gc2], Value.bool (okU a b), Value.agg #[Value.slice G1 (unionR a b).shows.length gc1, Value.slice G2 (unionR a b).steps.length gc2], Value.agg #[Value.slice B1 (unionR a b).shows.length d1, Value.slice B2 (unionR a b).steps.length d2], Value.bool true, Value.bool false, Value.bool false, Value.bool (okU a b), Value.bool (okU a b), Value.bool false, Value.bool false, Value.agg #[Value.slice X1 a.shows.length xc1, Value.slice X2 a.steps.length xc2], Value.agg #[sv, tv], u9, Value.bool true, Value.bool false, Value.agg #[Value.slice Z1 b.shows.length zc1, Value.slice Z2 b.steps.length zc2], Value.agg #[su, tu], u9b, Value.bool true, Value.bool false, Value.agg #[Value.slice X1 a.shows.length xc1, Value.slice X2 a.steps.length xc2], Value.int IntKind.i64 1, Value.int IntKind.i64 (1 + sizeLab a), Value.agg #[Value.slice Z1 b.shows.length zc1, Value.slice Z2 b.steps.length zc2], Value.int IntKind.i64 (1 + sizeLab a), Value.int IntKind.i64 (1 + sizeLab a + sizeLab b), Value.int IntKind.i64 (1 + sizeLab a + sizeLab b), Value.bool (decide (1 + sizeLab a + sizeLab b < 0)), Value.bool (decide (1 + sizeLab a + sizeLab b < 0)), Value.agg #[Value.slice G1 (unionR a b).shows.length gc1, Value.slice G2 (unionR a b).steps.length gc2], Value.agg #[Value.slice B1 (unionR a b).shows.length d1, Value.slice B2 (unionR a b).steps.length d2], Value.bool true, Value.bool false, Value.bool (decide (1 + sizeLab a + sizeLab b < 0)), Value.bool (decide (1 + sizeLab a + sizeLab b < 0)), Value.bool (okU a b), Value.bool (okU a b), Value.bool false, Value.bool (decide (1 + sizeLab a + sizeLab b < 0)), Value.agg #[Value.slice G1 (unionR a b).shows.length gc1, Value.slice G2 (unionR a b).steps.length gc2], Value.int IntKind.i64 1, Value.int IntKind.i64 (1 + sizeLab (unionR a b)), Value.agg #[Value.slice G1 (unionR a b).shows.length gc1, Value.slice G2 (unionR a b).steps.length gc2], Value.int IntKind.i64 1, Value.int IntKind.i64 (1 + sizeLab (unionR a b)), Value.int IntKind.i64 (1 + sizeLab (unionR a b)), Value.bool (decide (1 + sizeLab (unionR a b) < 0)), Value.int IntKind.i64 (1 + sizeLab (unionR a b)), Value.int IntKind.i64 (1 + sizeLab (unionR a b)), Value.bool false, t27, t28, t29, t30, t31, t32, t33, t34, undef, undef, undef, undef, undef, undef, undef, undef, undef, undef, undef, undef, undef, undef, undef, undef, undef], []⟩ ∧ UH w17 (.agg #[sv, tv]) (.agg #[su, tu]) a b (unionR a b) (okU a b) L t6 t7 t27 t28 t29 t30 t31 t32 t33 t34 WW) ?h0 ?step ?fin
    case h0 => exact ⟨_, _, _, _, _, _, _, _, _, _, rfl, { z := below_drewN' (Below.refl _ _) 1, f0 := fun x => absurd x Bool.false_ne_true, f1 := fun x => absurd x Bool.false_ne_true, f2 := fun x => absurd x Bool.false_ne_true, f3 := fun x => absurd x Bool.false_ne_true, f4 := fun x => absurd x Bool.false_ne_true, f5 := fun x => absurd x Bool.false_ne_true, f6 := fun x => absurd x Bool.false_ne_true, f7 := fun x => absurd x Bool.false_ne_true, f8 := fun x => absurd x Bool.false_ne_true, f9 := fun x => absurd x Bool.false_ne_true, f10 := fun x => absurd x Bool.false_ne_true, e5 := fun x => absurd x Bool.false_ne_true, e6 := fun x => absurd x Bool.false_ne_true, e7 := fun x => absurd x Bool.false_ne_true, e9 := fun x => absurd x Bool.false_ne_true }⟩
    case step =>
      intro L act WW i o hJ hL ho hd K' hK
      obtain ⟨t6, t7, t27, t28, t29, t30, t31, t32, t33, t34, rfl, hf⟩ := hJ
      match i, ho with
      | 0, ho =>
        simp only [List.getElem?_toArray, List.getElem?_cons_zero, List.getElem?_cons_succ, Option.some.injEq] at ho
        subst ho
        simp [Region.binds] at hd
        obtain ⟨⟨p0, p1⟩, p2, p3⟩ := HX.out WW (HTW.out.trans (hf.z.mono HTW.out.size))
        go_simp
        exact hK _ _ ⟨_, _, _, _, _, _, _, _, _, _, rfl, hf.s0 hL rfl⟩
      | 1, ho =>
        simp only [List.getElem?_toArray, List.getElem?_cons_zero, List.getElem?_cons_succ, Option.some.injEq] at ho
        subst ho
        simp [Region.binds] at hd
        obtain rfl := hf.f0 (by simp [hd])
        go_simp
        go_at_call 9
        refine (toLabelled_any _ a WW (HV.out WW (HT6.out.trans (hf.z.mono HT6.out.size))) hsa).mono ?_
        rintro e w3' ⟨r, rfl, hr, hb3'⟩
        go_simp
        exact hK _ _ ⟨_, _, _, _, _, _, _, _, _, _, rfl, (hf.below hb3').s1 hL (hr.rlab hsa)⟩
      | 2, ho =>
        simp only [List.getElem?_toArray, List.getElem?_cons_zero, List.getElem?_cons_succ, Option.some.injEq] at ho
        subst ho
        simp [Region.binds] at hd
        obtain ⟨⟨p0, p1⟩, p2, p3⟩ := HX.out WW (HTW.out.trans (hf.z.mono HTW.out.size))
        go_simp
        exact hK _ _ ⟨_, _, _, _, _, _, _, _, _, _, rfl, hf.s2 hL rfl⟩
      | 3, ho =>
        simp only [List.getElem?_toArray, List.getElem?_cons_zero, List.getElem?_cons_succ, Option.some.injEq] at ho
        subst ho
        simp [Region.binds] at hd
        obtain rfl := hf.f2 (by simp [hd])
        go_simp
        go_at_call 9
        refine (toLabelled_any _ b WW (HU.out WW (HT6.out.trans (hf.z.mono HT6.out.size))) hsb).mono ?_
        rintro e w3' ⟨r, rfl, hr, hb3'⟩
        go_simp
        exact hK _ _ ⟨_, _, _, _, _, _, _, _, _, _, rfl, (hf.below hb3').s3 hL (hr.rlab hsb)⟩
      | 4, ho =>
        simp only [List.getElem?_toArray, List.getElem?_cons_zero, List.getElem?_cons_succ, Option.some.injEq] at ho
        subst ho
        simp [Region.binds] at hd
        have n9 : L 9 = false := by
          cases e : L 9
          · rfl
          · exact absurd (hf.e5 (hf.e6 (hf.e9 e).2)) (by simp [hL])
        go_simp
        go_at_call 10
        refine (implUnionOf_any _ _ a b WW hsa hsb (hf.f1 (by simp [hd]) n9) (hf.f3 (by simp [hd]) n9)).mono ?_
        rintro e w3' ⟨r, rfl, hr, hb3'⟩
        have hsW := hf.z.size
        go_simp
        exact hK _ _ ⟨_, _, _, _, _, _, _, _, _, _, rfl, (hf.below hb3').s4 hL ⟨r, rfl, hr.mono (fun q hq => ⟨by omega, hq.2, fun h8 e8 => by obtain ⟨p, e9, _, hp, _⟩ := hf.f8 h8; rw [e9] at e8; injection e8 with e8; injection e8 with e8; injection e8 with e8; omega⟩)⟩⟩
      | 5, ho =>
        simp only [List.getElem?_toArray, List.getElem?_cons_zero, List.getElem?_cons_succ, Option.some.injEq] at ho
        subst ho
        simp [Region.binds] at hd
        obtain ⟨r, rfl, _⟩ := hf.f4 (by simp [hd])
        go_simp
        exact hK _ _ ⟨_, _, _, _, _, _, _, _, _, _, rfl, hf.s5 hL ⟨rfl, by simp [hd]⟩⟩
      | 6, ho =>
        simp only [List.getElem?_toArray, List.getElem?_cons_zero, List.getElem?_cons_succ, Option.some.injEq] at ho
        subst ho
        simp [Region.binds] at hd
        obtain ⟨r, rfl, _⟩ := hf.f4 (hf.e5 (by simp [hd]))
        obtain rfl := hf.f5 (by simp [hd])
        go_simp
        exact hK _ _ ⟨_, _, _, _, _, _, _, _, _, _, rfl, hf.s6 hL ⟨rfl, by simp [hd]⟩⟩
      | 7, ho =>
        simp only [List.getElem?_toArray, List.getElem?_cons_zero, List.getElem?_cons_succ, Option.some.injEq] at ho
        subst ho
        simp [Region.binds] at hd
        obtain ⟨r, rfl, _⟩ := hf.f4 (hf.e5 (by simp [hd]))
        obtain rfl := hf.f5 (by simp [hd])
        go_simp
        exact hK _ _ ⟨_, _, _, _, _, _, _, _, _, _, rfl, hf.s7 hL ⟨rfl, by simp [hd]⟩⟩
      | 8, ho =>
        simp only [List.getElem?_toArray, List.getElem?_cons_zero, List.getElem?_cons_succ, Option.some.injEq] at ho
        subst ho
        simp [Region.binds] at hd
        have n9 : L 9 = false := by
          cases e : L 9
          · rfl
          · exact absurd (hf.e9 e).1 (by simp [hL])
        have hsW := hf.z.size
        have hba := (Below.refl WW.heap.size WW).alloc (Nat.le_refl _) (.cells #[.slice none 0 0, .slice none 0 0] 27)
        go_simp
        exact hK _ _ ⟨_, _, _, _, _, _, _, _, _, _, rfl, (hf.below hba).s8 hL ⟨WW.heap.size, rfl, hsW, by simp, heap_alloc_new _ _, fun h4 x e4 => by obtain ⟨r, e5, y⟩ := hf.f4 h4; rw [e5] at e4; injection e4 with e4; injection e4 with e4; injection e4 with e4 _; subst e4; exact ((y n9).below hba (Nat.le_refl _)).mono (fun q hq => ⟨hq.1, by simp; omega, by omega⟩)⟩⟩
      | 9, ho =>
        simp only [List.getElem?_toArray, List.getElem?_cons_zero, List.getElem?_cons_succ, Option.some.injEq] at ho
        subst ho
        simp [Region.binds] at hd
        have d8 : L 8 = true := by simp [hd]
        have d6 : L 6 = true := by simp [hd]
        obtain ⟨p, rfl, hp, hpl, hq⟩ := hf.f8 d8
        have hq := hq hL
        obtain ⟨r, rfl, y⟩ := hf.f4 (hf.e5 (hf.e6 d6))
        have e6 := hf.f6 d6
        injection e6 with e6
        injection e6 with e6
        injection e6 with e6 _
        subst e6
        have y := y hL
        obtain ⟨A1, c1, A2, c2, rfl⟩ := y.form
        obtain ⟨s0, s1, s2, s3⟩ := box_cells hq
        have g1 := heap_setCell_same _ p 0 _ _ (.slice A1 (unionR a b).shows.length c1) hq
        have g2 := heap_setCell_same _ p 1 _ _ (.slice A2 (unionR a b).steps.length c2) g1
        have hK9 : Kept (fun q => q = p) WW ((WW.setCell ⟨p, 0, none⟩ (.slice A1 (unionR a b).shows.length c1)).setCell ⟨p, 1, none⟩ (.slice A2 (unionR a b).steps.length c2)) := Kept.setCell (S := fun q => q = p) (Kept.setCell (S := fun q => q = p) (Kept.refl _ WW) (p := ⟨p, 0, none⟩) rfl _) (p := ⟨p, 1, none⟩) rfl _
        go_simp
        exact hK _ _ ⟨_, _, _, _, _, _, _, _, _, _, rfl, hf.s9 hL ((hf.z.setCell hp _).setCell hp _) (by simp) ⟨d8, d6⟩ ⟨p, _, _, rfl, hp, g2, ((y.mono (fun q hq => show w17.heap.size ≤ q ∧ q < WW.heap.size ∧ q ≠ p from ⟨hq.1, hq.2.1, fun e => hq.2.2 d8 (by rw [e])⟩)).kept hK9 (fun q h1 h2 => h1.2.2 h2)).mono (fun q hq => ⟨hq.1, by simp; exact hq.2.1, hq.2.2⟩)⟩⟩
      | 10, ho =>
        simp only [List.getElem?_toArray, List.getElem?_cons_zero, List.getElem?_cons_succ, Option.some.injEq] at ho
        subst ho
        simp [Region.binds] at hd
        obtain rfl := hf.f7 (by simp [hd])
        go_simp
        exact hK _ _ ⟨_, _, _, _, _, _, _, _, _, _, rfl, hf.s10 hL rfl⟩
      | k + 11, ho => simp at ho
    case fin =>
      intro L act WW hJ hfin
      obtain ⟨t6, t7, t27, t28, t29, t30, t31, t32, t33, t34, rfl, hf⟩ := hJ
      have l0 : L 0 = true := by
        cases e : L 0
        · have x := hfin 0 _ rfl e
          simp [Region.binds] at x
        · rfl
      have l1 : L 1 = true := by
        cases e : L 1
        · have x := hfin 1 _ rfl e
          simp [Region.binds, l0] at x
        · rfl
      have l2 : L 2 = true := by
        cases e : L 2
        · have x := hfin 2 _ rfl e
          simp [Region.binds] at x
        · rfl
      have l3 : L 3 = true := by
        cases e : L 3
        · have x := hfin 3 _ rfl e
          simp [Region.binds, l2, l1] at x
        · rfl
      have l4 : L 4 = true := by
        cases e : L 4
        · have x := hfin 4 _ rfl e
          simp [Region.binds, l1, l3] at x
        · rfl
      have l5 : L 5 = true := by
        cases e : L 5
        · have x := hfin 5 _ rfl e
          simp [Region.binds, l4] at x
        · rfl
      have l6 : L 6 = true := by
        cases e : L 6
        · have x := hfin 6 _ rfl e
          simp [Region.binds, l5] at x
        · rfl
      have l8 : L 8 = true := by
        cases e : L 8
        · have x := hfin 8 _ rfl e
          simp [Region.binds] at x
        · rfl
      have l7 : L 7 = true := by
        cases e : L 7
        · have x := hfin 7 _ rfl e
          simp [Region.binds, l5] at x
        · rfl
      have l9 : L 9 = true := by
        cases e : L 9
        · have x := hfin 9 _ rfl e
          simp [Region.binds, l8, l6, l4, l0, l1, l2, l3, l5] at x
        · rfl
      have l10 : L 10 = true := by
        cases e : L 10
        · have x := hfin 10 _ rfl e
          simp [Region.binds, l7, l9, l0, l1, l2, l3, l4, l5, l6, l8] at x
        · rfl
      obtain ⟨ph, x, y, rfl, hph, hbh, hoh⟩ := hf.f9 l9
      obtain rfl := hf.f10 l10
      have hzH := hf.z
      clear hf hfin l0 l1 l2 l3 l4 l5 l6 l7 l8 l9 l10
      obtain ⟨H1, h1c, H2, h2c, e2⟩ := hoh.form
      injection e2 with e2
      injection e2 with e2
      injection e2 with e2 e3
      injection e3 with e3 _
      subst e2
      subst e3
      obtain ⟨q0, q1, _, _⟩ := box_cells hbh
      have HUZ := Lib.hid (HUZ.out.below hzH)
      have HT6 := Lib.hid (HT6.out.trans (hzH.mono HT6.out.size))
      clear c0 c1 c2 c3 c4 c5 c6 c7 p0 p1 p2 p3 hzH hbh
      obtain ⟨⟨c0, c1⟩, _, _, c6, c7⟩ := HUZ.out.cells
      go_wp2_with fail
      refine (eqLabelled_any _ _ (unionR a b) (unionR a b) _ (hoh.rlab hsR) (HUZ.out.o0.rlab hsR) hsR hsR).mono ?_
      rintro e w18 ⟨rfl, hw18⟩
      rw [sameLab_refl]
      have HUZ := Lib.hid (HUZ.out.below hw18)
      have HT6 := Lib.hid (HT6.out.trans (hw18.mono HT6.out.size))
      clear hw18 c0 c1 c6 c7 q0 q1
      obtain ⟨⟨c0, c1⟩, _, _, c6, c7⟩ := HUZ.out.cells
      go_wp2_with fail
      refine (heldLabelled_any _ (unionR a b) 1 w18 hsR (by decide) (by omega) (HUZ.out.og.rlab (markLab_small hsR 1))).mono ?_
      rintro e w19 ⟨rfl, hw19⟩
      have HT6 := Lib.hid (HT6.out.trans (hw19.mono HT6.out.size))
      clear hw19
      go_wp2_with fail
      go_ret
      exact ⟨rfl, HT6.out⟩

end Go.Proofs.Ytojdobpmknadhaa
