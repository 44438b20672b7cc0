/- The tests of kinds, both packages walked. -/
import Derived.Test.YtijkdpdmclkmlaaGreatDoorProg
import Derived.Test.YtijkdpdmclkmlaaGreatDoorJ37
import Derived.Test.YtijkdpdmclkmlaaGreatDoorJ38
import Derived.Test.YtijkdpdmclkmlaaGreatDoorJ39
import Derived.Test.YtijkdpdmclkmlaaGreatDoorJ42
import Derived.Test.YtijkdpdmclkmlaaGreatDoorJ18
import Derived.Test.YtijkdpdmclkmlaaGreatDoorJ7
import Derived.BigQuiet
set_option linter.unusedSimpArgs false
set_option linter.unusedVariables false
set_option linter.unusedSimpArgs false
namespace Go.Proofs.YtijkdpdmclkmlaaGreatDoor
open Go.RowKit

set_option maxRecDepth 100000 in
set_option maxHeartbeats 4000000 in
theorem isPermutation_any (g : Gr) (nv sv ov iv : Value) (w : World) (hs : SmallG g) (hG : RGr w nv sv ov iv g) (he : 0 ≤ g.edges) (hsb : ∀ p ∈ g.sites, p ≤ 1000) :
  Calls Tryz.prog 107 #[.agg #[.int .i64 g.roots, nv, sv, .int .i64 g.edges, ov, iv]] w fun e w' => e = .returned (.bool (permB g)) ∧ Below w.heap.size w w' := by
 have HG := Lib.hid (show ∀ W, Below w.heap.size w W → RGr W nv sv ov iv g from fun W hb => hG.below hb)
 have HSM := Lib.hid hs
 obtain ⟨AN, cN, AS, cS, AO, cO, AI, cI, rfl, rfl, rfl, rfl⟩ := hG.form
 obtain ⟨w0, hw0⟩ : ∃ w0, w0 = w.alloc (.cells #[.int .i64 g.roots, .slice AN g.nodes.length cN, .slice AS g.sites.length cS, .int .i64 g.edges, .slice AO g.outer.length cO, .slice AI g.inner.length cI] 31) := ⟨_, rfl⟩
 have hb0 : Below w.heap.size w w0 := by rw [hw0]; exact (Below.refl _ _).alloc (Nat.le_refl _) _
 have bx0 : w0.heap[w.heap.size]? = some (.cells #[.int .i64 g.roots, .slice AN g.nodes.length cN, .slice AS g.sites.length cS, .int .i64 g.edges, .slice AO g.outer.length cO, .slice AI g.inner.length cI] 31) := by rw [hw0]; exact heap_alloc_new _ _
 have hsz0 : w0.heap.size = w.heap.size + 1 := by rw [hw0]; simp
 have HX := Lib.hid (show ∀ W, Below w0.heap.size w0 W → W.heap[w.heap.size]? = some (.cells #[.int .i64 g.roots, .slice AN g.nodes.length cN, .slice AS g.sites.length cS, .int .i64 g.edges, .slice AO g.outer.length cO, .slice AI g.inner.length cI] 31) from fun W hW => (hW.block _ (by omega)).trans bx0)
 have HB0 := Lib.hid hb0
 have HW0 := Lib.hid hw0
 have HED := Lib.hid he
 have HSB := Lib.hid hsb
 have HUL := Lib.hid (show (undG g).length ≤ 1000000 from by rw [und_len]; exact Nat.le_trans hs.sites (by decide))
 have HPT := Lib.hid (permB_eq g)
 have x0 := cell_of_row _ _ 0 _ _ _ bx0
 have x1 := cell_of_row _ _ 1 _ _ _ bx0
 have x2 := cell_of_row _ _ 2 _ _ _ bx0
 have x3 := cell_of_row _ _ 3 _ _ _ bx0
 have x4 := cell_of_row _ _ 4 _ _ _ bx0
 have x5 := cell_of_row _ _ 5 _ _ _ bx0
 rw [hw0] at x0 x1 x2 x3 x4 x5
 clear hs hG hb0 bx0 hw0 he hsb x0 x1 x2 x3 x4 x5
 cases hpl : placB g
 ·have HPL := Lib.hid hpl
  have HPB := Lib.hid (show permB g = false from by rw [HPT.out, hpl]; rfl)
  clear hpl
  go_enter Tryz.func107, Tryz.ntmps107
  go_wp2_with fail
  rw [← HW0.out]
  refine wp_region_vals (by kernel_rfl) [some 3, some 4, some 5, some 6, some 7, some 8, some 9, some 10, some 11, some 2] (fun q v W => match q with | 0 => v = .agg #[.int .i64 g.roots, .slice AN g.nodes.length cN, .slice AS g.sites.length cS, .int .i64 g.edges, .slice AO g.outer.length cO, .slice AI g.inner.length cI] | 1 => v = .bool false | 2 => v = .bool false | 3 => v = undef | 4 => v = undef | 5 => v = undef | 6 => v = undef | 7 => v = undef | 8 => v = .bool (permB g) | 9 => v = .bool (permB g) | _ => True) (by kernel_rfl) (by kernel_rfl) ?mono ?step ?fin
  case mono =>
   intro q v W W' hb h
   match q, h with
   | 0, h => exact h
   | 1, h => exact h
   | 2, h => exact h
   | 3, h => exact h
   | 4, h => exact h
   | 5, h => exact h
   | 6, h => exact h
   | 7, h => exact h
   | 8, h => exact h
   | 9, h => exact h
   | q + 10, _ => trivial
  case step =>
   intro L act W q oo hJ ho hd K3 hK3
   match q, ho with
   | 0, ho =>
    simp only [List.getElem?_toArray, List.getElem?_cons_zero, List.getElem?_cons_succ, Option.some.injEq] at ho
    subst ho
    have hbW := hJ.bel
    have a1 : act.tmps[1]? = some (.pointer (some ⟨w.heap.size, 0, none⟩)) := hJ.out 1 (by decide)
    clear hJ hd
    have bxW := HX.out W hbW
    have x0 := cell_of_row _ _ 0 _ _ _ bxW
    have x1 := cell_of_row _ _ 1 _ _ _ bxW
    have x2 := cell_of_row _ _ 2 _ _ _ bxW
    have x3 := cell_of_row _ _ 3 _ _ _ bxW
    have x4 := cell_of_row _ _ 4 _ _ _ bxW
    have x5 := cell_of_row _ _ 5 _ _ _ bxW
    clear bxW
    go_simp
    exact hK3 _ _ (Below.refl _ _) rfl
   | 1, ho =>
    simp only [List.getElem?_toArray, List.getElem?_cons_zero, List.getElem?_cons_succ, Option.some.injEq] at ho
    subst ho
    simp [Region.binds] at hd
    have hbW := hJ.bel
    have l0 : L 0 = true := by simp [hd]
    have v0 : act.tmps[3]? = some (.agg #[.int .i64 g.roots, .slice AN g.nodes.length cN, .slice AS g.sites.length cS, .int .i64 g.edges, .slice AO g.outer.length cO, .slice AI g.inner.length cI]) := hJ.val l0 rfl (fun u h => h)
    clear hJ hd
    have HBW := Lib.hid hbW
    clear hbW
    go_simp
    go_at_call 108
    refine (isPlacing_any g _ _ _ _ W HSM.out (HG.out W (HB0.out.trans (HBW.out.mono HB0.out.size))) HED.out).mono ?_
    rintro e W' ⟨rfl, hb⟩
    go_simp
    exact hK3 _ _ hb (by rw [HPL.out]; first | done | rfl)
   | 2, ho =>
    simp only [List.getElem?_toArray, List.getElem?_cons_zero, List.getElem?_cons_succ, Option.some.injEq] at ho
    subst ho
    simp [Region.binds] at hd
    have hbW := hJ.bel
    have l1 : L 1 = true := by simp [hd]
    have v1 : act.tmps[4]? = some (.bool false) := hJ.val l1 rfl (fun u h => h)
    clear hJ hd
    go_simp
    exact hK3 _ _ (Below.refl _ _) rfl
   | 3, ho =>
    simp only [List.getElem?_toArray, List.getElem?_cons_zero, List.getElem?_cons_succ, Option.some.injEq] at ho
    subst ho
    simp [Region.binds] at hd
    have hbW := hJ.bel
    have l2 : L 2 = true := by simp [hd]
    have v2 : act.tmps[5]? = some (.bool false) := hJ.val l2 rfl (fun u h => h)
    clear hJ hd
    go_simp
    exact hK3 _ _ (Below.refl _ _) rfl
   | 4, ho =>
    simp only [List.getElem?_toArray, List.getElem?_cons_zero, List.getElem?_cons_succ, Option.some.injEq] at ho
    subst ho
    simp [Region.binds] at hd
    have hbW := hJ.bel
    have l2 : L 2 = true := by simp [hd]
    have v2 : act.tmps[5]? = some (.bool false) := hJ.val l2 rfl (fun u h => h)
    clear hJ hd
    go_simp
    exact hK3 _ _ (Below.refl _ _) rfl
   | 5, ho =>
    simp only [List.getElem?_toArray, List.getElem?_cons_zero, List.getElem?_cons_succ, Option.some.injEq] at ho
    subst ho
    simp [Region.binds] at hd
    have hbW := hJ.bel
    have l2 : L 2 = true := by simp [hd]
    have v2 : act.tmps[5]? = some (.bool false) := hJ.val l2 rfl (fun u h => h)
    clear hJ hd
    go_simp
    exact hK3 _ _ (Below.refl _ _) rfl
   | 6, ho =>
    simp only [List.getElem?_toArray, List.getElem?_cons_zero, List.getElem?_cons_succ, Option.some.injEq] at ho
    subst ho
    simp [Region.binds] at hd
    have hbW := hJ.bel
    have l2 : L 2 = true := by simp [hd]
    have v2 : act.tmps[5]? = some (.bool false) := hJ.val l2 rfl (fun u h => h)
    clear hJ hd
    go_simp
    exact hK3 _ _ (Below.refl _ _) rfl
   | 7, ho =>
    simp only [List.getElem?_toArray, List.getElem?_cons_zero, List.getElem?_cons_succ, Option.some.injEq] at ho
    subst ho
    simp [Region.binds] at hd
    have hbW := hJ.bel
    have l2 : L 2 = true := by simp [hd]
    have v2 : act.tmps[5]? = some (.bool false) := hJ.val l2 rfl (fun u h => h)
    clear hJ hd
    go_simp
    exact hK3 _ _ (Below.refl _ _) rfl
   | 8, ho =>
    simp only [List.getElem?_toArray, List.getElem?_cons_zero, List.getElem?_cons_succ, Option.some.injEq] at ho
    subst ho
    simp [Region.binds] at hd
    have hbW := hJ.bel
    have l2 : L 2 = true := by simp [hd]
    have v2 : act.tmps[5]? = some (.bool false) := hJ.val l2 rfl (fun u h => h)
    have l7 : L 7 = true := by simp [hd]
    have v7 : act.tmps[10]? = some (undef) := hJ.val l7 rfl (fun u h => h)
    clear hJ hd
    go_simp
    exact hK3 _ _ (Below.refl _ _) (by rw [HPB.out]; rfl)
   | 9, ho =>
    simp only [List.getElem?_toArray, List.getElem?_cons_zero, List.getElem?_cons_succ, Option.some.injEq] at ho
    subst ho
    simp [Region.binds] at hd
    have hbW := hJ.bel
    have l8 : L 8 = true := by simp [hd]
    have v8 : act.tmps[11]? = some (.bool (permB g)) := hJ.val l8 rfl (fun u h => h)
    clear hJ hd
    go_simp
    exact hK3 _ _ (Below.refl _ _) rfl
   | q + 10, ho => simp at ho
  case fin =>
   intro V W hbW hV
   have v0 : V 0 = .agg #[.int .i64 g.roots, .slice AN g.nodes.length cN, .slice AS g.sites.length cS, .int .i64 g.edges, .slice AO g.outer.length cO, .slice AI g.inner.length cI] := hV 0 3 rfl
   have v1 : V 1 = .bool false := hV 1 4 rfl
   have v2 : V 2 = .bool false := hV 2 5 rfl
   have v3 : V 3 = undef := hV 3 6 rfl
   have v4 : V 4 = undef := hV 4 7 rfl
   have v5 : V 5 = undef := hV 5 8 rfl
   have v6 : V 6 = undef := hV 6 9 rfl
   have v7 : V 7 = undef := hV 7 10 rfl
   have v8 : V 8 = .bool (permB g) := hV 8 11 rfl
   have v9 : V 9 = .bool (permB g) := hV 9 2 rfl
   clear hV
   simp only [layV, List.setIfInBounds_toArray, List.set_cons_zero, List.set_cons_succ, v0, v1, v2, v3, v4, v5, v6, v7, v8, v9]
   clear v0 v1 v2 v3 v4 v5 v6 v7 v8 v9
   have HZ := Lib.hid (HB0.out.trans (hbW.mono HB0.out.size))
   clear hbW
   go_wp2_with fail
   go_ret
   exact ⟨rfl, HZ.out⟩
 ·have HPL := Lib.hid hpl
  have HPB := Lib.hid (show permB g = orderB g.roots (undG g) from by rw [HPT.out, hpl]; rfl)
  clear hpl
  go_enter Tryz.func107, Tryz.ntmps107
  go_wp2_with fail
  rw [← HW0.out]
  refine wp_region_vals (by kernel_rfl) [some 3, some 4, some 5, some 6, some 7, some 8, some 9, some 10, some 11, some 2] (fun q v W => match q with | 0 => v = .agg #[.int .i64 g.roots, .slice AN g.nodes.length cN, .slice AS g.sites.length cS, .int .i64 g.edges, .slice AO g.outer.length cO, .slice AI g.inner.length cI] | 1 => v = .bool true | 2 => v = .bool true | 3 => v = .pointer (some ⟨w.heap.size, 0, none⟩) | 4 => v = .int .i64 g.roots | 5 => v = .agg #[.int .i64 g.roots, .slice AN g.nodes.length cN, .slice AS g.sites.length cS, .int .i64 g.edges, .slice AO g.outer.length cO, .slice AI g.inner.length cI] | 6 => ∃ A1 c1, v = .slice A1 (undG g).length c1 ∧ Cells W A1 (ints (undG g)) | 7 => v = .bool (orderB g.roots (undG g)) | 8 => v = .bool (permB g) | 9 => v = .bool (permB g) | _ => True) (by kernel_rfl) (by kernel_rfl) ?mono ?step ?fin
  case mono =>
   intro q v W W' hb h
   match q, h with
   | 0, h => exact h
   | 1, h => exact h
   | 2, h => exact h
   | 3, h => exact h
   | 4, h => exact h
   | 5, h => exact h
   | 6, h => exact (by obtain ⟨A1, c1, e, hc⟩ := h; exact ⟨A1, c1, e, hc.below hb⟩)
   | 7, h => exact h
   | 8, h => exact h
   | 9, h => exact h
   | q + 10, _ => trivial
  case step =>
   intro L act W q oo hJ ho hd K3 hK3
   match q, ho with
   | 0, ho =>
    simp only [List.getElem?_toArray, List.getElem?_cons_zero, List.getElem?_cons_succ, Option.some.injEq] at ho
    subst ho
    have hbW := hJ.bel
    have a1 : act.tmps[1]? = some (.pointer (some ⟨w.heap.size, 0, none⟩)) := hJ.out 1 (by decide)
    clear hJ hd
    have bxW := HX.out W hbW
    have x0 := cell_of_row _ _ 0 _ _ _ bxW
    have x1 := cell_of_row _ _ 1 _ _ _ bxW
    have x2 := cell_of_row _ _ 2 _ _ _ bxW
    have x3 := cell_of_row _ _ 3 _ _ _ bxW
    have x4 := cell_of_row _ _ 4 _ _ _ bxW
    have x5 := cell_of_row _ _ 5 _ _ _ bxW
    clear bxW
    go_simp
    exact hK3 _ _ (Below.refl _ _) rfl
   | 1, ho =>
    simp only [List.getElem?_toArray, List.getElem?_cons_zero, List.getElem?_cons_succ, Option.some.injEq] at ho
    subst ho
    simp [Region.binds] at hd
    have hbW := hJ.bel
    have l0 : L 0 = true := by simp [hd]
    have v0 : act.tmps[3]? = some (.agg #[.int .i64 g.roots, .slice AN g.nodes.length cN, .slice AS g.sites.length cS, .int .i64 g.edges, .slice AO g.outer.length cO, .slice AI g.inner.length cI]) := hJ.val l0 rfl (fun u h => h)
    clear hJ hd
    have HBW := Lib.hid hbW
    clear hbW
    go_simp
    go_at_call 108
    refine (isPlacing_any g _ _ _ _ W HSM.out (HG.out W (HB0.out.trans (HBW.out.mono HB0.out.size))) HED.out).mono ?_
    rintro e W' ⟨rfl, hb⟩
    go_simp
    exact hK3 _ _ hb (by rw [HPL.out]; first | done | rfl)
   | 2, ho =>
    simp only [List.getElem?_toArray, List.getElem?_cons_zero, List.getElem?_cons_succ, Option.some.injEq] at ho
    subst ho
    simp [Region.binds] at hd
    have hbW := hJ.bel
    have l1 : L 1 = true := by simp [hd]
    have v1 : act.tmps[4]? = some (.bool true) := hJ.val l1 rfl (fun u h => h)
    clear hJ hd
    go_simp
    exact hK3 _ _ (Below.refl _ _) rfl
   | 3, ho =>
    simp only [List.getElem?_toArray, List.getElem?_cons_zero, List.getElem?_cons_succ, Option.some.injEq] at ho
    subst ho
    simp [Region.binds] at hd
    have hbW := hJ.bel
    have a1 : act.tmps[1]? = some (.pointer (some ⟨w.heap.size, 0, none⟩)) := hJ.out 1 (by decide)
    have l2 : L 2 = true := by simp [hd]
    have v2 : act.tmps[5]? = some (.bool true) := hJ.val l2 rfl (fun u h => h)
    clear hJ hd
    go_simp
    exact hK3 _ _ (Below.refl _ _) rfl
   | 4, ho =>
    simp only [List.getElem?_toArray, List.getElem?_cons_zero, List.getElem?_cons_succ, Option.some.injEq] at ho
    subst ho
    simp [Region.binds] at hd
    have hbW := hJ.bel
    have l2 : L 2 = true := by simp [hd]
    have v2 : act.tmps[5]? = some (.bool true) := hJ.val l2 rfl (fun u h => h)
    have l3 : L 3 = true := by simp [hd]
    have v3 : act.tmps[6]? = some (.pointer (some ⟨w.heap.size, 0, none⟩)) := hJ.val l3 rfl (fun u h => h)
    clear hJ hd
    have bxW := HX.out W hbW
    have x0 := cell_of_row _ _ 0 _ _ _ bxW
    have x1 := cell_of_row _ _ 1 _ _ _ bxW
    have x2 := cell_of_row _ _ 2 _ _ _ bxW
    have x3 := cell_of_row _ _ 3 _ _ _ bxW
    have x4 := cell_of_row _ _ 4 _ _ _ bxW
    have x5 := cell_of_row _ _ 5 _ _ _ bxW
    clear bxW
    go_simp
    exact hK3 _ _ (Below.refl _ _) rfl
   | 5, ho =>
    simp only [List.getElem?_toArray, List.getElem?_cons_zero, List.getElem?_cons_succ, Option.some.injEq] at ho
    subst ho
    simp [Region.binds] at hd
    have hbW := hJ.bel
    have a1 : act.tmps[1]? = some (.pointer (some ⟨w.heap.size, 0, none⟩)) := hJ.out 1 (by decide)
    have l2 : L 2 = true := by simp [hd]
    have v2 : act.tmps[5]? = some (.bool true) := hJ.val l2 rfl (fun u h => h)
    clear hJ hd
    have bxW := HX.out W hbW
    have x0 := cell_of_row _ _ 0 _ _ _ bxW
    have x1 := cell_of_row _ _ 1 _ _ _ bxW
    have x2 := cell_of_row _ _ 2 _ _ _ bxW
    have x3 := cell_of_row _ _ 3 _ _ _ bxW
    have x4 := cell_of_row _ _ 4 _ _ _ bxW
    have x5 := cell_of_row _ _ 5 _ _ _ bxW
    clear bxW
    go_simp
    exact hK3 _ _ (Below.refl _ _) rfl
   | 6, ho =>
    simp only [List.getElem?_toArray, List.getElem?_cons_zero, List.getElem?_cons_succ, Option.some.injEq] at ho
    subst ho
    simp [Region.binds] at hd
    have hbW := hJ.bel
    have l2 : L 2 = true := by simp [hd]
    have v2 : act.tmps[5]? = some (.bool true) := hJ.val l2 rfl (fun u h => h)
    have l5 : L 5 = true := by simp [hd]
    have v5 : act.tmps[8]? = some (.agg #[.int .i64 g.roots, .slice AN g.nodes.length cN, .slice AS g.sites.length cS, .int .i64 g.edges, .slice AO g.outer.length cO, .slice AI g.inner.length cI]) := hJ.val l5 rfl (fun u h => h)
    clear hJ hd
    have HBW := Lib.hid hbW
    clear hbW
    go_simp
    go_at_call 158
    refine (under_any g _ _ _ _ W HSM.out (HG.out W (HB0.out.trans (HBW.out.mono HB0.out.size))) HSB.out).mono ?_
    rintro e W' ⟨r, rfl, ho, hb⟩
    go_simp
    exact hK3 _ _ hb (by obtain ⟨A1, c1, rfl, ho⟩ := owns_form ho; exact ⟨A1, c1, rfl, Cells.of_owns ho⟩)
   | 7, ho =>
    simp only [List.getElem?_toArray, List.getElem?_cons_zero, List.getElem?_cons_succ, Option.some.injEq] at ho
    subst ho
    simp [Region.binds] at hd
    have hbW := hJ.bel
    have l2 : L 2 = true := by simp [hd]
    have v2 : act.tmps[5]? = some (.bool true) := hJ.val l2 rfl (fun u h => h)
    have l4 : L 4 = true := by simp [hd]
    have v4 : act.tmps[7]? = some (.int .i64 g.roots) := hJ.val l4 rfl (fun u h => h)
    have l6 : L 6 = true := by simp [hd]
    obtain ⟨u6, v6, A1, c1, rfl, hr6⟩ := hJ.has 6 9 l6 rfl
    clear hJ hd
    have HBW := Lib.hid hbW
    clear hbW
    go_simp
    go_at_call 99
    refine (isOrder_any g.roots _ _ (undG g) W HUL.out hr6).mono ?_
    rintro e W' ⟨rfl, hb⟩
    go_simp
    exact hK3 _ _ hb rfl
   | 8, ho =>
    simp only [List.getElem?_toArray, List.getElem?_cons_zero, List.getElem?_cons_succ, Option.some.injEq] at ho
    subst ho
    simp [Region.binds] at hd
    have hbW := hJ.bel
    have l2 : L 2 = true := by simp [hd]
    have v2 : act.tmps[5]? = some (.bool true) := hJ.val l2 rfl (fun u h => h)
    have l7 : L 7 = true := by simp [hd]
    have v7 : act.tmps[10]? = some (.bool (orderB g.roots (undG g))) := hJ.val l7 rfl (fun u h => h)
    clear hJ hd
    go_simp
    exact hK3 _ _ (Below.refl _ _) (by rw [HPB.out]; rfl)
   | 9, ho =>
    simp only [List.getElem?_toArray, List.getElem?_cons_zero, List.getElem?_cons_succ, Option.some.injEq] at ho
    subst ho
    simp [Region.binds] at hd
    have hbW := hJ.bel
    have l8 : L 8 = true := by simp [hd]
    have v8 : act.tmps[11]? = some (.bool (permB g)) := hJ.val l8 rfl (fun u h => h)
    clear hJ hd
    go_simp
    exact hK3 _ _ (Below.refl _ _) rfl
   | q + 10, ho => simp at ho
  case fin =>
   intro V W hbW hV
   have v0 : V 0 = .agg #[.int .i64 g.roots, .slice AN g.nodes.length cN, .slice AS g.sites.length cS, .int .i64 g.edges, .slice AO g.outer.length cO, .slice AI g.inner.length cI] := hV 0 3 rfl
   have v1 : V 1 = .bool true := hV 1 4 rfl
   have v2 : V 2 = .bool true := hV 2 5 rfl
   have v3 : V 3 = .pointer (some ⟨w.heap.size, 0, none⟩) := hV 3 6 rfl
   have v4 : V 4 = .int .i64 g.roots := hV 4 7 rfl
   have v5 : V 5 = .agg #[.int .i64 g.roots, .slice AN g.nodes.length cN, .slice AS g.sites.length cS, .int .i64 g.edges, .slice AO g.outer.length cO, .slice AI g.inner.length cI] := hV 5 8 rfl
   obtain ⟨A16, c16, v6, hr6⟩ : ∃ A1 c1, V 6 = .slice A1 (undG g).length c1 ∧ Cells W A1 (ints (undG g)) := hV 6 9 rfl
   have v7 : V 7 = .bool (orderB g.roots (undG g)) := hV 7 10 rfl
   have v8 : V 8 = .bool (permB g) := hV 8 11 rfl
   have v9 : V 9 = .bool (permB g) := hV 9 2 rfl
   clear hV
   simp only [layV, List.setIfInBounds_toArray, List.set_cons_zero, List.set_cons_succ, v0, v1, v2, v3, v4, v5, v6, v7, v8, v9]
   clear v0 v1 v2 v3 v4 v5 v6 v7 v8 v9
   have HZ := Lib.hid (HB0.out.trans (hbW.mono HB0.out.size))
   clear hbW
   go_wp2_with fail
   go_ret
   exact ⟨rfl, HZ.out⟩

set_option maxRecDepth 100000 in
set_option maxHeartbeats 4000000 in
theorem implIsPlacing_any (sig : List Ct) (g : Gr) (nv sv ov iv gv : Value) (w : World) (hs : SmallG g) (hz : SmallS sig) (hcap : CapOk gv) (hS : RSl RCt 3 w gv sig) (hG : RGr w nv sv ov iv g) :
  Calls Tryz.prog 29 #[gv, .agg #[.int .i64 g.roots, nv, sv, .int .i64 g.edges, ov, iv]] w fun e w' => e = .returned (.bool (placR sig g)) ∧ Below w.heap.size w w' := by
 have HG := Lib.hid (show ∀ W, Below w.heap.size w W → RGr W nv sv ov iv g from fun W hb => hG.below hb)
 have HS := Lib.hid (show ∀ W, Below w.heap.size w W → RSl RCt 3 W gv sig from fun W hb => hS.below RCt_keep hb)
 have HSM := Lib.hid hs
 obtain ⟨AN, cN, AS, cS, AO, cO, AI, cI, rfl, rfl, rfl, rfl⟩ := hG.form
 obtain ⟨AG, cG, rfl, _⟩ := hS.form
 obtain ⟨w0, hw0⟩ : ∃ w0, w0 = w.alloc (.cells #[.int .i64 g.roots, .slice AN g.nodes.length cN, .slice AS g.sites.length cS, .int .i64 g.edges, .slice AO g.outer.length cO, .slice AI g.inner.length cI] 31) := ⟨_, rfl⟩
 have hb0 : Below w.heap.size w w0 := by rw [hw0]; exact (Below.refl _ _).alloc (Nat.le_refl _) _
 have bx0 : w0.heap[w.heap.size]? = some (.cells #[.int .i64 g.roots, .slice AN g.nodes.length cN, .slice AS g.sites.length cS, .int .i64 g.edges, .slice AO g.outer.length cO, .slice AI g.inner.length cI] 31) := by rw [hw0]; exact heap_alloc_new _ _
 have hsz0 : w0.heap.size = w.heap.size + 1 := by rw [hw0]; simp
 have HX := Lib.hid (show ∀ W, Below w0.heap.size w0 W → W.heap[w.heap.size]? = some (.cells #[.int .i64 g.roots, .slice AN g.nodes.length cN, .slice AS g.sites.length cS, .int .i64 g.edges, .slice AO g.outer.length cO, .slice AI g.inner.length cI] 31) from fun W hW => (hW.block _ (by omega)).trans bx0)
 have HB0 := Lib.hid hb0
 have HW0 := Lib.hid hw0
 have H1 := Lib.hid (isBigraph_any sig g _ _ _ _ _ w0 hs hz hcap (HS.out w0 hb0) (HG.out w0 hb0))
 have x0 := cell_of_row _ _ 0 _ _ _ bx0
 have x1 := cell_of_row _ _ 1 _ _ _ bx0
 have x2 := cell_of_row _ _ 2 _ _ _ bx0
 have x3 := cell_of_row _ _ 3 _ _ _ bx0
 have x4 := cell_of_row _ _ 4 _ _ _ bx0
 have x5 := cell_of_row _ _ 5 _ _ _ bx0
 rw [hw0] at x0 x1 x2 x3 x4 x5
 clear hs hG hb0 bx0 hw0 hS hz hcap
 cases c0 : (goodG sig g)
 ·have HE := Lib.hid (show placR sig g = false from by rw [placR_eq, c0]; first | done | rfl)
  rw [c0] at H1
  go_enter Tryz.func29, Tryz.ntmps29
  go_wp2_with fail
  rw [← HW0.out]
  (with_reducible refine H1.out.mono ?_)
  rintro e w1 ⟨rfl, hb⟩
  have HW1 := Lib.hid hb
  have HZ1 := Lib.hid (HB0.out.trans (hb.mono HB0.out.size))
  clear hb x0 x1 x2 x3 x4 x5
  go_wp2_with fail
  go_ret
  exact ⟨by first | rfl | (rw [HE.out]; done) | (rw [HE.out]; rfl), HZ1.out⟩
 ·have HGP := Lib.hid ((good_iff sig g).1 c0)
  cases c1 : (placB g)
  ·have HE := Lib.hid (show placR sig g = false from by rw [placR_eq, c0, c1]; first | done | rfl)
   rw [c0] at H1
   go_enter Tryz.func29, Tryz.ntmps29
   go_wp2_with fail
   rw [← HW0.out]
   (with_reducible refine H1.out.mono ?_)
   rintro e w1 ⟨rfl, hb⟩
   have HW1 := Lib.hid hb
   have HZ1 := Lib.hid (HB0.out.trans (hb.mono HB0.out.size))
   clear hb x0 x1 x2 x3 x4 x5
   have bxr := HX.out w1 HW1.out
   have x0 := cell_of_row _ _ 0 _ _ _ bxr
   have x1 := cell_of_row _ _ 1 _ _ _ bxr
   have x2 := cell_of_row _ _ 2 _ _ _ bxr
   have x3 := cell_of_row _ _ 3 _ _ _ bxr
   have x4 := cell_of_row _ _ 4 _ _ _ bxr
   have x5 := cell_of_row _ _ 5 _ _ _ bxr
   clear bxr
   have HC1 := Lib.hid (isPlacing_any g _ _ _ _ w1 HSM.out (HG.out w1 HZ1.out) HGP.out.e.1)
   rw [c1] at HC1
   go_wp2_with fail
   (with_reducible refine HC1.out.mono ?_)
   rintro e w2 ⟨rfl, hb⟩
   have HW2 := Lib.hid (HW1.out.trans (hb.mono HW1.out.size))
   have HZ2 := Lib.hid (HZ1.out.trans (hb.mono HZ1.out.size))
   clear hb x0 x1 x2 x3 x4 x5
   go_wp2_with fail
   go_ret
   exact ⟨by first | rfl | (rw [HE.out]; done) | (rw [HE.out]; rfl), HZ2.out⟩
  ·have HE := Lib.hid (show placR sig g = true from by rw [placR_eq, c0, c1]; first | done | rfl)
   rw [c0] at H1
   go_enter Tryz.func29, Tryz.ntmps29
   go_wp2_with fail
   rw [← HW0.out]
   (with_reducible refine H1.out.mono ?_)
   rintro e w1 ⟨rfl, hb⟩
   have HW1 := Lib.hid hb
   have HZ1 := Lib.hid (HB0.out.trans (hb.mono HB0.out.size))
   clear hb x0 x1 x2 x3 x4 x5
   have bxr := HX.out w1 HW1.out
   have x0 := cell_of_row _ _ 0 _ _ _ bxr
   have x1 := cell_of_row _ _ 1 _ _ _ bxr
   have x2 := cell_of_row _ _ 2 _ _ _ bxr
   have x3 := cell_of_row _ _ 3 _ _ _ bxr
   have x4 := cell_of_row _ _ 4 _ _ _ bxr
   have x5 := cell_of_row _ _ 5 _ _ _ bxr
   clear bxr
   have HC1 := Lib.hid (isPlacing_any g _ _ _ _ w1 HSM.out (HG.out w1 HZ1.out) HGP.out.e.1)
   rw [c1] at HC1
   go_wp2_with fail
   (with_reducible refine HC1.out.mono ?_)
   rintro e w2 ⟨rfl, hb⟩
   have HW2 := Lib.hid (HW1.out.trans (hb.mono HW1.out.size))
   have HZ2 := Lib.hid (HZ1.out.trans (hb.mono HZ1.out.size))
   clear hb x0 x1 x2 x3 x4 x5
   go_wp2_with fail
   go_ret
   exact ⟨by first | rfl | (rw [HE.out]; done) | (rw [HE.out]; rfl), HZ2.out⟩

set_option maxRecDepth 100000 in
set_option maxHeartbeats 4000000 in
theorem implIsPermutation_any (sig : List Ct) (g : Gr) (nv sv ov iv gv : Value) (w : World) (hs : SmallG g) (hz : SmallS sig) (hcap : CapOk gv) (hS : RSl RCt 3 w gv sig) (hG : RGr w nv sv ov iv g) :
  Calls Tryz.prog 28 #[gv, .agg #[.int .i64 g.roots, nv, sv, .int .i64 g.edges, ov, iv]] w fun e w' => e = .returned (.bool (permR sig g)) ∧ Below w.heap.size w w' := by
 have HG := Lib.hid (show ∀ W, Below w.heap.size w W → RGr W nv sv ov iv g from fun W hb => hG.below hb)
 have HS := Lib.hid (show ∀ W, Below w.heap.size w W → RSl RCt 3 W gv sig from fun W hb => hS.below RCt_keep hb)
 have HSM := Lib.hid hs
 obtain ⟨AN, cN, AS, cS, AO, cO, AI, cI, rfl, rfl, rfl, rfl⟩ := hG.form
 obtain ⟨AG, cG, rfl, _⟩ := hS.form
 obtain ⟨w0, hw0⟩ : ∃ w0, w0 = w.alloc (.cells #[.int .i64 g.roots, .slice AN g.nodes.length cN, .slice AS g.sites.length cS, .int .i64 g.edges, .slice AO g.outer.length cO, .slice AI g.inner.length cI] 31) := ⟨_, rfl⟩
 have hb0 : Below w.heap.size w w0 := by rw [hw0]; exact (Below.refl _ _).alloc (Nat.le_refl _) _
 have bx0 : w0.heap[w.heap.size]? = some (.cells #[.int .i64 g.roots, .slice AN g.nodes.length cN, .slice AS g.sites.length cS, .int .i64 g.edges, .slice AO g.outer.length cO, .slice AI g.inner.length cI] 31) := by rw [hw0]; exact heap_alloc_new _ _
 have hsz0 : w0.heap.size = w.heap.size + 1 := by rw [hw0]; simp
 have HX := Lib.hid (show ∀ W, Below w0.heap.size w0 W → W.heap[w.heap.size]? = some (.cells #[.int .i64 g.roots, .slice AN g.nodes.length cN, .slice AS g.sites.length cS, .int .i64 g.edges, .slice AO g.outer.length cO, .slice AI g.inner.length cI] 31) from fun W hW => (hW.block _ (by omega)).trans bx0)
 have HB0 := Lib.hid hb0
 have HW0 := Lib.hid hw0
 have H1 := Lib.hid (isBigraph_any sig g _ _ _ _ _ w0 hs hz hcap (HS.out w0 hb0) (HG.out w0 hb0))
 have x0 := cell_of_row _ _ 0 _ _ _ bx0
 have x1 := cell_of_row _ _ 1 _ _ _ bx0
 have x2 := cell_of_row _ _ 2 _ _ _ bx0
 have x3 := cell_of_row _ _ 3 _ _ _ bx0
 have x4 := cell_of_row _ _ 4 _ _ _ bx0
 have x5 := cell_of_row _ _ 5 _ _ _ bx0
 rw [hw0] at x0 x1 x2 x3 x4 x5
 clear hs hG hb0 bx0 hw0 hS hz hcap
 cases c0 : (goodG sig g)
 ·have HE := Lib.hid (show permR sig g = false from by rw [permR_eq, c0]; first | done | rfl)
  rw [c0] at H1
  go_enter Tryz.func28, Tryz.ntmps28
  go_wp2_with fail
  rw [← HW0.out]
  (with_reducible refine H1.out.mono ?_)
  rintro e w1 ⟨rfl, hb⟩
  have HW1 := Lib.hid hb
  have HZ1 := Lib.hid (HB0.out.trans (hb.mono HB0.out.size))
  clear hb x0 x1 x2 x3 x4 x5
  go_wp2_with fail
  go_ret
  exact ⟨by first | rfl | (rw [HE.out]; done) | (rw [HE.out]; rfl), HZ1.out⟩
 ·have HGP := Lib.hid ((good_iff sig g).1 c0)
  cases c1 : (permB g)
  ·have HE := Lib.hid (show permR sig g = false from by rw [permR_eq, c0, c1]; first | done | rfl)
   rw [c0] at H1
   go_enter Tryz.func28, Tryz.ntmps28
   go_wp2_with fail
   rw [← HW0.out]
   (with_reducible refine H1.out.mono ?_)
   rintro e w1 ⟨rfl, hb⟩
   have HW1 := Lib.hid hb
   have HZ1 := Lib.hid (HB0.out.trans (hb.mono HB0.out.size))
   clear hb x0 x1 x2 x3 x4 x5
   have bxr := HX.out w1 HW1.out
   have x0 := cell_of_row _ _ 0 _ _ _ bxr
   have x1 := cell_of_row _ _ 1 _ _ _ bxr
   have x2 := cell_of_row _ _ 2 _ _ _ bxr
   have x3 := cell_of_row _ _ 3 _ _ _ bxr
   have x4 := cell_of_row _ _ 4 _ _ _ bxr
   have x5 := cell_of_row _ _ 5 _ _ _ bxr
   clear bxr
   have HC1 := Lib.hid (isPermutation_any g _ _ _ _ w1 HSM.out (HG.out w1 HZ1.out) HGP.out.e.1 (sits_bound HGP.out))
   rw [c1] at HC1
   go_wp2_with fail
   (with_reducible refine HC1.out.mono ?_)
   rintro e w2 ⟨rfl, hb⟩
   have HW2 := Lib.hid (HW1.out.trans (hb.mono HW1.out.size))
   have HZ2 := Lib.hid (HZ1.out.trans (hb.mono HZ1.out.size))
   clear hb x0 x1 x2 x3 x4 x5
   go_wp2_with fail
   go_ret
   exact ⟨by first | rfl | (rw [HE.out]; done) | (rw [HE.out]; rfl), HZ2.out⟩
  ·have HE := Lib.hid (show permR sig g = true from by rw [permR_eq, c0, c1]; first | done | rfl)
   rw [c0] at H1
   go_enter Tryz.func28, Tryz.ntmps28
   go_wp2_with fail
   rw [← HW0.out]
   (with_reducible refine H1.out.mono ?_)
   rintro e w1 ⟨rfl, hb⟩
   have HW1 := Lib.hid hb
   have HZ1 := Lib.hid (HB0.out.trans (hb.mono HB0.out.size))
   clear hb x0 x1 x2 x3 x4 x5
   have bxr := HX.out w1 HW1.out
   have x0 := cell_of_row _ _ 0 _ _ _ bxr
   have x1 := cell_of_row _ _ 1 _ _ _ bxr
   have x2 := cell_of_row _ _ 2 _ _ _ bxr
   have x3 := cell_of_row _ _ 3 _ _ _ bxr
   have x4 := cell_of_row _ _ 4 _ _ _ bxr
   have x5 := cell_of_row _ _ 5 _ _ _ bxr
   clear bxr
   have HC1 := Lib.hid (isPermutation_any g _ _ _ _ w1 HSM.out (HG.out w1 HZ1.out) HGP.out.e.1 (sits_bound HGP.out))
   rw [c1] at HC1
   go_wp2_with fail
   (with_reducible refine HC1.out.mono ?_)
   rintro e w2 ⟨rfl, hb⟩
   have HW2 := Lib.hid (HW1.out.trans (hb.mono HW1.out.size))
   have HZ2 := Lib.hid (HZ1.out.trans (hb.mono HZ1.out.size))
   clear hb x0 x1 x2 x3 x4 x5
   go_wp2_with fail
   go_ret
   exact ⟨by first | rfl | (rw [HE.out]; done) | (rw [HE.out]; rfl), HZ2.out⟩

set_option maxRecDepth 100000 in
set_option maxHeartbeats 4000000 in
theorem implIsWiring_any (sig : List Ct) (g : Gr) (nv sv ov iv gv : Value) (w : World) (hs : SmallG g) (hz : SmallS sig) (hcap : CapOk gv) (hS : RSl RCt 3 w gv sig) (hG : RGr w nv sv ov iv g) :
  Calls Tryz.prog 46 #[gv, .agg #[.int .i64 g.roots, nv, sv, .int .i64 g.edges, ov, iv]] w fun e w' => e = .returned (.bool (wirR sig g)) ∧ Below w.heap.size w w' := by
 have HG := Lib.hid (show ∀ W, Below w.heap.size w W → RGr W nv sv ov iv g from fun W hb => hG.below hb)
 have HS := Lib.hid (show ∀ W, Below w.heap.size w W → RSl RCt 3 W gv sig from fun W hb => hS.below RCt_keep hb)
 have HSM := Lib.hid hs
 obtain ⟨AN, cN, AS, cS, AO, cO, AI, cI, rfl, rfl, rfl, rfl⟩ := hG.form
 obtain ⟨AG, cG, rfl, _⟩ := hS.form
 obtain ⟨w0, hw0⟩ : ∃ w0, w0 = w.alloc (.cells #[.int .i64 g.roots, .slice AN g.nodes.length cN, .slice AS g.sites.length cS, .int .i64 g.edges, .slice AO g.outer.length cO, .slice AI g.inner.length cI] 31) := ⟨_, rfl⟩
 have hb0 : Below w.heap.size w w0 := by rw [hw0]; exact (Below.refl _ _).alloc (Nat.le_refl _) _
 have bx0 : w0.heap[w.heap.size]? = some (.cells #[.int .i64 g.roots, .slice AN g.nodes.length cN, .slice AS g.sites.length cS, .int .i64 g.edges, .slice AO g.outer.length cO, .slice AI g.inner.length cI] 31) := by rw [hw0]; exact heap_alloc_new _ _
 have hsz0 : w0.heap.size = w.heap.size + 1 := by rw [hw0]; simp
 have HX := Lib.hid (show ∀ W, Below w0.heap.size w0 W → W.heap[w.heap.size]? = some (.cells #[.int .i64 g.roots, .slice AN g.nodes.length cN, .slice AS g.sites.length cS, .int .i64 g.edges, .slice AO g.outer.length cO, .slice AI g.inner.length cI] 31) from fun W hW => (hW.block _ (by omega)).trans bx0)
 have HB0 := Lib.hid hb0
 have HW0 := Lib.hid hw0
 have H1 := Lib.hid (isBigraph_any sig g _ _ _ _ _ w0 hs hz hcap (HS.out w0 hb0) (HG.out w0 hb0))
 have x0 := cell_of_row _ _ 0 _ _ _ bx0
 have x1 := cell_of_row _ _ 1 _ _ _ bx0
 have x2 := cell_of_row _ _ 2 _ _ _ bx0
 have x3 := cell_of_row _ _ 3 _ _ _ bx0
 have x4 := cell_of_row _ _ 4 _ _ _ bx0
 have x5 := cell_of_row _ _ 5 _ _ _ bx0
 rw [hw0] at x0 x1 x2 x3 x4 x5
 clear hs hG hb0 bx0 hw0 hS hz hcap
 cases c0 : (goodG sig g)
 ·have HE := Lib.hid (show wirR sig g = false from by rw [wirR_alt, c0]; first | done | rfl)
  rw [c0] at H1
  go_enter Tryz.func46, Tryz.ntmps46
  go_wp2_with fail
  rw [← HW0.out]
  (with_reducible refine H1.out.mono ?_)
  rintro e w1 ⟨rfl, hb⟩
  have HW1 := Lib.hid hb
  have HZ1 := Lib.hid (HB0.out.trans (hb.mono HB0.out.size))
  clear hb x0 x1 x2 x3 x4 x5
  go_wp2_with fail
  go_ret
  exact ⟨by first | rfl | (rw [HE.out]; done) | (rw [HE.out]; rfl), HZ1.out⟩
 ·have HGP := Lib.hid ((good_iff sig g).1 c0)
  cases c1 : (g.roots == 0)
  ·have HE := Lib.hid (show wirR sig g = false from by rw [wirR_alt, c0, c1]; first | done | rfl)
   rw [c0] at H1
   go_enter Tryz.func46, Tryz.ntmps46
   go_wp2_with fail
   rw [← HW0.out]
   (with_reducible refine H1.out.mono ?_)
   rintro e w1 ⟨rfl, hb⟩
   have HW1 := Lib.hid hb
   have HZ1 := Lib.hid (HB0.out.trans (hb.mono HB0.out.size))
   clear hb x0 x1 x2 x3 x4 x5
   have bxr := HX.out w1 HW1.out
   have x0 := cell_of_row _ _ 0 _ _ _ bxr
   have x1 := cell_of_row _ _ 1 _ _ _ bxr
   have x2 := cell_of_row _ _ 2 _ _ _ bxr
   have x3 := cell_of_row _ _ 3 _ _ _ bxr
   have x4 := cell_of_row _ _ 4 _ _ _ bxr
   have x5 := cell_of_row _ _ 5 _ _ _ bxr
   clear bxr
   go_wp2_with fail
   go_ret
   exact ⟨by first | rfl | (rw [HE.out]; done) | (rw [HE.out]; rfl), HZ1.out⟩
  ·have HE := Lib.hid (show wirR sig g = true from by rw [wirR_alt, c0, c1]; first | done | rfl)
   rw [c0] at H1
   go_enter Tryz.func46, Tryz.ntmps46
   go_wp2_with fail
   rw [← HW0.out]
   (with_reducible refine H1.out.mono ?_)
   rintro e w1 ⟨rfl, hb⟩
   have HW1 := Lib.hid hb
   have HZ1 := Lib.hid (HB0.out.trans (hb.mono HB0.out.size))
   clear hb x0 x1 x2 x3 x4 x5
   have bxr := HX.out w1 HW1.out
   have x0 := cell_of_row _ _ 0 _ _ _ bxr
   have x1 := cell_of_row _ _ 1 _ _ _ bxr
   have x2 := cell_of_row _ _ 2 _ _ _ bxr
   have x3 := cell_of_row _ _ 3 _ _ _ bxr
   have x4 := cell_of_row _ _ 4 _ _ _ bxr
   have x5 := cell_of_row _ _ 5 _ _ _ bxr
   clear bxr
   go_wp2_with fail
   go_ret
   exact ⟨by first | rfl | (rw [HE.out]; done) | (rw [HE.out]; rfl), HZ1.out⟩

set_option maxRecDepth 100000 in
set_option maxHeartbeats 4000000 in
theorem implIsSubstitution_any (sig : List Ct) (g : Gr) (nv sv ov iv gv : Value) (w : World) (hs : SmallG g) (hz : SmallS sig) (hcap : CapOk gv) (hS : RSl RCt 3 w gv sig) (hG : RGr w nv sv ov iv g) :
  Calls Tryz.prog 45 #[gv, .agg #[.int .i64 g.roots, nv, sv, .int .i64 g.edges, ov, iv]] w fun e w' => e = .returned (.bool (openR sig g)) ∧ Below w.heap.size w w' := by
 have HG := Lib.hid (show ∀ W, Below w.heap.size w W → RGr W nv sv ov iv g from fun W hb => hG.below hb)
 have HS := Lib.hid (show ∀ W, Below w.heap.size w W → RSl RCt 3 W gv sig from fun W hb => hS.below RCt_keep hb)
 have HSM := Lib.hid hs
 obtain ⟨AN, cN, AS, cS, AO, cO, AI, cI, rfl, rfl, rfl, rfl⟩ := hG.form
 obtain ⟨AG, cG, rfl, _⟩ := hS.form
 obtain ⟨w0, hw0⟩ : ∃ w0, w0 = w.alloc (.cells #[.int .i64 g.roots, .slice AN g.nodes.length cN, .slice AS g.sites.length cS, .int .i64 g.edges, .slice AO g.outer.length cO, .slice AI g.inner.length cI] 31) := ⟨_, rfl⟩
 have hb0 : Below w.heap.size w w0 := by rw [hw0]; exact (Below.refl _ _).alloc (Nat.le_refl _) _
 have bx0 : w0.heap[w.heap.size]? = some (.cells #[.int .i64 g.roots, .slice AN g.nodes.length cN, .slice AS g.sites.length cS, .int .i64 g.edges, .slice AO g.outer.length cO, .slice AI g.inner.length cI] 31) := by rw [hw0]; exact heap_alloc_new _ _
 have hsz0 : w0.heap.size = w.heap.size + 1 := by rw [hw0]; simp
 have HX := Lib.hid (show ∀ W, Below w0.heap.size w0 W → W.heap[w.heap.size]? = some (.cells #[.int .i64 g.roots, .slice AN g.nodes.length cN, .slice AS g.sites.length cS, .int .i64 g.edges, .slice AO g.outer.length cO, .slice AI g.inner.length cI] 31) from fun W hW => (hW.block _ (by omega)).trans bx0)
 have HB0 := Lib.hid hb0
 have HW0 := Lib.hid hw0
 have H1 := Lib.hid (implIsWiring_any sig g _ _ _ _ _ w0 hs hz hcap (HS.out w0 hb0) (HG.out w0 hb0))
 have x0 := cell_of_row _ _ 0 _ _ _ bx0
 have x1 := cell_of_row _ _ 1 _ _ _ bx0
 have x2 := cell_of_row _ _ 2 _ _ _ bx0
 have x3 := cell_of_row _ _ 3 _ _ _ bx0
 have x4 := cell_of_row _ _ 4 _ _ _ bx0
 have x5 := cell_of_row _ _ 5 _ _ _ bx0
 rw [hw0] at x0 x1 x2 x3 x4 x5
 clear hs hG hb0 bx0 hw0 hS hz hcap
 cases c0 : (wirR sig g)
 ·have HE := Lib.hid (show openR sig g = false from by rw [openR_eq, c0]; first | done | rfl)
  rw [c0] at H1
  go_enter Tryz.func45, Tryz.ntmps45
  go_wp2_with fail
  rw [← HW0.out]
  (with_reducible refine H1.out.mono ?_)
  rintro e w1 ⟨rfl, hb⟩
  have HW1 := Lib.hid hb
  have HZ1 := Lib.hid (HB0.out.trans (hb.mono HB0.out.size))
  clear hb x0 x1 x2 x3 x4 x5
  go_wp2_with fail
  go_ret
  exact ⟨by first | rfl | (rw [HE.out]; done) | (rw [HE.out]; rfl), HZ1.out⟩
 ·cases c1 : (g.edges == 0)
  ·have HE := Lib.hid (show openR sig g = false from by rw [openR_eq, c0, c1]; first | done | rfl)
   rw [c0] at H1
   go_enter Tryz.func45, Tryz.ntmps45
   go_wp2_with fail
   rw [← HW0.out]
   (with_reducible refine H1.out.mono ?_)
   rintro e w1 ⟨rfl, hb⟩
   have HW1 := Lib.hid hb
   have HZ1 := Lib.hid (HB0.out.trans (hb.mono HB0.out.size))
   clear hb x0 x1 x2 x3 x4 x5
   have bxr := HX.out w1 HW1.out
   have x0 := cell_of_row _ _ 0 _ _ _ bxr
   have x1 := cell_of_row _ _ 1 _ _ _ bxr
   have x2 := cell_of_row _ _ 2 _ _ _ bxr
   have x3 := cell_of_row _ _ 3 _ _ _ bxr
   have x4 := cell_of_row _ _ 4 _ _ _ bxr
   have x5 := cell_of_row _ _ 5 _ _ _ bxr
   clear bxr
   go_wp2_with fail
   go_ret
   exact ⟨by first | rfl | (rw [HE.out]; done) | (rw [HE.out]; rfl), HZ1.out⟩
  ·have HE := Lib.hid (show openR sig g = true from by rw [openR_eq, c0, c1]; first | done | rfl)
   rw [c0] at H1
   go_enter Tryz.func45, Tryz.ntmps45
   go_wp2_with fail
   rw [← HW0.out]
   (with_reducible refine H1.out.mono ?_)
   rintro e w1 ⟨rfl, hb⟩
   have HW1 := Lib.hid hb
   have HZ1 := Lib.hid (HB0.out.trans (hb.mono HB0.out.size))
   clear hb x0 x1 x2 x3 x4 x5
   have bxr := HX.out w1 HW1.out
   have x0 := cell_of_row _ _ 0 _ _ _ bxr
   have x1 := cell_of_row _ _ 1 _ _ _ bxr
   have x2 := cell_of_row _ _ 2 _ _ _ bxr
   have x3 := cell_of_row _ _ 3 _ _ _ bxr
   have x4 := cell_of_row _ _ 4 _ _ _ bxr
   have x5 := cell_of_row _ _ 5 _ _ _ bxr
   clear bxr
   go_wp2_with fail
   go_ret
   exact ⟨by first | rfl | (rw [HE.out]; done) | (rw [HE.out]; rfl), HZ1.out⟩

set_option maxRecDepth 100000 in
set_option maxHeartbeats 4000000 in
theorem implIsRenaming_any (sig : List Ct) (g : Gr) (nv sv ov iv gv : Value) (w : World) (hs : SmallG g) (hz : SmallS sig) (hcap : CapOk gv) (hS : RSl RCt 3 w gv sig) (hG : RGr w nv sv ov iv g) :
  Calls Tryz.prog 71 #[gv, .agg #[.int .i64 g.roots, nv, sv, .int .i64 g.edges, ov, iv]] w fun e w' => e = .returned (.bool (renR sig g)) ∧ Below w.heap.size w w' := by
 have HG := Lib.hid (show ∀ W, Below w.heap.size w W → RGr W nv sv ov iv g from fun W hb => hG.below hb)
 have HS := Lib.hid (show ∀ W, Below w.heap.size w W → RSl RCt 3 W gv sig from fun W hb => hS.below RCt_keep hb)
 have HSM := Lib.hid hs
 obtain ⟨AN, cN, AS, cS, AO, cO, AI, cI, rfl, rfl, rfl, rfl⟩ := hG.form
 obtain ⟨AG, cG, rfl, _⟩ := hS.form
 obtain ⟨w0, hw0⟩ : ∃ w0, w0 = w.alloc (.cells #[.int .i64 g.roots, .slice AN g.nodes.length cN, .slice AS g.sites.length cS, .int .i64 g.edges, .slice AO g.outer.length cO, .slice AI g.inner.length cI] 31) := ⟨_, rfl⟩
 have hb0 : Below w.heap.size w w0 := by rw [hw0]; exact (Below.refl _ _).alloc (Nat.le_refl _) _
 have bx0 : w0.heap[w.heap.size]? = some (.cells #[.int .i64 g.roots, .slice AN g.nodes.length cN, .slice AS g.sites.length cS, .int .i64 g.edges, .slice AO g.outer.length cO, .slice AI g.inner.length cI] 31) := by rw [hw0]; exact heap_alloc_new _ _
 have hsz0 : w0.heap.size = w.heap.size + 1 := by rw [hw0]; simp
 have HX := Lib.hid (show ∀ W, Below w0.heap.size w0 W → W.heap[w.heap.size]? = some (.cells #[.int .i64 g.roots, .slice AN g.nodes.length cN, .slice AS g.sites.length cS, .int .i64 g.edges, .slice AO g.outer.length cO, .slice AI g.inner.length cI] 31) from fun W hW => (hW.block _ (by omega)).trans bx0)
 have HB0 := Lib.hid hb0
 have HW0 := Lib.hid hw0
 have H1 := Lib.hid (implIsSubstitution_any sig g _ _ _ _ _ w0 hs hz hcap (HS.out w0 hb0) (HG.out w0 hb0))
 have x0 := cell_of_row _ _ 0 _ _ _ bx0
 have x1 := cell_of_row _ _ 1 _ _ _ bx0
 have x2 := cell_of_row _ _ 2 _ _ _ bx0
 have x3 := cell_of_row _ _ 3 _ _ _ bx0
 have x4 := cell_of_row _ _ 4 _ _ _ bx0
 have x5 := cell_of_row _ _ 5 _ _ _ bx0
 rw [hw0] at x0 x1 x2 x3 x4 x5
 clear hs hG hb0 bx0 hw0 hS hz hcap
 cases c0 : (openR sig g)
 ·have HE := Lib.hid (show renR sig g = false from by rw [renR_eq, c0]; first | done | rfl)
  rw [c0] at H1
  go_enter Tryz.func71, Tryz.ntmps71
  go_wp2_with fail
  rw [← HW0.out]
  (with_reducible refine H1.out.mono ?_)
  rintro e w1 ⟨rfl, hb⟩
  have HW1 := Lib.hid hb
  have HZ1 := Lib.hid (HB0.out.trans (hb.mono HB0.out.size))
  clear hb x0 x1 x2 x3 x4 x5
  go_wp2_with fail
  go_ret
  exact ⟨by first | rfl | (rw [HE.out]; done) | (rw [HE.out]; rfl), HZ1.out⟩
 ·cases c1 : (oneB g)
  ·have HE := Lib.hid (show renR sig g = false from by rw [renR_eq, c0, c1]; first | done | rfl)
   rw [c0] at H1
   go_enter Tryz.func71, Tryz.ntmps71
   go_wp2_with fail
   rw [← HW0.out]
   (with_reducible refine H1.out.mono ?_)
   rintro e w1 ⟨rfl, hb⟩
   have HW1 := Lib.hid hb
   have HZ1 := Lib.hid (HB0.out.trans (hb.mono HB0.out.size))
   clear hb x0 x1 x2 x3 x4 x5
   have bxr := HX.out w1 HW1.out
   have x0 := cell_of_row _ _ 0 _ _ _ bxr
   have x1 := cell_of_row _ _ 1 _ _ _ bxr
   have x2 := cell_of_row _ _ 2 _ _ _ bxr
   have x3 := cell_of_row _ _ 3 _ _ _ bxr
   have x4 := cell_of_row _ _ 4 _ _ _ bxr
   have x5 := cell_of_row _ _ 5 _ _ _ bxr
   clear bxr
   have HC1 := Lib.hid (hasOnePoint_any g _ _ _ _ w1 HSM.out (HG.out w1 HZ1.out))
   rw [c1] at HC1
   go_wp2_with fail
   (with_reducible refine HC1.out.mono ?_)
   rintro e w2 ⟨rfl, hb⟩
   have HW2 := Lib.hid (HW1.out.trans (hb.mono HW1.out.size))
   have HZ2 := Lib.hid (HZ1.out.trans (hb.mono HZ1.out.size))
   clear hb x0 x1 x2 x3 x4 x5
   go_wp2_with fail
   go_ret
   exact ⟨by first | rfl | (rw [HE.out]; done) | (rw [HE.out]; rfl), HZ2.out⟩
  ·have HE := Lib.hid (show renR sig g = true from by rw [renR_eq, c0, c1]; first | done | rfl)
   rw [c0] at H1
   go_enter Tryz.func71, Tryz.ntmps71
   go_wp2_with fail
   rw [← HW0.out]
   (with_reducible refine H1.out.mono ?_)
   rintro e w1 ⟨rfl, hb⟩
   have HW1 := Lib.hid hb
   have HZ1 := Lib.hid (HB0.out.trans (hb.mono HB0.out.size))
   clear hb x0 x1 x2 x3 x4 x5
   have bxr := HX.out w1 HW1.out
   have x0 := cell_of_row _ _ 0 _ _ _ bxr
   have x1 := cell_of_row _ _ 1 _ _ _ bxr
   have x2 := cell_of_row _ _ 2 _ _ _ bxr
   have x3 := cell_of_row _ _ 3 _ _ _ bxr
   have x4 := cell_of_row _ _ 4 _ _ _ bxr
   have x5 := cell_of_row _ _ 5 _ _ _ bxr
   clear bxr
   have HC1 := Lib.hid (hasOnePoint_any g _ _ _ _ w1 HSM.out (HG.out w1 HZ1.out))
   rw [c1] at HC1
   go_wp2_with fail
   (with_reducible refine HC1.out.mono ?_)
   rintro e w2 ⟨rfl, hb⟩
   have HW2 := Lib.hid (HW1.out.trans (hb.mono HW1.out.size))
   have HZ2 := Lib.hid (HZ1.out.trans (hb.mono HZ1.out.size))
   clear hb x0 x1 x2 x3 x4 x5
   go_wp2_with fail
   go_ret
   exact ⟨by first | rfl | (rw [HE.out]; done) | (rw [HE.out]; rfl), HZ2.out⟩

set_option maxRecDepth 100000 in
set_option maxHeartbeats 4000000 in
theorem implIsDiscrete_any (sig : List Ct) (g : Gr) (nv sv ov iv gv : Value) (w : World) (hs : SmallG g) (hz : SmallS sig) (hcap : CapOk gv) (hS : RSl RCt 3 w gv sig) (hG : RGr w nv sv ov iv g) :
  Calls Tryz.prog 77 #[gv, .agg #[.int .i64 g.roots, nv, sv, .int .i64 g.edges, ov, iv]] w fun e w' => e = .returned (.bool (discR sig g)) ∧ Below w.heap.size w w' := by
 have HG := Lib.hid (show ∀ W, Below w.heap.size w W → RGr W nv sv ov iv g from fun W hb => hG.below hb)
 have HS := Lib.hid (show ∀ W, Below w.heap.size w W → RSl RCt 3 W gv sig from fun W hb => hS.below RCt_keep hb)
 have HSM := Lib.hid hs
 obtain ⟨AN, cN, AS, cS, AO, cO, AI, cI, rfl, rfl, rfl, rfl⟩ := hG.form
 obtain ⟨AG, cG, rfl, _⟩ := hS.form
 obtain ⟨w0, hw0⟩ : ∃ w0, w0 = w.alloc (.cells #[.int .i64 g.roots, .slice AN g.nodes.length cN, .slice AS g.sites.length cS, .int .i64 g.edges, .slice AO g.outer.length cO, .slice AI g.inner.length cI] 31) := ⟨_, rfl⟩
 have hb0 : Below w.heap.size w w0 := by rw [hw0]; exact (Below.refl _ _).alloc (Nat.le_refl _) _
 have bx0 : w0.heap[w.heap.size]? = some (.cells #[.int .i64 g.roots, .slice AN g.nodes.length cN, .slice AS g.sites.length cS, .int .i64 g.edges, .slice AO g.outer.length cO, .slice AI g.inner.length cI] 31) := by rw [hw0]; exact heap_alloc_new _ _
 have hsz0 : w0.heap.size = w.heap.size + 1 := by rw [hw0]; simp
 have HX := Lib.hid (show ∀ W, Below w0.heap.size w0 W → W.heap[w.heap.size]? = some (.cells #[.int .i64 g.roots, .slice AN g.nodes.length cN, .slice AS g.sites.length cS, .int .i64 g.edges, .slice AO g.outer.length cO, .slice AI g.inner.length cI] 31) from fun W hW => (hW.block _ (by omega)).trans bx0)
 have HB0 := Lib.hid hb0
 have HW0 := Lib.hid hw0
 have H1 := Lib.hid (isBigraph_any sig g _ _ _ _ _ w0 hs hz hcap (HS.out w0 hb0) (HG.out w0 hb0))
 have x0 := cell_of_row _ _ 0 _ _ _ bx0
 have x1 := cell_of_row _ _ 1 _ _ _ bx0
 have x2 := cell_of_row _ _ 2 _ _ _ bx0
 have x3 := cell_of_row _ _ 3 _ _ _ bx0
 have x4 := cell_of_row _ _ 4 _ _ _ bx0
 have x5 := cell_of_row _ _ 5 _ _ _ bx0
 rw [hw0] at x0 x1 x2 x3 x4 x5
 clear hs hG hb0 bx0 hw0 hS hz hcap
 cases c0 : (goodG sig g)
 ·have HE := Lib.hid (show discR sig g = false from by rw [discR_eq, c0]; first | done | rfl)
  rw [c0] at H1
  go_enter Tryz.func77, Tryz.ntmps77
  go_wp2_with fail
  rw [← HW0.out]
  (with_reducible refine H1.out.mono ?_)
  rintro e w1 ⟨rfl, hb⟩
  have HW1 := Lib.hid hb
  have HZ1 := Lib.hid (HB0.out.trans (hb.mono HB0.out.size))
  clear hb x0 x1 x2 x3 x4 x5
  go_wp2_with fail
  go_ret
  exact ⟨by first | rfl | (rw [HE.out]; done) | (rw [HE.out]; rfl), HZ1.out⟩
 ·have HGP := Lib.hid ((good_iff sig g).1 c0)
  cases c1 : (g.edges == 0)
  ·have HE := Lib.hid (show discR sig g = false from by rw [discR_eq, c0, c1]; first | done | rfl)
   rw [c0] at H1
   go_enter Tryz.func77, Tryz.ntmps77
   go_wp2_with fail
   rw [← HW0.out]
   (with_reducible refine H1.out.mono ?_)
   rintro e w1 ⟨rfl, hb⟩
   have HW1 := Lib.hid hb
   have HZ1 := Lib.hid (HB0.out.trans (hb.mono HB0.out.size))
   clear hb x0 x1 x2 x3 x4 x5
   have bxr := HX.out w1 HW1.out
   have x0 := cell_of_row _ _ 0 _ _ _ bxr
   have x1 := cell_of_row _ _ 1 _ _ _ bxr
   have x2 := cell_of_row _ _ 2 _ _ _ bxr
   have x3 := cell_of_row _ _ 3 _ _ _ bxr
   have x4 := cell_of_row _ _ 4 _ _ _ bxr
   have x5 := cell_of_row _ _ 5 _ _ _ bxr
   clear bxr
   go_wp2_with fail
   go_ret
   exact ⟨by first | rfl | (rw [HE.out]; done) | (rw [HE.out]; rfl), HZ1.out⟩
  ·cases c2 : (oneB g)
   ·have HE := Lib.hid (show discR sig g = false from by rw [discR_eq, c0, c1, c2]; first | done | rfl)
    rw [c0] at H1
    go_enter Tryz.func77, Tryz.ntmps77
    go_wp2_with fail
    rw [← HW0.out]
    (with_reducible refine H1.out.mono ?_)
    rintro e w1 ⟨rfl, hb⟩
    have HW1 := Lib.hid hb
    have HZ1 := Lib.hid (HB0.out.trans (hb.mono HB0.out.size))
    clear hb x0 x1 x2 x3 x4 x5
    have bxr := HX.out w1 HW1.out
    have x0 := cell_of_row _ _ 0 _ _ _ bxr
    have x1 := cell_of_row _ _ 1 _ _ _ bxr
    have x2 := cell_of_row _ _ 2 _ _ _ bxr
    have x3 := cell_of_row _ _ 3 _ _ _ bxr
    have x4 := cell_of_row _ _ 4 _ _ _ bxr
    have x5 := cell_of_row _ _ 5 _ _ _ bxr
    clear bxr
    have HC2 := Lib.hid (hasOnePoint_any g _ _ _ _ w1 HSM.out (HG.out w1 HZ1.out))
    rw [c2] at HC2
    go_wp2_with fail
    (with_reducible refine HC2.out.mono ?_)
    rintro e w2 ⟨rfl, hb⟩
    have HW2 := Lib.hid (HW1.out.trans (hb.mono HW1.out.size))
    have HZ2 := Lib.hid (HZ1.out.trans (hb.mono HZ1.out.size))
    clear hb x0 x1 x2 x3 x4 x5
    go_wp2_with fail
    go_ret
    exact ⟨by first | rfl | (rw [HE.out]; done) | (rw [HE.out]; rfl), HZ2.out⟩
   ·have HE := Lib.hid (show discR sig g = true from by rw [discR_eq, c0, c1, c2]; first | done | rfl)
    rw [c0] at H1
    go_enter Tryz.func77, Tryz.ntmps77
    go_wp2_with fail
    rw [← HW0.out]
    (with_reducible refine H1.out.mono ?_)
    rintro e w1 ⟨rfl, hb⟩
    have HW1 := Lib.hid hb
    have HZ1 := Lib.hid (HB0.out.trans (hb.mono HB0.out.size))
    clear hb x0 x1 x2 x3 x4 x5
    have bxr := HX.out w1 HW1.out
    have x0 := cell_of_row _ _ 0 _ _ _ bxr
    have x1 := cell_of_row _ _ 1 _ _ _ bxr
    have x2 := cell_of_row _ _ 2 _ _ _ bxr
    have x3 := cell_of_row _ _ 3 _ _ _ bxr
    have x4 := cell_of_row _ _ 4 _ _ _ bxr
    have x5 := cell_of_row _ _ 5 _ _ _ bxr
    clear bxr
    have HC2 := Lib.hid (hasOnePoint_any g _ _ _ _ w1 HSM.out (HG.out w1 HZ1.out))
    rw [c2] at HC2
    go_wp2_with fail
    (with_reducible refine HC2.out.mono ?_)
    rintro e w2 ⟨rfl, hb⟩
    have HW2 := Lib.hid (HW1.out.trans (hb.mono HW1.out.size))
    have HZ2 := Lib.hid (HZ1.out.trans (hb.mono HZ1.out.size))
    clear hb x0 x1 x2 x3 x4 x5
    go_wp2_with fail
    go_ret
    exact ⟨by first | rfl | (rw [HE.out]; done) | (rw [HE.out]; rfl), HZ2.out⟩

set_option maxRecDepth 100000 in
set_option maxHeartbeats 4000000 in
theorem implIsPrime_any (sig : List Ct) (g : Gr) (nv sv ov iv gv : Value) (w : World) (hs : SmallG g) (hz : SmallS sig) (hcap : CapOk gv) (hS : RSl RCt 3 w gv sig) (hG : RGr w nv sv ov iv g) :
  Calls Tryz.prog 30 #[gv, .agg #[.int .i64 g.roots, nv, sv, .int .i64 g.edges, ov, iv]] w fun e w' => e = .returned (.bool (primR sig g)) ∧ Below w.heap.size w w' := by
 have HG := Lib.hid (show ∀ W, Below w.heap.size w W → RGr W nv sv ov iv g from fun W hb => hG.below hb)
 have HS := Lib.hid (show ∀ W, Below w.heap.size w W → RSl RCt 3 W gv sig from fun W hb => hS.below RCt_keep hb)
 have HSM := Lib.hid hs
 obtain ⟨AN, cN, AS, cS, AO, cO, AI, cI, rfl, rfl, rfl, rfl⟩ := hG.form
 obtain ⟨AG, cG, rfl, _⟩ := hS.form
 obtain ⟨w0, hw0⟩ : ∃ w0, w0 = w.alloc (.cells #[.int .i64 g.roots, .slice AN g.nodes.length cN, .slice AS g.sites.length cS, .int .i64 g.edges, .slice AO g.outer.length cO, .slice AI g.inner.length cI] 31) := ⟨_, rfl⟩
 have hb0 : Below w.heap.size w w0 := by rw [hw0]; exact (Below.refl _ _).alloc (Nat.le_refl _) _
 have bx0 : w0.heap[w.heap.size]? = some (.cells #[.int .i64 g.roots, .slice AN g.nodes.length cN, .slice AS g.sites.length cS, .int .i64 g.edges, .slice AO g.outer.length cO, .slice AI g.inner.length cI] 31) := by rw [hw0]; exact heap_alloc_new _ _
 have hsz0 : w0.heap.size = w.heap.size + 1 := by rw [hw0]; simp
 have HX := Lib.hid (show ∀ W, Below w0.heap.size w0 W → W.heap[w.heap.size]? = some (.cells #[.int .i64 g.roots, .slice AN g.nodes.length cN, .slice AS g.sites.length cS, .int .i64 g.edges, .slice AO g.outer.length cO, .slice AI g.inner.length cI] 31) from fun W hW => (hW.block _ (by omega)).trans bx0)
 have HB0 := Lib.hid hb0
 have HW0 := Lib.hid hw0
 have H1 := Lib.hid (isBigraph_any sig g _ _ _ _ _ w0 hs hz hcap (HS.out w0 hb0) (HG.out w0 hb0))
 have x0 := cell_of_row _ _ 0 _ _ _ bx0
 have x1 := cell_of_row _ _ 1 _ _ _ bx0
 have x2 := cell_of_row _ _ 2 _ _ _ bx0
 have x3 := cell_of_row _ _ 3 _ _ _ bx0
 have x4 := cell_of_row _ _ 4 _ _ _ bx0
 have x5 := cell_of_row _ _ 5 _ _ _ bx0
 rw [hw0] at x0 x1 x2 x3 x4 x5
 clear hs hG hb0 bx0 hw0 hS hz hcap
 cases c0 : (goodG sig g)
 ·have HE := Lib.hid (show primR sig g = false from by rw [primR_eq, c0]; first | done | rfl)
  rw [c0] at H1
  go_enter Tryz.func30, Tryz.ntmps30
  go_wp2_with fail
  rw [← HW0.out]
  (with_reducible refine H1.out.mono ?_)
  rintro e w1 ⟨rfl, hb⟩
  have HW1 := Lib.hid hb
  have HZ1 := Lib.hid (HB0.out.trans (hb.mono HB0.out.size))
  clear hb x0 x1 x2 x3 x4 x5
  go_wp2_with fail
  go_ret
  exact ⟨by first | rfl | (rw [HE.out]; done) | (rw [HE.out]; rfl), HZ1.out⟩
 ·have HGP := Lib.hid ((good_iff sig g).1 c0)
  cases c1 : (g.roots == 1)
  ·have HE := Lib.hid (show primR sig g = false from by rw [primR_eq, c0, c1]; first | done | rfl)
   rw [c0] at H1
   go_enter Tryz.func30, Tryz.ntmps30
   go_wp2_with fail
   rw [← HW0.out]
   (with_reducible refine H1.out.mono ?_)
   rintro e w1 ⟨rfl, hb⟩
   have HW1 := Lib.hid hb
   have HZ1 := Lib.hid (HB0.out.trans (hb.mono HB0.out.size))
   clear hb x0 x1 x2 x3 x4 x5
   have bxr := HX.out w1 HW1.out
   have x0 := cell_of_row _ _ 0 _ _ _ bxr
   have x1 := cell_of_row _ _ 1 _ _ _ bxr
   have x2 := cell_of_row _ _ 2 _ _ _ bxr
   have x3 := cell_of_row _ _ 3 _ _ _ bxr
   have x4 := cell_of_row _ _ 4 _ _ _ bxr
   have x5 := cell_of_row _ _ 5 _ _ _ bxr
   clear bxr
   go_wp2_with fail
   go_ret
   exact ⟨by first | rfl | (rw [HE.out]; done) | (rw [HE.out]; rfl), HZ1.out⟩
  ·cases c2 : ((g.inner.length : Int) == 0)
   ·have HE := Lib.hid (show primR sig g = false from by rw [primR_eq, c0, c1, c2]; first | done | rfl)
    rw [c0] at H1
    go_enter Tryz.func30, Tryz.ntmps30
    go_wp2_with fail
    rw [← HW0.out]
    (with_reducible refine H1.out.mono ?_)
    rintro e w1 ⟨rfl, hb⟩
    have HW1 := Lib.hid hb
    have HZ1 := Lib.hid (HB0.out.trans (hb.mono HB0.out.size))
    clear hb x0 x1 x2 x3 x4 x5
    have bxr := HX.out w1 HW1.out
    have x0 := cell_of_row _ _ 0 _ _ _ bxr
    have x1 := cell_of_row _ _ 1 _ _ _ bxr
    have x2 := cell_of_row _ _ 2 _ _ _ bxr
    have x3 := cell_of_row _ _ 3 _ _ _ bxr
    have x4 := cell_of_row _ _ 4 _ _ _ bxr
    have x5 := cell_of_row _ _ 5 _ _ _ bxr
    clear bxr
    go_wp2_with fail
    go_ret
    exact ⟨by first | rfl | (rw [HE.out]; done) | (rw [HE.out]; rfl), HZ1.out⟩
   ·have HE := Lib.hid (show primR sig g = true from by rw [primR_eq, c0, c1, c2]; first | done | rfl)
    rw [c0] at H1
    go_enter Tryz.func30, Tryz.ntmps30
    go_wp2_with fail
    rw [← HW0.out]
    (with_reducible refine H1.out.mono ?_)
    rintro e w1 ⟨rfl, hb⟩
    have HW1 := Lib.hid hb
    have HZ1 := Lib.hid (HB0.out.trans (hb.mono HB0.out.size))
    clear hb x0 x1 x2 x3 x4 x5
    have bxr := HX.out w1 HW1.out
    have x0 := cell_of_row _ _ 0 _ _ _ bxr
    have x1 := cell_of_row _ _ 1 _ _ _ bxr
    have x2 := cell_of_row _ _ 2 _ _ _ bxr
    have x3 := cell_of_row _ _ 3 _ _ _ bxr
    have x4 := cell_of_row _ _ 4 _ _ _ bxr
    have x5 := cell_of_row _ _ 5 _ _ _ bxr
    clear bxr
    go_wp2_with fail
    go_ret
    exact ⟨by first | rfl | (rw [HE.out]; done) | (rw [HE.out]; rfl), HZ1.out⟩

set_option maxRecDepth 100000 in
set_option maxHeartbeats 4000000 in
theorem specIsPlacing_any (sig : List Ct) (g : Gr) (nv sv ov iv gv : Value) (w : World) (hs : SmallG g) (hz : SmallS sig) (hS : RSl RCt 3 w gv sig) (hG : RGr w nv sv ov iv g) :
  Calls Tryz.prog 78 #[gv, .agg #[.int .i64 g.roots, nv, sv, .int .i64 g.edges, ov, iv]] w fun e w' => e = .returned (.bool (placR sig g)) ∧ Below w.heap.size w w' := by
 have HG := Lib.hid (show ∀ W, Below w.heap.size w W → RGr W nv sv ov iv g from fun W hb => hG.below hb)
 have HS := Lib.hid (show ∀ W, Below w.heap.size w W → RSl RCt 3 W gv sig from fun W hb => hS.below RCt_keep hb)
 have HSM := Lib.hid hs
 obtain ⟨AN, cN, AS, cS, AO, cO, AI, cI, rfl, rfl, rfl, rfl⟩ := hG.form
 obtain ⟨AG, cG, rfl, _⟩ := hS.form
 obtain ⟨w0, hw0⟩ : ∃ w0, w0 = w.alloc (.cells #[.int .i64 g.roots, .slice AN g.nodes.length cN, .slice AS g.sites.length cS, .int .i64 g.edges, .slice AO g.outer.length cO, .slice AI g.inner.length cI] 31) := ⟨_, rfl⟩
 have hb0 : Below w.heap.size w w0 := by rw [hw0]; exact (Below.refl _ _).alloc (Nat.le_refl _) _
 have bx0 : w0.heap[w.heap.size]? = some (.cells #[.int .i64 g.roots, .slice AN g.nodes.length cN, .slice AS g.sites.length cS, .int .i64 g.edges, .slice AO g.outer.length cO, .slice AI g.inner.length cI] 31) := by rw [hw0]; exact heap_alloc_new _ _
 have hsz0 : w0.heap.size = w.heap.size + 1 := by rw [hw0]; simp
 have HX := Lib.hid (show ∀ W, Below w0.heap.size w0 W → W.heap[w.heap.size]? = some (.cells #[.int .i64 g.roots, .slice AN g.nodes.length cN, .slice AS g.sites.length cS, .int .i64 g.edges, .slice AO g.outer.length cO, .slice AI g.inner.length cI] 31) from fun W hW => (hW.block _ (by omega)).trans bx0)
 have HB0 := Lib.hid hb0
 have HW0 := Lib.hid hw0
 have H1 := Lib.hid (l2Good_any sig g _ _ _ _ _ w0 hs hz (HS.out w0 hb0) (HG.out w0 hb0))
 have x0 := cell_of_row _ _ 0 _ _ _ bx0
 have x1 := cell_of_row _ _ 1 _ _ _ bx0
 have x2 := cell_of_row _ _ 2 _ _ _ bx0
 have x3 := cell_of_row _ _ 3 _ _ _ bx0
 have x4 := cell_of_row _ _ 4 _ _ _ bx0
 have x5 := cell_of_row _ _ 5 _ _ _ bx0
 rw [hw0] at x0 x1 x2 x3 x4 x5
 clear hs hG hb0 bx0 hw0 hS hz
 cases c0 : (goodG sig g)
 ·have HE := Lib.hid (show placR sig g = false from by rw [placR_eq, c0]; first | done | rfl)
  rw [c0] at H1
  go_enter Tryz.func78, Tryz.ntmps78
  go_wp2_with fail
  rw [← HW0.out]
  (with_reducible refine H1.out.mono ?_)
  rintro e w1 ⟨rfl, hb⟩
  have HW1 := Lib.hid hb
  have HZ1 := Lib.hid (HB0.out.trans (hb.mono HB0.out.size))
  clear hb x0 x1 x2 x3 x4 x5
  go_wp2_with fail
  go_ret
  exact ⟨by first | rfl | (rw [HE.out]; done) | (rw [HE.out]; rfl), HZ1.out⟩
 ·have HGP := Lib.hid ((good_iff sig g).1 c0)
  cases c1 : (placB g)
  ·have HE := Lib.hid (show placR sig g = false from by rw [placR_eq, c0, c1]; first | done | rfl)
   rw [c0] at H1
   go_enter Tryz.func78, Tryz.ntmps78
   go_wp2_with fail
   rw [← HW0.out]
   (with_reducible refine H1.out.mono ?_)
   rintro e w1 ⟨rfl, hb⟩
   have HW1 := Lib.hid hb
   have HZ1 := Lib.hid (HB0.out.trans (hb.mono HB0.out.size))
   clear hb x0 x1 x2 x3 x4 x5
   have bxr := HX.out w1 HW1.out
   have x0 := cell_of_row _ _ 0 _ _ _ bxr
   have x1 := cell_of_row _ _ 1 _ _ _ bxr
   have x2 := cell_of_row _ _ 2 _ _ _ bxr
   have x3 := cell_of_row _ _ 3 _ _ _ bxr
   have x4 := cell_of_row _ _ 4 _ _ _ bxr
   have x5 := cell_of_row _ _ 5 _ _ _ bxr
   clear bxr
   have HC1 := Lib.hid (l3Placing_any g _ _ _ _ w1 HSM.out (HG.out w1 HZ1.out))
   rw [c1] at HC1
   go_wp2_with fail
   (with_reducible refine HC1.out.mono ?_)
   rintro e w2 ⟨rfl, hb⟩
   have HW2 := Lib.hid (HW1.out.trans (hb.mono HW1.out.size))
   have HZ2 := Lib.hid (HZ1.out.trans (hb.mono HZ1.out.size))
   clear hb x0 x1 x2 x3 x4 x5
   go_wp2_with fail
   go_ret
   exact ⟨by first | rfl | (rw [HE.out]; done) | (rw [HE.out]; rfl), HZ2.out⟩
  ·have HE := Lib.hid (show placR sig g = true from by rw [placR_eq, c0, c1]; first | done | rfl)
   rw [c0] at H1
   go_enter Tryz.func78, Tryz.ntmps78
   go_wp2_with fail
   rw [← HW0.out]
   (with_reducible refine H1.out.mono ?_)
   rintro e w1 ⟨rfl, hb⟩
   have HW1 := Lib.hid hb
   have HZ1 := Lib.hid (HB0.out.trans (hb.mono HB0.out.size))
   clear hb x0 x1 x2 x3 x4 x5
   have bxr := HX.out w1 HW1.out
   have x0 := cell_of_row _ _ 0 _ _ _ bxr
   have x1 := cell_of_row _ _ 1 _ _ _ bxr
   have x2 := cell_of_row _ _ 2 _ _ _ bxr
   have x3 := cell_of_row _ _ 3 _ _ _ bxr
   have x4 := cell_of_row _ _ 4 _ _ _ bxr
   have x5 := cell_of_row _ _ 5 _ _ _ bxr
   clear bxr
   have HC1 := Lib.hid (l3Placing_any g _ _ _ _ w1 HSM.out (HG.out w1 HZ1.out))
   rw [c1] at HC1
   go_wp2_with fail
   (with_reducible refine HC1.out.mono ?_)
   rintro e w2 ⟨rfl, hb⟩
   have HW2 := Lib.hid (HW1.out.trans (hb.mono HW1.out.size))
   have HZ2 := Lib.hid (HZ1.out.trans (hb.mono HZ1.out.size))
   clear hb x0 x1 x2 x3 x4 x5
   go_wp2_with fail
   go_ret
   exact ⟨by first | rfl | (rw [HE.out]; done) | (rw [HE.out]; rfl), HZ2.out⟩

set_option maxRecDepth 100000 in
set_option maxHeartbeats 4000000 in
theorem specIsPermutation_any (sig : List Ct) (g : Gr) (nv sv ov iv gv : Value) (w : World) (hs : SmallG g) (hz : SmallS sig) (hS : RSl RCt 3 w gv sig) (hG : RGr w nv sv ov iv g) :
  Calls Tryz.prog 79 #[gv, .agg #[.int .i64 g.roots, nv, sv, .int .i64 g.edges, ov, iv]] w fun e w' => e = .returned (.bool (permR sig g)) ∧ Below w.heap.size w w' := by
 have HG := Lib.hid (show ∀ W, Below w.heap.size w W → RGr W nv sv ov iv g from fun W hb => hG.below hb)
 have HS := Lib.hid (show ∀ W, Below w.heap.size w W → RSl RCt 3 W gv sig from fun W hb => hS.below RCt_keep hb)
 have HSM := Lib.hid hs
 obtain ⟨AN, cN, AS, cS, AO, cO, AI, cI, rfl, rfl, rfl, rfl⟩ := hG.form
 obtain ⟨AG, cG, rfl, _⟩ := hS.form
 obtain ⟨w0, hw0⟩ : ∃ w0, w0 = w.alloc (.cells #[.int .i64 g.roots, .slice AN g.nodes.length cN, .slice AS g.sites.length cS, .int .i64 g.edges, .slice AO g.outer.length cO, .slice AI g.inner.length cI] 31) := ⟨_, rfl⟩
 have hb0 : Below w.heap.size w w0 := by rw [hw0]; exact (Below.refl _ _).alloc (Nat.le_refl _) _
 have bx0 : w0.heap[w.heap.size]? = some (.cells #[.int .i64 g.roots, .slice AN g.nodes.length cN, .slice AS g.sites.length cS, .int .i64 g.edges, .slice AO g.outer.length cO, .slice AI g.inner.length cI] 31) := by rw [hw0]; exact heap_alloc_new _ _
 have hsz0 : w0.heap.size = w.heap.size + 1 := by rw [hw0]; simp
 have HX := Lib.hid (show ∀ W, Below w0.heap.size w0 W → W.heap[w.heap.size]? = some (.cells #[.int .i64 g.roots, .slice AN g.nodes.length cN, .slice AS g.sites.length cS, .int .i64 g.edges, .slice AO g.outer.length cO, .slice AI g.inner.length cI] 31) from fun W hW => (hW.block _ (by omega)).trans bx0)
 have HB0 := Lib.hid hb0
 have HW0 := Lib.hid hw0
 have H1 := Lib.hid (l2Good_any sig g _ _ _ _ _ w0 hs hz (HS.out w0 hb0) (HG.out w0 hb0))
 have x0 := cell_of_row _ _ 0 _ _ _ bx0
 have x1 := cell_of_row _ _ 1 _ _ _ bx0
 have x2 := cell_of_row _ _ 2 _ _ _ bx0
 have x3 := cell_of_row _ _ 3 _ _ _ bx0
 have x4 := cell_of_row _ _ 4 _ _ _ bx0
 have x5 := cell_of_row _ _ 5 _ _ _ bx0
 rw [hw0] at x0 x1 x2 x3 x4 x5
 clear hs hG hb0 bx0 hw0 hS hz
 cases c0 : (goodG sig g)
 ·have HE := Lib.hid (show permR sig g = false from by rw [permR_alt, c0]; first | done | rfl)
  rw [c0] at H1
  go_enter Tryz.func79, Tryz.ntmps79
  go_wp2_with fail
  rw [← HW0.out]
  (with_reducible refine H1.out.mono ?_)
  rintro e w1 ⟨rfl, hb⟩
  have HW1 := Lib.hid hb
  have HZ1 := Lib.hid (HB0.out.trans (hb.mono HB0.out.size))
  clear hb x0 x1 x2 x3 x4 x5
  go_wp2_with fail
  go_ret
  exact ⟨by first | rfl | (rw [HE.out]; done) | (rw [HE.out]; rfl), HZ1.out⟩
 ·have HGP := Lib.hid ((good_iff sig g).1 c0)
  cases c1 : (permuB g)
  ·have HE := Lib.hid (show permR sig g = false from by rw [permR_alt, c0, c1]; first | done | rfl)
   rw [c0] at H1
   go_enter Tryz.func79, Tryz.ntmps79
   go_wp2_with fail
   rw [← HW0.out]
   (with_reducible refine H1.out.mono ?_)
   rintro e w1 ⟨rfl, hb⟩
   have HW1 := Lib.hid hb
   have HZ1 := Lib.hid (HB0.out.trans (hb.mono HB0.out.size))
   clear hb x0 x1 x2 x3 x4 x5
   have bxr := HX.out w1 HW1.out
   have x0 := cell_of_row _ _ 0 _ _ _ bxr
   have x1 := cell_of_row _ _ 1 _ _ _ bxr
   have x2 := cell_of_row _ _ 2 _ _ _ bxr
   have x3 := cell_of_row _ _ 3 _ _ _ bxr
   have x4 := cell_of_row _ _ 4 _ _ _ bxr
   have x5 := cell_of_row _ _ 5 _ _ _ bxr
   clear bxr
   have HC1 := Lib.hid (l3Permutes_any g _ _ _ _ w1 HSM.out (HG.out w1 HZ1.out))
   rw [c1] at HC1
   go_wp2_with fail
   (with_reducible refine HC1.out.mono ?_)
   rintro e w2 ⟨rfl, hb⟩
   have HW2 := Lib.hid (HW1.out.trans (hb.mono HW1.out.size))
   have HZ2 := Lib.hid (HZ1.out.trans (hb.mono HZ1.out.size))
   clear hb x0 x1 x2 x3 x4 x5
   go_wp2_with fail
   go_ret
   exact ⟨by first | rfl | (rw [HE.out]; done) | (rw [HE.out]; rfl), HZ2.out⟩
  ·have HE := Lib.hid (show permR sig g = true from by rw [permR_alt, c0, c1]; first | done | rfl)
   rw [c0] at H1
   go_enter Tryz.func79, Tryz.ntmps79
   go_wp2_with fail
   rw [← HW0.out]
   (with_reducible refine H1.out.mono ?_)
   rintro e w1 ⟨rfl, hb⟩
   have HW1 := Lib.hid hb
   have HZ1 := Lib.hid (HB0.out.trans (hb.mono HB0.out.size))
   clear hb x0 x1 x2 x3 x4 x5
   have bxr := HX.out w1 HW1.out
   have x0 := cell_of_row _ _ 0 _ _ _ bxr
   have x1 := cell_of_row _ _ 1 _ _ _ bxr
   have x2 := cell_of_row _ _ 2 _ _ _ bxr
   have x3 := cell_of_row _ _ 3 _ _ _ bxr
   have x4 := cell_of_row _ _ 4 _ _ _ bxr
   have x5 := cell_of_row _ _ 5 _ _ _ bxr
   clear bxr
   have HC1 := Lib.hid (l3Permutes_any g _ _ _ _ w1 HSM.out (HG.out w1 HZ1.out))
   rw [c1] at HC1
   go_wp2_with fail
   (with_reducible refine HC1.out.mono ?_)
   rintro e w2 ⟨rfl, hb⟩
   have HW2 := Lib.hid (HW1.out.trans (hb.mono HW1.out.size))
   have HZ2 := Lib.hid (HZ1.out.trans (hb.mono HZ1.out.size))
   clear hb x0 x1 x2 x3 x4 x5
   go_wp2_with fail
   go_ret
   exact ⟨by first | rfl | (rw [HE.out]; done) | (rw [HE.out]; rfl), HZ2.out⟩

set_option maxRecDepth 100000 in
set_option maxHeartbeats 4000000 in
theorem specIsWiring_any (sig : List Ct) (g : Gr) (nv sv ov iv gv : Value) (w : World) (hs : SmallG g) (hz : SmallS sig) (hS : RSl RCt 3 w gv sig) (hG : RGr w nv sv ov iv g) :
  Calls Tryz.prog 81 #[gv, .agg #[.int .i64 g.roots, nv, sv, .int .i64 g.edges, ov, iv]] w fun e w' => e = .returned (.bool (wirR sig g)) ∧ Below w.heap.size w w' := by
 have HG := Lib.hid (show ∀ W, Below w.heap.size w W → RGr W nv sv ov iv g from fun W hb => hG.below hb)
 have HS := Lib.hid (show ∀ W, Below w.heap.size w W → RSl RCt 3 W gv sig from fun W hb => hS.below RCt_keep hb)
 have HSM := Lib.hid hs
 obtain ⟨AN, cN, AS, cS, AO, cO, AI, cI, rfl, rfl, rfl, rfl⟩ := hG.form
 obtain ⟨AG, cG, rfl, _⟩ := hS.form
 obtain ⟨w0, hw0⟩ : ∃ w0, w0 = w.alloc (.cells #[.int .i64 g.roots, .slice AN g.nodes.length cN, .slice AS g.sites.length cS, .int .i64 g.edges, .slice AO g.outer.length cO, .slice AI g.inner.length cI] 31) := ⟨_, rfl⟩
 have hb0 : Below w.heap.size w w0 := by rw [hw0]; exact (Below.refl _ _).alloc (Nat.le_refl _) _
 have bx0 : w0.heap[w.heap.size]? = some (.cells #[.int .i64 g.roots, .slice AN g.nodes.length cN, .slice AS g.sites.length cS, .int .i64 g.edges, .slice AO g.outer.length cO, .slice AI g.inner.length cI] 31) := by rw [hw0]; exact heap_alloc_new _ _
 have hsz0 : w0.heap.size = w.heap.size + 1 := by rw [hw0]; simp
 have HX := Lib.hid (show ∀ W, Below w0.heap.size w0 W → W.heap[w.heap.size]? = some (.cells #[.int .i64 g.roots, .slice AN g.nodes.length cN, .slice AS g.sites.length cS, .int .i64 g.edges, .slice AO g.outer.length cO, .slice AI g.inner.length cI] 31) from fun W hW => (hW.block _ (by omega)).trans bx0)
 have HB0 := Lib.hid hb0
 have HW0 := Lib.hid hw0
 have H1 := Lib.hid (l2Good_any sig g _ _ _ _ _ w0 hs hz (HS.out w0 hb0) (HG.out w0 hb0))
 have x0 := cell_of_row _ _ 0 _ _ _ bx0
 have x1 := cell_of_row _ _ 1 _ _ _ bx0
 have x2 := cell_of_row _ _ 2 _ _ _ bx0
 have x3 := cell_of_row _ _ 3 _ _ _ bx0
 have x4 := cell_of_row _ _ 4 _ _ _ bx0
 have x5 := cell_of_row _ _ 5 _ _ _ bx0
 rw [hw0] at x0 x1 x2 x3 x4 x5
 clear hs hG hb0 bx0 hw0 hS hz
 cases c0 : (goodG sig g)
 ·have HE := Lib.hid (show wirR sig g = false from by rw [wirR_eq, c0]; first | done | rfl)
  rw [c0] at H1
  go_enter Tryz.func81, Tryz.ntmps81
  go_wp2_with fail
  rw [← HW0.out]
  (with_reducible refine H1.out.mono ?_)
  rintro e w1 ⟨rfl, hb⟩
  have HW1 := Lib.hid hb
  have HZ1 := Lib.hid (HB0.out.trans (hb.mono HB0.out.size))
  clear hb x0 x1 x2 x3 x4 x5
  go_wp2_with fail
  go_ret
  exact ⟨by first | rfl | (rw [HE.out]; done) | (rw [HE.out]; rfl), HZ1.out⟩
 ·have HGP := Lib.hid ((good_iff sig g).1 c0)
  cases c1 : (wirB g)
  ·have HE := Lib.hid (show wirR sig g = false from by rw [wirR_eq, c0, c1]; first | done | rfl)
   rw [c0] at H1
   go_enter Tryz.func81, Tryz.ntmps81
   go_wp2_with fail
   rw [← HW0.out]
   (with_reducible refine H1.out.mono ?_)
   rintro e w1 ⟨rfl, hb⟩
   have HW1 := Lib.hid hb
   have HZ1 := Lib.hid (HB0.out.trans (hb.mono HB0.out.size))
   clear hb x0 x1 x2 x3 x4 x5
   have bxr := HX.out w1 HW1.out
   have x0 := cell_of_row _ _ 0 _ _ _ bxr
   have x1 := cell_of_row _ _ 1 _ _ _ bxr
   have x2 := cell_of_row _ _ 2 _ _ _ bxr
   have x3 := cell_of_row _ _ 3 _ _ _ bxr
   have x4 := cell_of_row _ _ 4 _ _ _ bxr
   have x5 := cell_of_row _ _ 5 _ _ _ bxr
   clear bxr
   have HC1 := Lib.hid (l3Wiring_any g _ _ _ _ w1 HSM.out (HG.out w1 HZ1.out))
   rw [c1] at HC1
   go_wp2_with fail
   (with_reducible refine HC1.out.mono ?_)
   rintro e w2 ⟨rfl, hb⟩
   have HW2 := Lib.hid (HW1.out.trans (hb.mono HW1.out.size))
   have HZ2 := Lib.hid (HZ1.out.trans (hb.mono HZ1.out.size))
   clear hb x0 x1 x2 x3 x4 x5
   go_wp2_with fail
   go_ret
   exact ⟨by first | rfl | (rw [HE.out]; done) | (rw [HE.out]; rfl), HZ2.out⟩
  ·have HE := Lib.hid (show wirR sig g = true from by rw [wirR_eq, c0, c1]; first | done | rfl)
   rw [c0] at H1
   go_enter Tryz.func81, Tryz.ntmps81
   go_wp2_with fail
   rw [← HW0.out]
   (with_reducible refine H1.out.mono ?_)
   rintro e w1 ⟨rfl, hb⟩
   have HW1 := Lib.hid hb
   have HZ1 := Lib.hid (HB0.out.trans (hb.mono HB0.out.size))
   clear hb x0 x1 x2 x3 x4 x5
   have bxr := HX.out w1 HW1.out
   have x0 := cell_of_row _ _ 0 _ _ _ bxr
   have x1 := cell_of_row _ _ 1 _ _ _ bxr
   have x2 := cell_of_row _ _ 2 _ _ _ bxr
   have x3 := cell_of_row _ _ 3 _ _ _ bxr
   have x4 := cell_of_row _ _ 4 _ _ _ bxr
   have x5 := cell_of_row _ _ 5 _ _ _ bxr
   clear bxr
   have HC1 := Lib.hid (l3Wiring_any g _ _ _ _ w1 HSM.out (HG.out w1 HZ1.out))
   rw [c1] at HC1
   go_wp2_with fail
   (with_reducible refine HC1.out.mono ?_)
   rintro e w2 ⟨rfl, hb⟩
   have HW2 := Lib.hid (HW1.out.trans (hb.mono HW1.out.size))
   have HZ2 := Lib.hid (HZ1.out.trans (hb.mono HZ1.out.size))
   clear hb x0 x1 x2 x3 x4 x5
   go_wp2_with fail
   go_ret
   exact ⟨by first | rfl | (rw [HE.out]; done) | (rw [HE.out]; rfl), HZ2.out⟩

set_option maxRecDepth 100000 in
set_option maxHeartbeats 4000000 in
theorem l3Open_any (g : Gr) (nv sv ov iv : Value) (w : World) (hs : SmallG g) (hG : RGr w nv sv ov iv g) :
  Calls Tryz.prog 175 #[.agg #[.int .i64 g.roots, nv, sv, .int .i64 g.edges, ov, iv]] w fun e w' => e = .returned (.bool ((wirB g && (g.edges == 0)))) ∧ Below w.heap.size w w' := by
 have HG := Lib.hid (show ∀ W, Below w.heap.size w W → RGr W nv sv ov iv g from fun W hb => hG.below hb)
 have HSM := Lib.hid hs
 obtain ⟨AN, cN, AS, cS, AO, cO, AI, cI, rfl, rfl, rfl, rfl⟩ := hG.form
 obtain ⟨w0, hw0⟩ : ∃ w0, w0 = w.alloc (.cells #[.int .i64 g.roots, .slice AN g.nodes.length cN, .slice AS g.sites.length cS, .int .i64 g.edges, .slice AO g.outer.length cO, .slice AI g.inner.length cI] 31) := ⟨_, rfl⟩
 have hb0 : Below w.heap.size w w0 := by rw [hw0]; exact (Below.refl _ _).alloc (Nat.le_refl _) _
 have bx0 : w0.heap[w.heap.size]? = some (.cells #[.int .i64 g.roots, .slice AN g.nodes.length cN, .slice AS g.sites.length cS, .int .i64 g.edges, .slice AO g.outer.length cO, .slice AI g.inner.length cI] 31) := by rw [hw0]; exact heap_alloc_new _ _
 have hsz0 : w0.heap.size = w.heap.size + 1 := by rw [hw0]; simp
 have HX := Lib.hid (show ∀ W, Below w0.heap.size w0 W → W.heap[w.heap.size]? = some (.cells #[.int .i64 g.roots, .slice AN g.nodes.length cN, .slice AS g.sites.length cS, .int .i64 g.edges, .slice AO g.outer.length cO, .slice AI g.inner.length cI] 31) from fun W hW => (hW.block _ (by omega)).trans bx0)
 have HB0 := Lib.hid hb0
 have HW0 := Lib.hid hw0
 have H1 := Lib.hid (l3Wiring_any g _ _ _ _ w0 hs (HG.out w0 hb0))
 have x0 := cell_of_row _ _ 0 _ _ _ bx0
 have x1 := cell_of_row _ _ 1 _ _ _ bx0
 have x2 := cell_of_row _ _ 2 _ _ _ bx0
 have x3 := cell_of_row _ _ 3 _ _ _ bx0
 have x4 := cell_of_row _ _ 4 _ _ _ bx0
 have x5 := cell_of_row _ _ 5 _ _ _ bx0
 rw [hw0] at x0 x1 x2 x3 x4 x5
 clear hs hG hb0 bx0 hw0
 cases c0 : (wirB g)
 ·have HE := Lib.hid (show (wirB g && (g.edges == 0)) = false from by rw [show (wirB g && (g.edges == 0)) = (wirB g && (g.edges == 0)) from rfl, c0]; first | done | rfl)
  rw [c0] at H1
  go_enter Tryz.func175, Tryz.ntmps175
  go_wp2_with fail
  rw [← HW0.out]
  (with_reducible refine H1.out.mono ?_)
  rintro e w1 ⟨rfl, hb⟩
  have HW1 := Lib.hid hb
  have HZ1 := Lib.hid (HB0.out.trans (hb.mono HB0.out.size))
  clear hb x0 x1 x2 x3 x4 x5
  go_wp2_with fail
  go_ret
  exact ⟨by first | rfl | (rw [HE.out]; done) | (rw [HE.out]; rfl), HZ1.out⟩
 ·cases c1 : (g.edges == 0)
  ·have HE := Lib.hid (show (wirB g && (g.edges == 0)) = false from by rw [show (wirB g && (g.edges == 0)) = (wirB g && (g.edges == 0)) from rfl, c0, c1]; first | done | rfl)
   rw [c0] at H1
   go_enter Tryz.func175, Tryz.ntmps175
   go_wp2_with fail
   rw [← HW0.out]
   (with_reducible refine H1.out.mono ?_)
   rintro e w1 ⟨rfl, hb⟩
   have HW1 := Lib.hid hb
   have HZ1 := Lib.hid (HB0.out.trans (hb.mono HB0.out.size))
   clear hb x0 x1 x2 x3 x4 x5
   have bxr := HX.out w1 HW1.out
   have x0 := cell_of_row _ _ 0 _ _ _ bxr
   have x1 := cell_of_row _ _ 1 _ _ _ bxr
   have x2 := cell_of_row _ _ 2 _ _ _ bxr
   have x3 := cell_of_row _ _ 3 _ _ _ bxr
   have x4 := cell_of_row _ _ 4 _ _ _ bxr
   have x5 := cell_of_row _ _ 5 _ _ _ bxr
   clear bxr
   go_wp2_with fail
   go_ret
   exact ⟨by first | rfl | (rw [HE.out]; done) | (rw [HE.out]; rfl), HZ1.out⟩
  ·have HE := Lib.hid (show (wirB g && (g.edges == 0)) = true from by rw [show (wirB g && (g.edges == 0)) = (wirB g && (g.edges == 0)) from rfl, c0, c1]; first | done | rfl)
   rw [c0] at H1
   go_enter Tryz.func175, Tryz.ntmps175
   go_wp2_with fail
   rw [← HW0.out]
   (with_reducible refine H1.out.mono ?_)
   rintro e w1 ⟨rfl, hb⟩
   have HW1 := Lib.hid hb
   have HZ1 := Lib.hid (HB0.out.trans (hb.mono HB0.out.size))
   clear hb x0 x1 x2 x3 x4 x5
   have bxr := HX.out w1 HW1.out
   have x0 := cell_of_row _ _ 0 _ _ _ bxr
   have x1 := cell_of_row _ _ 1 _ _ _ bxr
   have x2 := cell_of_row _ _ 2 _ _ _ bxr
   have x3 := cell_of_row _ _ 3 _ _ _ bxr
   have x4 := cell_of_row _ _ 4 _ _ _ bxr
   have x5 := cell_of_row _ _ 5 _ _ _ bxr
   clear bxr
   go_wp2_with fail
   go_ret
   exact ⟨by first | rfl | (rw [HE.out]; done) | (rw [HE.out]; rfl), HZ1.out⟩

set_option maxRecDepth 100000 in
set_option maxHeartbeats 4000000 in
theorem l3Renames_any (g : Gr) (nv sv ov iv : Value) (w : World) (hs : SmallG g) (hG : RGr w nv sv ov iv g) :
  Calls Tryz.prog 161 #[.agg #[.int .i64 g.roots, nv, sv, .int .i64 g.edges, ov, iv]] w fun e w' => e = .returned (.bool (((wirB g && (g.edges == 0)) && (oneB g && (g.edges == 0))))) ∧ Below w.heap.size w w' := by
 have HG := Lib.hid (show ∀ W, Below w.heap.size w W → RGr W nv sv ov iv g from fun W hb => hG.below hb)
 have HSM := Lib.hid hs
 obtain ⟨AN, cN, AS, cS, AO, cO, AI, cI, rfl, rfl, rfl, rfl⟩ := hG.form
 obtain ⟨w0, hw0⟩ : ∃ w0, w0 = w.alloc (.cells #[.int .i64 g.roots, .slice AN g.nodes.length cN, .slice AS g.sites.length cS, .int .i64 g.edges, .slice AO g.outer.length cO, .slice AI g.inner.length cI] 31) := ⟨_, rfl⟩
 have hb0 : Below w.heap.size w w0 := by rw [hw0]; exact (Below.refl _ _).alloc (Nat.le_refl _) _
 have bx0 : w0.heap[w.heap.size]? = some (.cells #[.int .i64 g.roots, .slice AN g.nodes.length cN, .slice AS g.sites.length cS, .int .i64 g.edges, .slice AO g.outer.length cO, .slice AI g.inner.length cI] 31) := by rw [hw0]; exact heap_alloc_new _ _
 have hsz0 : w0.heap.size = w.heap.size + 1 := by rw [hw0]; simp
 have HX := Lib.hid (show ∀ W, Below w0.heap.size w0 W → W.heap[w.heap.size]? = some (.cells #[.int .i64 g.roots, .slice AN g.nodes.length cN, .slice AS g.sites.length cS, .int .i64 g.edges, .slice AO g.outer.length cO, .slice AI g.inner.length cI] 31) from fun W hW => (hW.block _ (by omega)).trans bx0)
 have HB0 := Lib.hid hb0
 have HW0 := Lib.hid hw0
 have H1 := Lib.hid (l3Open_any g _ _ _ _ w0 hs (HG.out w0 hb0))
 have x0 := cell_of_row _ _ 0 _ _ _ bx0
 have x1 := cell_of_row _ _ 1 _ _ _ bx0
 have x2 := cell_of_row _ _ 2 _ _ _ bx0
 have x3 := cell_of_row _ _ 3 _ _ _ bx0
 have x4 := cell_of_row _ _ 4 _ _ _ bx0
 have x5 := cell_of_row _ _ 5 _ _ _ bx0
 rw [hw0] at x0 x1 x2 x3 x4 x5
 clear hs hG hb0 bx0 hw0
 cases c0 : ((wirB g && (g.edges == 0)))
 ·have HE := Lib.hid (show ((wirB g && (g.edges == 0)) && (oneB g && (g.edges == 0))) = false from by rw [show ((wirB g && (g.edges == 0)) && (oneB g && (g.edges == 0))) = ((wirB g && (g.edges == 0)) && (oneB g && (g.edges == 0))) from rfl, c0]; first | done | rfl)
  rw [c0] at H1
  go_enter Tryz.func161, Tryz.ntmps161
  go_wp2_with fail
  rw [← HW0.out]
  (with_reducible refine H1.out.mono ?_)
  rintro e w1 ⟨rfl, hb⟩
  have HW1 := Lib.hid hb
  have HZ1 := Lib.hid (HB0.out.trans (hb.mono HB0.out.size))
  clear hb x0 x1 x2 x3 x4 x5
  go_wp2_with fail
  go_ret
  exact ⟨by first | rfl | (rw [HE.out]; done) | (rw [HE.out]; rfl), HZ1.out⟩
 ·cases c1 : ((oneB g && (g.edges == 0)))
  ·have HE := Lib.hid (show ((wirB g && (g.edges == 0)) && (oneB g && (g.edges == 0))) = false from by rw [show ((wirB g && (g.edges == 0)) && (oneB g && (g.edges == 0))) = ((wirB g && (g.edges == 0)) && (oneB g && (g.edges == 0))) from rfl, c0, c1]; first | done | rfl)
   rw [c0] at H1
   go_enter Tryz.func161, Tryz.ntmps161
   go_wp2_with fail
   rw [← HW0.out]
   (with_reducible refine H1.out.mono ?_)
   rintro e w1 ⟨rfl, hb⟩
   have HW1 := Lib.hid hb
   have HZ1 := Lib.hid (HB0.out.trans (hb.mono HB0.out.size))
   clear hb x0 x1 x2 x3 x4 x5
   have bxr := HX.out w1 HW1.out
   have x0 := cell_of_row _ _ 0 _ _ _ bxr
   have x1 := cell_of_row _ _ 1 _ _ _ bxr
   have x2 := cell_of_row _ _ 2 _ _ _ bxr
   have x3 := cell_of_row _ _ 3 _ _ _ bxr
   have x4 := cell_of_row _ _ 4 _ _ _ bxr
   have x5 := cell_of_row _ _ 5 _ _ _ bxr
   clear bxr
   have HC1 := Lib.hid (l3Single_any g _ _ _ _ w1 HSM.out (HG.out w1 HZ1.out))
   rw [c1] at HC1
   go_wp2_with fail
   (with_reducible refine HC1.out.mono ?_)
   rintro e w2 ⟨rfl, hb⟩
   have HW2 := Lib.hid (HW1.out.trans (hb.mono HW1.out.size))
   have HZ2 := Lib.hid (HZ1.out.trans (hb.mono HZ1.out.size))
   clear hb x0 x1 x2 x3 x4 x5
   go_wp2_with fail
   go_ret
   exact ⟨by first | rfl | (rw [HE.out]; done) | (rw [HE.out]; rfl), HZ2.out⟩
  ·have HE := Lib.hid (show ((wirB g && (g.edges == 0)) && (oneB g && (g.edges == 0))) = true from by rw [show ((wirB g && (g.edges == 0)) && (oneB g && (g.edges == 0))) = ((wirB g && (g.edges == 0)) && (oneB g && (g.edges == 0))) from rfl, c0, c1]; first | done | rfl)
   rw [c0] at H1
   go_enter Tryz.func161, Tryz.ntmps161
   go_wp2_with fail
   rw [← HW0.out]
   (with_reducible refine H1.out.mono ?_)
   rintro e w1 ⟨rfl, hb⟩
   have HW1 := Lib.hid hb
   have HZ1 := Lib.hid (HB0.out.trans (hb.mono HB0.out.size))
   clear hb x0 x1 x2 x3 x4 x5
   have bxr := HX.out w1 HW1.out
   have x0 := cell_of_row _ _ 0 _ _ _ bxr
   have x1 := cell_of_row _ _ 1 _ _ _ bxr
   have x2 := cell_of_row _ _ 2 _ _ _ bxr
   have x3 := cell_of_row _ _ 3 _ _ _ bxr
   have x4 := cell_of_row _ _ 4 _ _ _ bxr
   have x5 := cell_of_row _ _ 5 _ _ _ bxr
   clear bxr
   have HC1 := Lib.hid (l3Single_any g _ _ _ _ w1 HSM.out (HG.out w1 HZ1.out))
   rw [c1] at HC1
   go_wp2_with fail
   (with_reducible refine HC1.out.mono ?_)
   rintro e w2 ⟨rfl, hb⟩
   have HW2 := Lib.hid (HW1.out.trans (hb.mono HW1.out.size))
   have HZ2 := Lib.hid (HZ1.out.trans (hb.mono HZ1.out.size))
   clear hb x0 x1 x2 x3 x4 x5
   go_wp2_with fail
   go_ret
   exact ⟨by first | rfl | (rw [HE.out]; done) | (rw [HE.out]; rfl), HZ2.out⟩

set_option maxRecDepth 100000 in
set_option maxHeartbeats 4000000 in
theorem specIsSubstitution_any (sig : List Ct) (g : Gr) (nv sv ov iv gv : Value) (w : World) (hs : SmallG g) (hz : SmallS sig) (hS : RSl RCt 3 w gv sig) (hG : RGr w nv sv ov iv g) :
  Calls Tryz.prog 82 #[gv, .agg #[.int .i64 g.roots, nv, sv, .int .i64 g.edges, ov, iv]] w fun e w' => e = .returned (.bool (openR sig g)) ∧ Below w.heap.size w w' := by
 have HG := Lib.hid (show ∀ W, Below w.heap.size w W → RGr W nv sv ov iv g from fun W hb => hG.below hb)
 have HS := Lib.hid (show ∀ W, Below w.heap.size w W → RSl RCt 3 W gv sig from fun W hb => hS.below RCt_keep hb)
 have HSM := Lib.hid hs
 obtain ⟨AN, cN, AS, cS, AO, cO, AI, cI, rfl, rfl, rfl, rfl⟩ := hG.form
 obtain ⟨AG, cG, rfl, _⟩ := hS.form
 obtain ⟨w0, hw0⟩ : ∃ w0, w0 = w.alloc (.cells #[.int .i64 g.roots, .slice AN g.nodes.length cN, .slice AS g.sites.length cS, .int .i64 g.edges, .slice AO g.outer.length cO, .slice AI g.inner.length cI] 31) := ⟨_, rfl⟩
 have hb0 : Below w.heap.size w w0 := by rw [hw0]; exact (Below.refl _ _).alloc (Nat.le_refl _) _
 have bx0 : w0.heap[w.heap.size]? = some (.cells #[.int .i64 g.roots, .slice AN g.nodes.length cN, .slice AS g.sites.length cS, .int .i64 g.edges, .slice AO g.outer.length cO, .slice AI g.inner.length cI] 31) := by rw [hw0]; exact heap_alloc_new _ _
 have hsz0 : w0.heap.size = w.heap.size + 1 := by rw [hw0]; simp
 have HX := Lib.hid (show ∀ W, Below w0.heap.size w0 W → W.heap[w.heap.size]? = some (.cells #[.int .i64 g.roots, .slice AN g.nodes.length cN, .slice AS g.sites.length cS, .int .i64 g.edges, .slice AO g.outer.length cO, .slice AI g.inner.length cI] 31) from fun W hW => (hW.block _ (by omega)).trans bx0)
 have HB0 := Lib.hid hb0
 have HW0 := Lib.hid hw0
 have H1 := Lib.hid (l2Good_any sig g _ _ _ _ _ w0 hs hz (HS.out w0 hb0) (HG.out w0 hb0))
 have x0 := cell_of_row _ _ 0 _ _ _ bx0
 have x1 := cell_of_row _ _ 1 _ _ _ bx0
 have x2 := cell_of_row _ _ 2 _ _ _ bx0
 have x3 := cell_of_row _ _ 3 _ _ _ bx0
 have x4 := cell_of_row _ _ 4 _ _ _ bx0
 have x5 := cell_of_row _ _ 5 _ _ _ bx0
 rw [hw0] at x0 x1 x2 x3 x4 x5
 clear hs hG hb0 bx0 hw0 hS hz
 cases c0 : (goodG sig g)
 ·have HE := Lib.hid (show openR sig g = false from by rw [openR_alt, c0]; first | done | rfl)
  rw [c0] at H1
  go_enter Tryz.func82, Tryz.ntmps82
  go_wp2_with fail
  rw [← HW0.out]
  (with_reducible refine H1.out.mono ?_)
  rintro e w1 ⟨rfl, hb⟩
  have HW1 := Lib.hid hb
  have HZ1 := Lib.hid (HB0.out.trans (hb.mono HB0.out.size))
  clear hb x0 x1 x2 x3 x4 x5
  go_wp2_with fail
  go_ret
  exact ⟨by first | rfl | (rw [HE.out]; done) | (rw [HE.out]; rfl), HZ1.out⟩
 ·have HGP := Lib.hid ((good_iff sig g).1 c0)
  cases c1 : ((wirB g && (g.edges == 0)))
  ·have HE := Lib.hid (show openR sig g = false from by rw [openR_alt, c0, c1]; first | done | rfl)
   rw [c0] at H1
   go_enter Tryz.func82, Tryz.ntmps82
   go_wp2_with fail
   rw [← HW0.out]
   (with_reducible refine H1.out.mono ?_)
   rintro e w1 ⟨rfl, hb⟩
   have HW1 := Lib.hid hb
   have HZ1 := Lib.hid (HB0.out.trans (hb.mono HB0.out.size))
   clear hb x0 x1 x2 x3 x4 x5
   have bxr := HX.out w1 HW1.out
   have x0 := cell_of_row _ _ 0 _ _ _ bxr
   have x1 := cell_of_row _ _ 1 _ _ _ bxr
   have x2 := cell_of_row _ _ 2 _ _ _ bxr
   have x3 := cell_of_row _ _ 3 _ _ _ bxr
   have x4 := cell_of_row _ _ 4 _ _ _ bxr
   have x5 := cell_of_row _ _ 5 _ _ _ bxr
   clear bxr
   have HC1 := Lib.hid (l3Open_any g _ _ _ _ w1 HSM.out (HG.out w1 HZ1.out))
   rw [c1] at HC1
   go_wp2_with fail
   (with_reducible refine HC1.out.mono ?_)
   rintro e w2 ⟨rfl, hb⟩
   have HW2 := Lib.hid (HW1.out.trans (hb.mono HW1.out.size))
   have HZ2 := Lib.hid (HZ1.out.trans (hb.mono HZ1.out.size))
   clear hb x0 x1 x2 x3 x4 x5
   go_wp2_with fail
   go_ret
   exact ⟨by first | rfl | (rw [HE.out]; done) | (rw [HE.out]; rfl), HZ2.out⟩
  ·have HE := Lib.hid (show openR sig g = true from by rw [openR_alt, c0, c1]; first | done | rfl)
   rw [c0] at H1
   go_enter Tryz.func82, Tryz.ntmps82
   go_wp2_with fail
   rw [← HW0.out]
   (with_reducible refine H1.out.mono ?_)
   rintro e w1 ⟨rfl, hb⟩
   have HW1 := Lib.hid hb
   have HZ1 := Lib.hid (HB0.out.trans (hb.mono HB0.out.size))
   clear hb x0 x1 x2 x3 x4 x5
   have bxr := HX.out w1 HW1.out
   have x0 := cell_of_row _ _ 0 _ _ _ bxr
   have x1 := cell_of_row _ _ 1 _ _ _ bxr
   have x2 := cell_of_row _ _ 2 _ _ _ bxr
   have x3 := cell_of_row _ _ 3 _ _ _ bxr
   have x4 := cell_of_row _ _ 4 _ _ _ bxr
   have x5 := cell_of_row _ _ 5 _ _ _ bxr
   clear bxr
   have HC1 := Lib.hid (l3Open_any g _ _ _ _ w1 HSM.out (HG.out w1 HZ1.out))
   rw [c1] at HC1
   go_wp2_with fail
   (with_reducible refine HC1.out.mono ?_)
   rintro e w2 ⟨rfl, hb⟩
   have HW2 := Lib.hid (HW1.out.trans (hb.mono HW1.out.size))
   have HZ2 := Lib.hid (HZ1.out.trans (hb.mono HZ1.out.size))
   clear hb x0 x1 x2 x3 x4 x5
   go_wp2_with fail
   go_ret
   exact ⟨by first | rfl | (rw [HE.out]; done) | (rw [HE.out]; rfl), HZ2.out⟩

set_option maxRecDepth 100000 in
set_option maxHeartbeats 4000000 in
theorem specIsRenaming_any (sig : List Ct) (g : Gr) (nv sv ov iv gv : Value) (w : World) (hs : SmallG g) (hz : SmallS sig) (hS : RSl RCt 3 w gv sig) (hG : RGr w nv sv ov iv g) :
  Calls Tryz.prog 83 #[gv, .agg #[.int .i64 g.roots, nv, sv, .int .i64 g.edges, ov, iv]] w fun e w' => e = .returned (.bool (renR sig g)) ∧ Below w.heap.size w w' := by
 have HG := Lib.hid (show ∀ W, Below w.heap.size w W → RGr W nv sv ov iv g from fun W hb => hG.below hb)
 have HS := Lib.hid (show ∀ W, Below w.heap.size w W → RSl RCt 3 W gv sig from fun W hb => hS.below RCt_keep hb)
 have HSM := Lib.hid hs
 obtain ⟨AN, cN, AS, cS, AO, cO, AI, cI, rfl, rfl, rfl, rfl⟩ := hG.form
 obtain ⟨AG, cG, rfl, _⟩ := hS.form
 obtain ⟨w0, hw0⟩ : ∃ w0, w0 = w.alloc (.cells #[.int .i64 g.roots, .slice AN g.nodes.length cN, .slice AS g.sites.length cS, .int .i64 g.edges, .slice AO g.outer.length cO, .slice AI g.inner.length cI] 31) := ⟨_, rfl⟩
 have hb0 : Below w.heap.size w w0 := by rw [hw0]; exact (Below.refl _ _).alloc (Nat.le_refl _) _
 have bx0 : w0.heap[w.heap.size]? = some (.cells #[.int .i64 g.roots, .slice AN g.nodes.length cN, .slice AS g.sites.length cS, .int .i64 g.edges, .slice AO g.outer.length cO, .slice AI g.inner.length cI] 31) := by rw [hw0]; exact heap_alloc_new _ _
 have hsz0 : w0.heap.size = w.heap.size + 1 := by rw [hw0]; simp
 have HX := Lib.hid (show ∀ W, Below w0.heap.size w0 W → W.heap[w.heap.size]? = some (.cells #[.int .i64 g.roots, .slice AN g.nodes.length cN, .slice AS g.sites.length cS, .int .i64 g.edges, .slice AO g.outer.length cO, .slice AI g.inner.length cI] 31) from fun W hW => (hW.block _ (by omega)).trans bx0)
 have HB0 := Lib.hid hb0
 have HW0 := Lib.hid hw0
 have H1 := Lib.hid (l2Good_any sig g _ _ _ _ _ w0 hs hz (HS.out w0 hb0) (HG.out w0 hb0))
 have x0 := cell_of_row _ _ 0 _ _ _ bx0
 have x1 := cell_of_row _ _ 1 _ _ _ bx0
 have x2 := cell_of_row _ _ 2 _ _ _ bx0
 have x3 := cell_of_row _ _ 3 _ _ _ bx0
 have x4 := cell_of_row _ _ 4 _ _ _ bx0
 have x5 := cell_of_row _ _ 5 _ _ _ bx0
 rw [hw0] at x0 x1 x2 x3 x4 x5
 clear hs hG hb0 bx0 hw0 hS hz
 cases c0 : (goodG sig g)
 ·have HE := Lib.hid (show renR sig g = false from by rw [renR_alt, c0]; first | done | rfl)
  rw [c0] at H1
  go_enter Tryz.func83, Tryz.ntmps83
  go_wp2_with fail
  rw [← HW0.out]
  (with_reducible refine H1.out.mono ?_)
  rintro e w1 ⟨rfl, hb⟩
  have HW1 := Lib.hid hb
  have HZ1 := Lib.hid (HB0.out.trans (hb.mono HB0.out.size))
  clear hb x0 x1 x2 x3 x4 x5
  go_wp2_with fail
  go_ret
  exact ⟨by first | rfl | (rw [HE.out]; done) | (rw [HE.out]; rfl), HZ1.out⟩
 ·have HGP := Lib.hid ((good_iff sig g).1 c0)
  cases c1 : (((wirB g && (g.edges == 0)) && (oneB g && (g.edges == 0))))
  ·have HE := Lib.hid (show renR sig g = false from by rw [renR_alt, c0, c1]; first | done | rfl)
   rw [c0] at H1
   go_enter Tryz.func83, Tryz.ntmps83
   go_wp2_with fail
   rw [← HW0.out]
   (with_reducible refine H1.out.mono ?_)
   rintro e w1 ⟨rfl, hb⟩
   have HW1 := Lib.hid hb
   have HZ1 := Lib.hid (HB0.out.trans (hb.mono HB0.out.size))
   clear hb x0 x1 x2 x3 x4 x5
   have bxr := HX.out w1 HW1.out
   have x0 := cell_of_row _ _ 0 _ _ _ bxr
   have x1 := cell_of_row _ _ 1 _ _ _ bxr
   have x2 := cell_of_row _ _ 2 _ _ _ bxr
   have x3 := cell_of_row _ _ 3 _ _ _ bxr
   have x4 := cell_of_row _ _ 4 _ _ _ bxr
   have x5 := cell_of_row _ _ 5 _ _ _ bxr
   clear bxr
   have HC1 := Lib.hid (l3Renames_any g _ _ _ _ w1 HSM.out (HG.out w1 HZ1.out))
   rw [c1] at HC1
   go_wp2_with fail
   (with_reducible refine HC1.out.mono ?_)
   rintro e w2 ⟨rfl, hb⟩
   have HW2 := Lib.hid (HW1.out.trans (hb.mono HW1.out.size))
   have HZ2 := Lib.hid (HZ1.out.trans (hb.mono HZ1.out.size))
   clear hb x0 x1 x2 x3 x4 x5
   go_wp2_with fail
   go_ret
   exact ⟨by first | rfl | (rw [HE.out]; done) | (rw [HE.out]; rfl), HZ2.out⟩
  ·have HE := Lib.hid (show renR sig g = true from by rw [renR_alt, c0, c1]; first | done | rfl)
   rw [c0] at H1
   go_enter Tryz.func83, Tryz.ntmps83
   go_wp2_with fail
   rw [← HW0.out]
   (with_reducible refine H1.out.mono ?_)
   rintro e w1 ⟨rfl, hb⟩
   have HW1 := Lib.hid hb
   have HZ1 := Lib.hid (HB0.out.trans (hb.mono HB0.out.size))
   clear hb x0 x1 x2 x3 x4 x5
   have bxr := HX.out w1 HW1.out
   have x0 := cell_of_row _ _ 0 _ _ _ bxr
   have x1 := cell_of_row _ _ 1 _ _ _ bxr
   have x2 := cell_of_row _ _ 2 _ _ _ bxr
   have x3 := cell_of_row _ _ 3 _ _ _ bxr
   have x4 := cell_of_row _ _ 4 _ _ _ bxr
   have x5 := cell_of_row _ _ 5 _ _ _ bxr
   clear bxr
   have HC1 := Lib.hid (l3Renames_any g _ _ _ _ w1 HSM.out (HG.out w1 HZ1.out))
   rw [c1] at HC1
   go_wp2_with fail
   (with_reducible refine HC1.out.mono ?_)
   rintro e w2 ⟨rfl, hb⟩
   have HW2 := Lib.hid (HW1.out.trans (hb.mono HW1.out.size))
   have HZ2 := Lib.hid (HZ1.out.trans (hb.mono HZ1.out.size))
   clear hb x0 x1 x2 x3 x4 x5
   go_wp2_with fail
   go_ret
   exact ⟨by first | rfl | (rw [HE.out]; done) | (rw [HE.out]; rfl), HZ2.out⟩

set_option maxRecDepth 100000 in
set_option maxHeartbeats 4000000 in
theorem specIsDiscrete_any (sig : List Ct) (g : Gr) (nv sv ov iv gv : Value) (w : World) (hs : SmallG g) (hz : SmallS sig) (hS : RSl RCt 3 w gv sig) (hG : RGr w nv sv ov iv g) :
  Calls Tryz.prog 84 #[gv, .agg #[.int .i64 g.roots, nv, sv, .int .i64 g.edges, ov, iv]] w fun e w' => e = .returned (.bool (discR sig g)) ∧ Below w.heap.size w w' := by
 have HG := Lib.hid (show ∀ W, Below w.heap.size w W → RGr W nv sv ov iv g from fun W hb => hG.below hb)
 have HS := Lib.hid (show ∀ W, Below w.heap.size w W → RSl RCt 3 W gv sig from fun W hb => hS.below RCt_keep hb)
 have HSM := Lib.hid hs
 obtain ⟨AN, cN, AS, cS, AO, cO, AI, cI, rfl, rfl, rfl, rfl⟩ := hG.form
 obtain ⟨AG, cG, rfl, _⟩ := hS.form
 obtain ⟨w0, hw0⟩ : ∃ w0, w0 = w.alloc (.cells #[.int .i64 g.roots, .slice AN g.nodes.length cN, .slice AS g.sites.length cS, .int .i64 g.edges, .slice AO g.outer.length cO, .slice AI g.inner.length cI] 31) := ⟨_, rfl⟩
 have hb0 : Below w.heap.size w w0 := by rw [hw0]; exact (Below.refl _ _).alloc (Nat.le_refl _) _
 have bx0 : w0.heap[w.heap.size]? = some (.cells #[.int .i64 g.roots, .slice AN g.nodes.length cN, .slice AS g.sites.length cS, .int .i64 g.edges, .slice AO g.outer.length cO, .slice AI g.inner.length cI] 31) := by rw [hw0]; exact heap_alloc_new _ _
 have hsz0 : w0.heap.size = w.heap.size + 1 := by rw [hw0]; simp
 have HX := Lib.hid (show ∀ W, Below w0.heap.size w0 W → W.heap[w.heap.size]? = some (.cells #[.int .i64 g.roots, .slice AN g.nodes.length cN, .slice AS g.sites.length cS, .int .i64 g.edges, .slice AO g.outer.length cO, .slice AI g.inner.length cI] 31) from fun W hW => (hW.block _ (by omega)).trans bx0)
 have HB0 := Lib.hid hb0
 have HW0 := Lib.hid hw0
 have H1 := Lib.hid (l2Good_any sig g _ _ _ _ _ w0 hs hz (HS.out w0 hb0) (HG.out w0 hb0))
 have x0 := cell_of_row _ _ 0 _ _ _ bx0
 have x1 := cell_of_row _ _ 1 _ _ _ bx0
 have x2 := cell_of_row _ _ 2 _ _ _ bx0
 have x3 := cell_of_row _ _ 3 _ _ _ bx0
 have x4 := cell_of_row _ _ 4 _ _ _ bx0
 have x5 := cell_of_row _ _ 5 _ _ _ bx0
 rw [hw0] at x0 x1 x2 x3 x4 x5
 clear hs hG hb0 bx0 hw0 hS hz
 cases c0 : (goodG sig g)
 ·have HE := Lib.hid (show discR sig g = false from by rw [discR_alt, c0]; first | done | rfl)
  rw [c0] at H1
  go_enter Tryz.func84, Tryz.ntmps84
  go_wp2_with fail
  rw [← HW0.out]
  (with_reducible refine H1.out.mono ?_)
  rintro e w1 ⟨rfl, hb⟩
  have HW1 := Lib.hid hb
  have HZ1 := Lib.hid (HB0.out.trans (hb.mono HB0.out.size))
  clear hb x0 x1 x2 x3 x4 x5
  go_wp2_with fail
  go_ret
  exact ⟨by first | rfl | (rw [HE.out]; done) | (rw [HE.out]; rfl), HZ1.out⟩
 ·have HGP := Lib.hid ((good_iff sig g).1 c0)
  cases c1 : ((oneB g && (g.edges == 0)))
  ·have HE := Lib.hid (show discR sig g = false from by rw [discR_alt, c0, c1]; first | done | rfl)
   rw [c0] at H1
   go_enter Tryz.func84, Tryz.ntmps84
   go_wp2_with fail
   rw [← HW0.out]
   (with_reducible refine H1.out.mono ?_)
   rintro e w1 ⟨rfl, hb⟩
   have HW1 := Lib.hid hb
   have HZ1 := Lib.hid (HB0.out.trans (hb.mono HB0.out.size))
   clear hb x0 x1 x2 x3 x4 x5
   have bxr := HX.out w1 HW1.out
   have x0 := cell_of_row _ _ 0 _ _ _ bxr
   have x1 := cell_of_row _ _ 1 _ _ _ bxr
   have x2 := cell_of_row _ _ 2 _ _ _ bxr
   have x3 := cell_of_row _ _ 3 _ _ _ bxr
   have x4 := cell_of_row _ _ 4 _ _ _ bxr
   have x5 := cell_of_row _ _ 5 _ _ _ bxr
   clear bxr
   have HC1 := Lib.hid (l3Single_any g _ _ _ _ w1 HSM.out (HG.out w1 HZ1.out))
   rw [c1] at HC1
   go_wp2_with fail
   (with_reducible refine HC1.out.mono ?_)
   rintro e w2 ⟨rfl, hb⟩
   have HW2 := Lib.hid (HW1.out.trans (hb.mono HW1.out.size))
   have HZ2 := Lib.hid (HZ1.out.trans (hb.mono HZ1.out.size))
   clear hb x0 x1 x2 x3 x4 x5
   go_wp2_with fail
   go_ret
   exact ⟨by first | rfl | (rw [HE.out]; done) | (rw [HE.out]; rfl), HZ2.out⟩
  ·have HE := Lib.hid (show discR sig g = true from by rw [discR_alt, c0, c1]; first | done | rfl)
   rw [c0] at H1
   go_enter Tryz.func84, Tryz.ntmps84
   go_wp2_with fail
   rw [← HW0.out]
   (with_reducible refine H1.out.mono ?_)
   rintro e w1 ⟨rfl, hb⟩
   have HW1 := Lib.hid hb
   have HZ1 := Lib.hid (HB0.out.trans (hb.mono HB0.out.size))
   clear hb x0 x1 x2 x3 x4 x5
   have bxr := HX.out w1 HW1.out
   have x0 := cell_of_row _ _ 0 _ _ _ bxr
   have x1 := cell_of_row _ _ 1 _ _ _ bxr
   have x2 := cell_of_row _ _ 2 _ _ _ bxr
   have x3 := cell_of_row _ _ 3 _ _ _ bxr
   have x4 := cell_of_row _ _ 4 _ _ _ bxr
   have x5 := cell_of_row _ _ 5 _ _ _ bxr
   clear bxr
   have HC1 := Lib.hid (l3Single_any g _ _ _ _ w1 HSM.out (HG.out w1 HZ1.out))
   rw [c1] at HC1
   go_wp2_with fail
   (with_reducible refine HC1.out.mono ?_)
   rintro e w2 ⟨rfl, hb⟩
   have HW2 := Lib.hid (HW1.out.trans (hb.mono HW1.out.size))
   have HZ2 := Lib.hid (HZ1.out.trans (hb.mono HZ1.out.size))
   clear hb x0 x1 x2 x3 x4 x5
   go_wp2_with fail
   go_ret
   exact ⟨by first | rfl | (rw [HE.out]; done) | (rw [HE.out]; rfl), HZ2.out⟩

set_option maxRecDepth 100000 in
set_option maxHeartbeats 4000000 in
theorem specIsPrime_any (sig : List Ct) (g : Gr) (nv sv ov iv gv : Value) (w : World) (hs : SmallG g) (hz : SmallS sig) (hS : RSl RCt 3 w gv sig) (hG : RGr w nv sv ov iv g) :
  Calls Tryz.prog 85 #[gv, .agg #[.int .i64 g.roots, nv, sv, .int .i64 g.edges, ov, iv]] w fun e w' => e = .returned (.bool (primR sig g)) ∧ Below w.heap.size w w' := by
 have HG := Lib.hid (show ∀ W, Below w.heap.size w W → RGr W nv sv ov iv g from fun W hb => hG.below hb)
 have HS := Lib.hid (show ∀ W, Below w.heap.size w W → RSl RCt 3 W gv sig from fun W hb => hS.below RCt_keep hb)
 have HSM := Lib.hid hs
 obtain ⟨AN, cN, AS, cS, AO, cO, AI, cI, rfl, rfl, rfl, rfl⟩ := hG.form
 obtain ⟨AG, cG, rfl, _⟩ := hS.form
 obtain ⟨w0, hw0⟩ : ∃ w0, w0 = w.alloc (.cells #[.int .i64 g.roots, .slice AN g.nodes.length cN, .slice AS g.sites.length cS, .int .i64 g.edges, .slice AO g.outer.length cO, .slice AI g.inner.length cI] 31) := ⟨_, rfl⟩
 have hb0 : Below w.heap.size w w0 := by rw [hw0]; exact (Below.refl _ _).alloc (Nat.le_refl _) _
 have bx0 : w0.heap[w.heap.size]? = some (.cells #[.int .i64 g.roots, .slice AN g.nodes.length cN, .slice AS g.sites.length cS, .int .i64 g.edges, .slice AO g.outer.length cO, .slice AI g.inner.length cI] 31) := by rw [hw0]; exact heap_alloc_new _ _
 have hsz0 : w0.heap.size = w.heap.size + 1 := by rw [hw0]; simp
 have HX := Lib.hid (show ∀ W, Below w0.heap.size w0 W → W.heap[w.heap.size]? = some (.cells #[.int .i64 g.roots, .slice AN g.nodes.length cN, .slice AS g.sites.length cS, .int .i64 g.edges, .slice AO g.outer.length cO, .slice AI g.inner.length cI] 31) from fun W hW => (hW.block _ (by omega)).trans bx0)
 have HB0 := Lib.hid hb0
 have HW0 := Lib.hid hw0
 have H1 := Lib.hid (l2Good_any sig g _ _ _ _ _ w0 hs hz (HS.out w0 hb0) (HG.out w0 hb0))
 have x0 := cell_of_row _ _ 0 _ _ _ bx0
 have x1 := cell_of_row _ _ 1 _ _ _ bx0
 have x2 := cell_of_row _ _ 2 _ _ _ bx0
 have x3 := cell_of_row _ _ 3 _ _ _ bx0
 have x4 := cell_of_row _ _ 4 _ _ _ bx0
 have x5 := cell_of_row _ _ 5 _ _ _ bx0
 rw [hw0] at x0 x1 x2 x3 x4 x5
 clear hs hG hb0 bx0 hw0 hS hz
 cases c0 : (goodG sig g)
 ·have HE := Lib.hid (show primR sig g = false from by rw [primR_eq, c0]; first | done | rfl)
  rw [c0] at H1
  go_enter Tryz.func85, Tryz.ntmps85
  go_wp2_with fail
  rw [← HW0.out]
  (with_reducible refine H1.out.mono ?_)
  rintro e w1 ⟨rfl, hb⟩
  have HW1 := Lib.hid hb
  have HZ1 := Lib.hid (HB0.out.trans (hb.mono HB0.out.size))
  clear hb x0 x1 x2 x3 x4 x5
  go_wp2_with fail
  go_ret
  exact ⟨by first | rfl | (rw [HE.out]; done) | (rw [HE.out]; rfl), HZ1.out⟩
 ·have HGP := Lib.hid ((good_iff sig g).1 c0)
  cases c1 : (g.roots == 1)
  ·have HE := Lib.hid (show primR sig g = false from by rw [primR_eq, c0, c1]; first | done | rfl)
   rw [c0] at H1
   go_enter Tryz.func85, Tryz.ntmps85
   go_wp2_with fail
   rw [← HW0.out]
   (with_reducible refine H1.out.mono ?_)
   rintro e w1 ⟨rfl, hb⟩
   have HW1 := Lib.hid hb
   have HZ1 := Lib.hid (HB0.out.trans (hb.mono HB0.out.size))
   clear hb x0 x1 x2 x3 x4 x5
   have bxr := HX.out w1 HW1.out
   have x0 := cell_of_row _ _ 0 _ _ _ bxr
   have x1 := cell_of_row _ _ 1 _ _ _ bxr
   have x2 := cell_of_row _ _ 2 _ _ _ bxr
   have x3 := cell_of_row _ _ 3 _ _ _ bxr
   have x4 := cell_of_row _ _ 4 _ _ _ bxr
   have x5 := cell_of_row _ _ 5 _ _ _ bxr
   clear bxr
   go_wp2_with fail
   go_ret
   exact ⟨by first | rfl | (rw [HE.out]; done) | (rw [HE.out]; rfl), HZ1.out⟩
  ·cases c2 : ((g.inner.length : Int) == 0)
   ·have HE := Lib.hid (show primR sig g = false from by rw [primR_eq, c0, c1, c2]; first | done | rfl)
    rw [c0] at H1
    go_enter Tryz.func85, Tryz.ntmps85
    go_wp2_with fail
    rw [← HW0.out]
    (with_reducible refine H1.out.mono ?_)
    rintro e w1 ⟨rfl, hb⟩
    have HW1 := Lib.hid hb
    have HZ1 := Lib.hid (HB0.out.trans (hb.mono HB0.out.size))
    clear hb x0 x1 x2 x3 x4 x5
    have bxr := HX.out w1 HW1.out
    have x0 := cell_of_row _ _ 0 _ _ _ bxr
    have x1 := cell_of_row _ _ 1 _ _ _ bxr
    have x2 := cell_of_row _ _ 2 _ _ _ bxr
    have x3 := cell_of_row _ _ 3 _ _ _ bxr
    have x4 := cell_of_row _ _ 4 _ _ _ bxr
    have x5 := cell_of_row _ _ 5 _ _ _ bxr
    clear bxr
    go_wp2_with fail
    go_ret
    exact ⟨by first | rfl | (rw [HE.out]; done) | (rw [HE.out]; rfl), HZ1.out⟩
   ·have HE := Lib.hid (show primR sig g = true from by rw [primR_eq, c0, c1, c2]; first | done | rfl)
    rw [c0] at H1
    go_enter Tryz.func85, Tryz.ntmps85
    go_wp2_with fail
    rw [← HW0.out]
    (with_reducible refine H1.out.mono ?_)
    rintro e w1 ⟨rfl, hb⟩
    have HW1 := Lib.hid hb
    have HZ1 := Lib.hid (HB0.out.trans (hb.mono HB0.out.size))
    clear hb x0 x1 x2 x3 x4 x5
    have bxr := HX.out w1 HW1.out
    have x0 := cell_of_row _ _ 0 _ _ _ bxr
    have x1 := cell_of_row _ _ 1 _ _ _ bxr
    have x2 := cell_of_row _ _ 2 _ _ _ bxr
    have x3 := cell_of_row _ _ 3 _ _ _ bxr
    have x4 := cell_of_row _ _ 4 _ _ _ bxr
    have x5 := cell_of_row _ _ 5 _ _ _ bxr
    clear bxr
    go_wp2_with fail
    go_ret
    exact ⟨by first | rfl | (rw [HE.out]; done) | (rw [HE.out]; rfl), HZ1.out⟩

set_option maxRecDepth 100000 in
set_option maxHeartbeats 4000000 in
theorem specIsLean_any (sig : List Ct) (g : Gr) (nv sv ov iv gv : Value) (w : World) (hs : SmallG g) (hz : SmallS sig) (hS : RSl RCt 3 w gv sig) (hG : RGr w nv sv ov iv g) :
  Calls Tryz.prog 86 #[gv, .agg #[.int .i64 g.roots, nv, sv, .int .i64 g.edges, ov, iv]] w fun e w' => e = .returned (.bool (leanR sig g)) ∧ Below w.heap.size w w' := by
 have HG := Lib.hid (show ∀ W, Below w.heap.size w W → RGr W nv sv ov iv g from fun W hb => hG.below hb)
 have HS := Lib.hid (show ∀ W, Below w.heap.size w W → RSl RCt 3 W gv sig from fun W hb => hS.below RCt_keep hb)
 have HSM := Lib.hid hs
 obtain ⟨AN, cN, AS, cS, AO, cO, AI, cI, rfl, rfl, rfl, rfl⟩ := hG.form
 obtain ⟨AG, cG, rfl, _⟩ := hS.form
 obtain ⟨w0, hw0⟩ : ∃ w0, w0 = w.alloc (.cells #[.int .i64 g.roots, .slice AN g.nodes.length cN, .slice AS g.sites.length cS, .int .i64 g.edges, .slice AO g.outer.length cO, .slice AI g.inner.length cI] 31) := ⟨_, rfl⟩
 have hb0 : Below w.heap.size w w0 := by rw [hw0]; exact (Below.refl _ _).alloc (Nat.le_refl _) _
 have bx0 : w0.heap[w.heap.size]? = some (.cells #[.int .i64 g.roots, .slice AN g.nodes.length cN, .slice AS g.sites.length cS, .int .i64 g.edges, .slice AO g.outer.length cO, .slice AI g.inner.length cI] 31) := by rw [hw0]; exact heap_alloc_new _ _
 have hsz0 : w0.heap.size = w.heap.size + 1 := by rw [hw0]; simp
 have HX := Lib.hid (show ∀ W, Below w0.heap.size w0 W → W.heap[w.heap.size]? = some (.cells #[.int .i64 g.roots, .slice AN g.nodes.length cN, .slice AS g.sites.length cS, .int .i64 g.edges, .slice AO g.outer.length cO, .slice AI g.inner.length cI] 31) from fun W hW => (hW.block _ (by omega)).trans bx0)
 have HB0 := Lib.hid hb0
 have HW0 := Lib.hid hw0
 have H1 := Lib.hid (l2Good_any sig g _ _ _ _ _ w0 hs hz (HS.out w0 hb0) (HG.out w0 hb0))
 have x0 := cell_of_row _ _ 0 _ _ _ bx0
 have x1 := cell_of_row _ _ 1 _ _ _ bx0
 have x2 := cell_of_row _ _ 2 _ _ _ bx0
 have x3 := cell_of_row _ _ 3 _ _ _ bx0
 have x4 := cell_of_row _ _ 4 _ _ _ bx0
 have x5 := cell_of_row _ _ 5 _ _ _ bx0
 rw [hw0] at x0 x1 x2 x3 x4 x5
 clear hs hG hb0 bx0 hw0 hS hz
 cases c0 : (goodG sig g)
 ·have HE := Lib.hid (show leanR sig g = false from by rw [leanR_eq, c0]; first | done | rfl)
  rw [c0] at H1
  go_enter Tryz.func86, Tryz.ntmps86
  go_wp2_with fail
  rw [← HW0.out]
  (with_reducible refine H1.out.mono ?_)
  rintro e w1 ⟨rfl, hb⟩
  have HW1 := Lib.hid hb
  have HZ1 := Lib.hid (HB0.out.trans (hb.mono HB0.out.size))
  clear hb x0 x1 x2 x3 x4 x5
  go_wp2_with fail
  go_ret
  exact ⟨by first | rfl | (rw [HE.out]; done) | (rw [HE.out]; rfl), HZ1.out⟩
 ·have HGP := Lib.hid ((good_iff sig g).1 c0)
  cases c1 : (leanB g)
  ·have HE := Lib.hid (show leanR sig g = false from by rw [leanR_eq, c0, c1]; first | done | rfl)
   rw [c0] at H1
   go_enter Tryz.func86, Tryz.ntmps86
   go_wp2_with fail
   rw [← HW0.out]
   (with_reducible refine H1.out.mono ?_)
   rintro e w1 ⟨rfl, hb⟩
   have HW1 := Lib.hid hb
   have HZ1 := Lib.hid (HB0.out.trans (hb.mono HB0.out.size))
   clear hb x0 x1 x2 x3 x4 x5
   have bxr := HX.out w1 HW1.out
   have x0 := cell_of_row _ _ 0 _ _ _ bxr
   have x1 := cell_of_row _ _ 1 _ _ _ bxr
   have x2 := cell_of_row _ _ 2 _ _ _ bxr
   have x3 := cell_of_row _ _ 3 _ _ _ bxr
   have x4 := cell_of_row _ _ 4 _ _ _ bxr
   have x5 := cell_of_row _ _ 5 _ _ _ bxr
   clear bxr
   have HC1 := Lib.hid (l3Lean_any g _ _ _ _ w1 HSM.out (HG.out w1 HZ1.out))
   rw [c1] at HC1
   go_wp2_with fail
   (with_reducible refine HC1.out.mono ?_)
   rintro e w2 ⟨rfl, hb⟩
   have HW2 := Lib.hid (HW1.out.trans (hb.mono HW1.out.size))
   have HZ2 := Lib.hid (HZ1.out.trans (hb.mono HZ1.out.size))
   clear hb x0 x1 x2 x3 x4 x5
   go_wp2_with fail
   go_ret
   exact ⟨by first | rfl | (rw [HE.out]; done) | (rw [HE.out]; rfl), HZ2.out⟩
  ·have HE := Lib.hid (show leanR sig g = true from by rw [leanR_eq, c0, c1]; first | done | rfl)
   rw [c0] at H1
   go_enter Tryz.func86, Tryz.ntmps86
   go_wp2_with fail
   rw [← HW0.out]
   (with_reducible refine H1.out.mono ?_)
   rintro e w1 ⟨rfl, hb⟩
   have HW1 := Lib.hid hb
   have HZ1 := Lib.hid (HB0.out.trans (hb.mono HB0.out.size))
   clear hb x0 x1 x2 x3 x4 x5
   have bxr := HX.out w1 HW1.out
   have x0 := cell_of_row _ _ 0 _ _ _ bxr
   have x1 := cell_of_row _ _ 1 _ _ _ bxr
   have x2 := cell_of_row _ _ 2 _ _ _ bxr
   have x3 := cell_of_row _ _ 3 _ _ _ bxr
   have x4 := cell_of_row _ _ 4 _ _ _ bxr
   have x5 := cell_of_row _ _ 5 _ _ _ bxr
   clear bxr
   have HC1 := Lib.hid (l3Lean_any g _ _ _ _ w1 HSM.out (HG.out w1 HZ1.out))
   rw [c1] at HC1
   go_wp2_with fail
   (with_reducible refine HC1.out.mono ?_)
   rintro e w2 ⟨rfl, hb⟩
   have HW2 := Lib.hid (HW1.out.trans (hb.mono HW1.out.size))
   have HZ2 := Lib.hid (HZ1.out.trans (hb.mono HZ1.out.size))
   clear hb x0 x1 x2 x3 x4 x5
   go_wp2_with fail
   go_ret
   exact ⟨by first | rfl | (rw [HE.out]; done) | (rw [HE.out]; rfl), HZ2.out⟩

set_option maxRecDepth 100000 in
set_option maxHeartbeats 4000000 in
theorem specIsGuarding_any (sig : List Ct) (g : Gr) (nv sv ov iv gv : Value) (w : World) (hs : SmallG g) (hz : SmallS sig) (hS : RSl RCt 3 w gv sig) (hG : RGr w nv sv ov iv g) :
  Calls Tryz.prog 87 #[gv, .agg #[.int .i64 g.roots, nv, sv, .int .i64 g.edges, ov, iv]] w fun e w' => e = .returned (.bool (guardR sig g)) ∧ Below w.heap.size w w' := by
 have HG := Lib.hid (show ∀ W, Below w.heap.size w W → RGr W nv sv ov iv g from fun W hb => hG.below hb)
 have HS := Lib.hid (show ∀ W, Below w.heap.size w W → RSl RCt 3 W gv sig from fun W hb => hS.below RCt_keep hb)
 have HSM := Lib.hid hs
 obtain ⟨AN, cN, AS, cS, AO, cO, AI, cI, rfl, rfl, rfl, rfl⟩ := hG.form
 obtain ⟨AG, cG, rfl, _⟩ := hS.form
 obtain ⟨w0, hw0⟩ : ∃ w0, w0 = w.alloc (.cells #[.int .i64 g.roots, .slice AN g.nodes.length cN, .slice AS g.sites.length cS, .int .i64 g.edges, .slice AO g.outer.length cO, .slice AI g.inner.length cI] 31) := ⟨_, rfl⟩
 have hb0 : Below w.heap.size w w0 := by rw [hw0]; exact (Below.refl _ _).alloc (Nat.le_refl _) _
 have bx0 : w0.heap[w.heap.size]? = some (.cells #[.int .i64 g.roots, .slice AN g.nodes.length cN, .slice AS g.sites.length cS, .int .i64 g.edges, .slice AO g.outer.length cO, .slice AI g.inner.length cI] 31) := by rw [hw0]; exact heap_alloc_new _ _
 have hsz0 : w0.heap.size = w.heap.size + 1 := by rw [hw0]; simp
 have HX := Lib.hid (show ∀ W, Below w0.heap.size w0 W → W.heap[w.heap.size]? = some (.cells #[.int .i64 g.roots, .slice AN g.nodes.length cN, .slice AS g.sites.length cS, .int .i64 g.edges, .slice AO g.outer.length cO, .slice AI g.inner.length cI] 31) from fun W hW => (hW.block _ (by omega)).trans bx0)
 have HB0 := Lib.hid hb0
 have HW0 := Lib.hid hw0
 have H1 := Lib.hid (l2Good_any sig g _ _ _ _ _ w0 hs hz (HS.out w0 hb0) (HG.out w0 hb0))
 have x0 := cell_of_row _ _ 0 _ _ _ bx0
 have x1 := cell_of_row _ _ 1 _ _ _ bx0
 have x2 := cell_of_row _ _ 2 _ _ _ bx0
 have x3 := cell_of_row _ _ 3 _ _ _ bx0
 have x4 := cell_of_row _ _ 4 _ _ _ bx0
 have x5 := cell_of_row _ _ 5 _ _ _ bx0
 rw [hw0] at x0 x1 x2 x3 x4 x5
 clear hs hG hb0 bx0 hw0 hS hz
 cases c0 : (goodG sig g)
 ·have HE := Lib.hid (show guardR sig g = false from by rw [guardR_eq, c0]; first | done | rfl)
  rw [c0] at H1
  go_enter Tryz.func87, Tryz.ntmps87
  go_wp2_with fail
  rw [← HW0.out]
  (with_reducible refine H1.out.mono ?_)
  rintro e w1 ⟨rfl, hb⟩
  have HW1 := Lib.hid hb
  have HZ1 := Lib.hid (HB0.out.trans (hb.mono HB0.out.size))
  clear hb x0 x1 x2 x3 x4 x5
  go_wp2_with fail
  go_ret
  exact ⟨by first | rfl | (rw [HE.out]; done) | (rw [HE.out]; rfl), HZ1.out⟩
 ·have HGP := Lib.hid ((good_iff sig g).1 c0)
  cases c1 : (guardB g)
  ·have HE := Lib.hid (show guardR sig g = false from by rw [guardR_eq, c0, c1]; first | done | rfl)
   rw [c0] at H1
   go_enter Tryz.func87, Tryz.ntmps87
   go_wp2_with fail
   rw [← HW0.out]
   (with_reducible refine H1.out.mono ?_)
   rintro e w1 ⟨rfl, hb⟩
   have HW1 := Lib.hid hb
   have HZ1 := Lib.hid (HB0.out.trans (hb.mono HB0.out.size))
   clear hb x0 x1 x2 x3 x4 x5
   have bxr := HX.out w1 HW1.out
   have x0 := cell_of_row _ _ 0 _ _ _ bxr
   have x1 := cell_of_row _ _ 1 _ _ _ bxr
   have x2 := cell_of_row _ _ 2 _ _ _ bxr
   have x3 := cell_of_row _ _ 3 _ _ _ bxr
   have x4 := cell_of_row _ _ 4 _ _ _ bxr
   have x5 := cell_of_row _ _ 5 _ _ _ bxr
   clear bxr
   have HC1 := Lib.hid (l3Guards_any g _ _ _ _ w1 HSM.out (HG.out w1 HZ1.out))
   rw [c1] at HC1
   go_wp2_with fail
   (with_reducible refine HC1.out.mono ?_)
   rintro e w2 ⟨rfl, hb⟩
   have HW2 := Lib.hid (HW1.out.trans (hb.mono HW1.out.size))
   have HZ2 := Lib.hid (HZ1.out.trans (hb.mono HZ1.out.size))
   clear hb x0 x1 x2 x3 x4 x5
   go_wp2_with fail
   go_ret
   exact ⟨by first | rfl | (rw [HE.out]; done) | (rw [HE.out]; rfl), HZ2.out⟩
  ·have HE := Lib.hid (show guardR sig g = true from by rw [guardR_eq, c0, c1]; first | done | rfl)
   rw [c0] at H1
   go_enter Tryz.func87, Tryz.ntmps87
   go_wp2_with fail
   rw [← HW0.out]
   (with_reducible refine H1.out.mono ?_)
   rintro e w1 ⟨rfl, hb⟩
   have HW1 := Lib.hid hb
   have HZ1 := Lib.hid (HB0.out.trans (hb.mono HB0.out.size))
   clear hb x0 x1 x2 x3 x4 x5
   have bxr := HX.out w1 HW1.out
   have x0 := cell_of_row _ _ 0 _ _ _ bxr
   have x1 := cell_of_row _ _ 1 _ _ _ bxr
   have x2 := cell_of_row _ _ 2 _ _ _ bxr
   have x3 := cell_of_row _ _ 3 _ _ _ bxr
   have x4 := cell_of_row _ _ 4 _ _ _ bxr
   have x5 := cell_of_row _ _ 5 _ _ _ bxr
   clear bxr
   have HC1 := Lib.hid (l3Guards_any g _ _ _ _ w1 HSM.out (HG.out w1 HZ1.out))
   rw [c1] at HC1
   go_wp2_with fail
   (with_reducible refine HC1.out.mono ?_)
   rintro e w2 ⟨rfl, hb⟩
   have HW2 := Lib.hid (HW1.out.trans (hb.mono HW1.out.size))
   have HZ2 := Lib.hid (HZ1.out.trans (hb.mono HZ1.out.size))
   clear hb x0 x1 x2 x3 x4 x5
   go_wp2_with fail
   go_ret
   exact ⟨by first | rfl | (rw [HE.out]; done) | (rw [HE.out]; rfl), HZ2.out⟩

set_option maxRecDepth 100000 in
set_option maxHeartbeats 4000000 in
theorem implIsLean_any (sig : List Ct) (g : Gr) (nv sv ov iv gv : Value) (w : World) (hs : SmallG g) (hz : SmallS sig) (hcap : CapOk gv) (hS : RSl RCt 3 w gv sig) (hG : RGr w nv sv ov iv g) :
  Calls Tryz.prog 47 #[gv, .agg #[.int .i64 g.roots, nv, sv, .int .i64 g.edges, ov, iv]] w fun e w' => e = .returned (.bool (leanR sig g)) ∧ Below w.heap.size w w' := by
 have HG := Lib.hid (show ∀ W, Below w.heap.size w W → RGr W nv sv ov iv g from fun W hb => hG.below hb)
 have HS := Lib.hid (show ∀ W, Below w.heap.size w W → RSl RCt 3 W gv sig from fun W hb => hS.below RCt_keep hb)
 have HSM := Lib.hid hs
 obtain ⟨AN, cN, AS, cS, AO, cO, AI, cI, rfl, rfl, rfl, rfl⟩ := hG.form
 obtain ⟨AG, cG, rfl, _⟩ := hS.form
 obtain ⟨w0, hw0⟩ : ∃ w0, w0 = w.alloc (.cells #[.int .i64 g.roots, .slice AN g.nodes.length cN, .slice AS g.sites.length cS, .int .i64 g.edges, .slice AO g.outer.length cO, .slice AI g.inner.length cI] 31) := ⟨_, rfl⟩
 have hb0 : Below w.heap.size w w0 := by rw [hw0]; exact (Below.refl _ _).alloc (Nat.le_refl _) _
 have bx0 : w0.heap[w.heap.size]? = some (.cells #[.int .i64 g.roots, .slice AN g.nodes.length cN, .slice AS g.sites.length cS, .int .i64 g.edges, .slice AO g.outer.length cO, .slice AI g.inner.length cI] 31) := by rw [hw0]; exact heap_alloc_new _ _
 have hsz0 : w0.heap.size = w.heap.size + 1 := by rw [hw0]; simp
 have HX := Lib.hid (show ∀ W, Below w0.heap.size w0 W → W.heap[w.heap.size]? = some (.cells #[.int .i64 g.roots, .slice AN g.nodes.length cN, .slice AS g.sites.length cS, .int .i64 g.edges, .slice AO g.outer.length cO, .slice AI g.inner.length cI] 31) from fun W hW => (hW.block _ (by omega)).trans bx0)
 have HB0 := Lib.hid hb0
 have HW0 := Lib.hid hw0
 have H1 := Lib.hid (isBigraph_any sig g _ _ _ _ _ w0 hs hz hcap (HS.out w0 hb0) (HG.out w0 hb0))
 have hed := hs.edges
 have HPT := Lib.hid (show leanB g = allR g.edges.toNat (fun l => !idleB g (l : Int)) from rfl)
 have x0 := cell_of_row _ _ 0 _ _ _ bx0
 have x1 := cell_of_row _ _ 1 _ _ _ bx0
 have x2 := cell_of_row _ _ 2 _ _ _ bx0
 have x3 := cell_of_row _ _ 3 _ _ _ bx0
 have x4 := cell_of_row _ _ 4 _ _ _ bx0
 have x5 := cell_of_row _ _ 5 _ _ _ bx0
 rw [hw0] at x0 x1 x2 x3 x4 x5
 clear hs hG hb0 bx0 hw0 hS hz hcap
 cases c0 : goodG sig g
 ·have HE := Lib.hid (show leanR sig g = false from by rw [leanR_eq, c0]; rfl)
  rw [c0] at H1
  go_enter Tryz.func47, Tryz.ntmps47
  go_wp2_with fail
  rw [← HW0.out]
  (with_reducible refine H1.out.mono ?_)
  rintro e w1 ⟨rfl, hb⟩
  have HZ1 := Lib.hid (HB0.out.trans (hb.mono HB0.out.size))
  clear hb x0 x1 x2 x3 x4 x5
  go_wp2_with fail
  go_ret
  exact ⟨by first | rfl | (rw [HE.out]; done) | (rw [HE.out]; rfl), HZ1.out⟩
 ·have HLE := Lib.hid (show leanR sig g = leanB g from by rw [leanR_eq, c0]; rfl)
  rw [c0] at H1
  clear c0
  go_enter Tryz.func47, Tryz.ntmps47
  go_wp2_with fail
  rw [← HW0.out]
  (with_reducible refine H1.out.mono ?_)
  rintro e w1 ⟨rfl, hb⟩
  have HW1 := Lib.hid hb
  clear x0 x1 x2 x3 x4 x5
  have bxr := HX.out w1 hb
  have x0 := cell_of_row _ _ 0 _ _ _ bxr
  have x1 := cell_of_row _ _ 1 _ _ _ bxr
  have x2 := cell_of_row _ _ 2 _ _ _ bxr
  have x3 := cell_of_row _ _ 3 _ _ _ bxr
  have x4 := cell_of_row _ _ 4 _ _ _ bxr
  have x5 := cell_of_row _ _ 5 _ _ _ bxr
  clear bxr hb
  go_wp2_with fail
  clear x0 x1 x2 x3 x4 x5
  go_loopw [12] (fun i wr => ∃ k : Nat, k ≤ g.edges.toNat ∧ i = .int .i64 k ∧ (∀ j, j < k → (!idleB g (j : Int)) = true) ∧ Below w0.heap.size w0 wr)
   (fun i _ => g.edges.toNat - (intOf i).toNat)
  case atStart => exact ⟨0, Nat.zero_le _, rfl, fun j hj => by omega, HW1.out⟩
  case round =>
   obtain ⟨k, hk, rfl, hall, hbel⟩ := hrel
   have HALL := Lib.hid hall
   have HBE := Lib.hid hbel
   have HZ := Lib.hid (HB0.out.trans (hbel.mono HB0.out.size))
   have bxr := HX.out wr hbel
   clear hall hbel
   have x0 := cell_of_row _ _ 0 _ _ _ bxr
   have x1 := cell_of_row _ _ 1 _ _ _ bxr
   have x2 := cell_of_row _ _ 2 _ _ _ bxr
   have x3 := cell_of_row _ _ 3 _ _ _ bxr
   have x4 := cell_of_row _ _ 4 _ _ _ bxr
   have x5 := cell_of_row _ _ 5 _ _ _ bxr
   by_cases hlt : (k : Int) < g.edges
   ·have HC := Lib.hid (isIdle_any g _ _ _ _ (k : Int) wr HSM.out (HG.out wr HZ.out))
    have HF := Lib.hid (show idleB g (k : Int) = true → leanB g = false from fun h => by rw [HPT.out]; exact allR_false (show k < g.edges.toNat by omega) (by rw [h]; rfl))
    have HN := Lib.hid (show idleB g (k : Int) = false → ∀ j, j < k + 1 → (!idleB g (j : Int)) = true from fun h j hj => by
     rcases Nat.lt_succ_iff_lt_or_eq.1 hj with h' | h'
     ·exact HALL.out j h'
     ·rw [h', h]; rfl)
    clear bxr
    cases hm : idleB g (k : Int)
    ·rw [hm] at HC
     have HNN := Lib.hid (HN.out hm)
     clear hm
     go_wp2_with fail
     (with_reducible refine HC.out.mono ?_)
     rintro e w1 ⟨rfl, hb1⟩
     have HB1 := Lib.hid (HBE.out.trans (hb1.mono HBE.out.size))
     clear hb1 x0 x1 x2 x3 x4 x5
     go_wp2_with fail
     go_roundw
     case rel => exact ⟨k + 1, by omega, by go_num, HNN.out, HB1.out⟩
     case measure => simp [intOf]; omega
    ·rw [hm] at HC
     have HFF := Lib.hid (HF.out hm)
     clear hm
     go_wp2_with fail
     (with_reducible refine HC.out.mono ?_)
     rintro e w1 ⟨rfl, hb1⟩
     have HZ1 := Lib.hid (HZ.out.trans (hb1.mono HZ.out.size))
     clear hb1 x0 x1 x2 x3 x4 x5
     go_wp2_with fail
     go_ret
     exact ⟨by rw [HLE.out, HFF.out]; rfl, HZ1.out⟩
   ·have HE := Lib.hid (show leanB g = true from by rw [HPT.out]; exact allR_true (fun j hj => HALL.out j (by omega)))
    clear bxr
    go_wp2_with fail
    go_ret
    exact ⟨by rw [HLE.out, HE.out]; rfl, HZ.out⟩

theorem isGuard1_any (x : Int) (w : World) : Calls Tryz.prog 128 (#[.int .i64 x] ++ #[]) w fun e w' => e = .returned (.bool (!decide (0 ≤ x))) ∧ Below w.heap.size w w' := by
 by_cases h : x < 0
 ·have HE := Lib.hid (show (!decide (0 ≤ x)) = true from by rw [decide_eq_false (by omega)]; rfl)
  go_enter Tryz.func128, Tryz.ntmps128
  go_wp2_with fail
  go_ret
  exact ⟨by first | rfl | (rw [HE.out]; done) | (rw [HE.out]; rfl), Below.refl _ _⟩
 ·have HE := Lib.hid (show (!decide (0 ≤ x)) = false from by rw [decide_eq_true (by omega)]; rfl)
  go_enter Tryz.func128, Tryz.ntmps128
  go_wp2_with fail
  go_ret
  exact ⟨by first | rfl | (rw [HE.out]; done) | (rw [HE.out]; rfl), Below.refl _ _⟩

theorem isGuard2_any (x : Wi) (e3 : Int) (pb : Nat) (w : World) (hc : w.cell? ⟨pb, 3, none⟩ = some (.int .i64 e3)) : Calls Tryz.prog 130 (#[.agg #[.string x.1, .int .i64 x.2]] ++ #[.pointer (some ⟨pb, 0, none⟩)]) w fun e w' => e = .returned (.bool (!decide (x.2 < e3))) ∧ Below w.heap.size w w' := by
 have hb0 : Below w.heap.size w (w.alloc (.cells #[.string x.1, .int .i64 x.2] 90)) := (Below.refl _ _).alloc (Nat.le_refl _) _
 have hc2 := cell_below hb0 hc (lt_of_cell hc)
 have HB := Lib.hid hb0
 have y0 := cell_of_row _ _ 0 _ _ _ (heap_alloc_new w (.cells #[.string x.1, .int .i64 x.2] 90))
 have y1 := cell_of_row _ _ 1 _ _ _ (heap_alloc_new w (.cells #[.string x.1, .int .i64 x.2] 90))
 clear hb0
 by_cases h : x.2 < e3
 ·have HE := Lib.hid (show (!decide (x.2 < e3)) = false from by rw [decide_eq_true h]; rfl)
  have h2 : ¬ e3 ≤ x.2 := by omega
  go_enter Tryz.func130, Tryz.ntmps130
  go_wp2_with fail
  go_ret
  exact ⟨by first | rfl | (rw [HE.out]; done) | (rw [HE.out]; rfl), HB.out⟩
 ·have HE := Lib.hid (show (!decide (x.2 < e3)) = true from by rw [decide_eq_false h]; rfl)
  have h2 : e3 ≤ x.2 := by omega
  go_enter Tryz.func130, Tryz.ntmps130
  go_wp2_with fail
  go_ret
  exact ⟨by first | rfl | (rw [HE.out]; done) | (rw [HE.out]; rfl), HB.out⟩

set_option maxRecDepth 100000 in
set_option maxHeartbeats 4000000 in
theorem implIsGuarding_any (sig : List Ct) (g : Gr) (nv sv ov iv gv : Value) (w : World) (hs : SmallG g) (hz : SmallS sig) (hcap : CapOk gv) (hS : RSl RCt 3 w gv sig) (hG : RGr w nv sv ov iv g) :
  Calls Tryz.prog 49 #[gv, .agg #[.int .i64 g.roots, nv, sv, .int .i64 g.edges, ov, iv]] w fun e w' => e = .returned (.bool (guardR sig g)) ∧ Below w.heap.size w w' := by
 have HG := Lib.hid (show ∀ W, Below w.heap.size w W → RGr W nv sv ov iv g from fun W hb => hG.below hb)
 have HS := Lib.hid (show ∀ W, Below w.heap.size w W → RSl RCt 3 W gv sig from fun W hb => hS.below RCt_keep hb)
 have HSM := Lib.hid hs
 obtain ⟨AN, cN, AS, cS, AO, cO, AI, cI, rfl, rfl, rfl, rfl⟩ := hG.form
 obtain ⟨AG, cG, rfl, _⟩ := hS.form
 obtain ⟨w0, hw0⟩ : ∃ w0, w0 = w.alloc (.cells #[.int .i64 g.roots, .slice AN g.nodes.length cN, .slice AS g.sites.length cS, .int .i64 g.edges, .slice AO g.outer.length cO, .slice AI g.inner.length cI] 31) := ⟨_, rfl⟩
 have hb0 : Below w.heap.size w w0 := by rw [hw0]; exact (Below.refl _ _).alloc (Nat.le_refl _) _
 have bx0 : w0.heap[w.heap.size]? = some (.cells #[.int .i64 g.roots, .slice AN g.nodes.length cN, .slice AS g.sites.length cS, .int .i64 g.edges, .slice AO g.outer.length cO, .slice AI g.inner.length cI] 31) := by rw [hw0]; exact heap_alloc_new _ _
 have hsz0 : w0.heap.size = w.heap.size + 1 := by rw [hw0]; simp
 have HX := Lib.hid (show ∀ W, Below w0.heap.size w0 W → W.heap[w.heap.size]? = some (.cells #[.int .i64 g.roots, .slice AN g.nodes.length cN, .slice AS g.sites.length cS, .int .i64 g.edges, .slice AO g.outer.length cO, .slice AI g.inner.length cI] 31) from fun W hW => (hW.block _ (by omega)).trans bx0)
 have HB0 := Lib.hid hb0
 have HW0 := Lib.hid hw0
 have H1 := Lib.hid (isBigraph_any sig g _ _ _ _ _ w0 hs hz hcap (HS.out w0 hb0) (HG.out w0 hb0))
 have x0 := cell_of_row _ _ 0 _ _ _ bx0
 have x1 := cell_of_row _ _ 1 _ _ _ bx0
 have x2 := cell_of_row _ _ 2 _ _ _ bx0
 have x3 := cell_of_row _ _ 3 _ _ _ bx0
 have x4 := cell_of_row _ _ 4 _ _ _ bx0
 have x5 := cell_of_row _ _ 5 _ _ _ bx0
 rw [hw0] at x0 x1 x2 x3 x4 x5
 clear hs hG hb0 bx0 hw0 hS hz hcap
 cases c0 : (goodG sig g)
 ·have HE := Lib.hid (show guardR sig g = false from by rw [guardR_alt, c0]; first | done | rfl)
  rw [c0] at H1
  go_enter Tryz.func49, Tryz.ntmps49
  go_wp2_with fail
  rw [← HW0.out]
  (with_reducible refine H1.out.mono ?_)
  rintro e w1 ⟨rfl, hb⟩
  have HW1 := Lib.hid hb
  have HZ1 := Lib.hid (HB0.out.trans (hb.mono HB0.out.size))
  clear hb x0 x1 x2 x3 x4 x5
  go_wp2_with fail
  go_ret
  exact ⟨by first | rfl | (rw [HE.out]; done) | (rw [HE.out]; rfl), HZ1.out⟩
 ·have HGP := Lib.hid ((good_iff sig g).1 c0)
  cases c1 : (anyR g.sites.length fun k => !decide (0 ≤ g.sites.getD k 0))
  ·cases c2 : (anyR g.inner.length fun k => !decide ((wiA g k).2 < g.edges))
   ·have HE := Lib.hid (show guardR sig g = true from by rw [guardR_alt, c0, c1, c2]; first | done | rfl)
    rw [c0] at H1
    go_enter Tryz.func49, Tryz.ntmps49
    go_wp2_with fail
    rw [← HW0.out]
    (with_reducible refine H1.out.mono ?_)
    rintro e w1 ⟨rfl, hb⟩
    have HW1 := Lib.hid hb
    have HZ1 := Lib.hid (HB0.out.trans (hb.mono HB0.out.size))
    clear hb x0 x1 x2 x3 x4 x5
    have bxr := HX.out w1 HW1.out
    have x0 := cell_of_row _ _ 0 _ _ _ bxr
    have x1 := cell_of_row _ _ 1 _ _ _ bxr
    have x2 := cell_of_row _ _ 2 _ _ _ bxr
    have x3 := cell_of_row _ _ 3 _ _ _ bxr
    have x4 := cell_of_row _ _ 4 _ _ _ bxr
    have x5 := cell_of_row _ _ 5 _ _ _ bxr
    clear bxr
    have HC1 := Lib.hid (show Calls Tryz.prog 127 #[.slice AS g.sites.length cS, .func (.func 128) #[] #[]] w1 _ from containsFuncGI_any AS cS g.sites 128 #[] (fun k => !decide (0 ≤ g.sites.getD k 0)) w1 (Nat.le_trans HSM.out.sites (by decide)) (by obtain ⟨A', c', e, hc⟩ := (HG.out w1 HZ1.out).s; cases e; exact hc) (enter_of Tryz.func128 (by kernel_rfl) (by kernel_rfl)) (fun k x W hk hb => by have hx : g.sites.getD k 0 = x := getD_some hk; rw [hx]; exact isGuard1_any x W))
    rw [c1] at HC1
    go_wp2_with fail
    (with_reducible refine HC1.out.mono ?_)
    rintro e w2 ⟨rfl, hb⟩
    have HW2 := Lib.hid (HW1.out.trans (hb.mono HW1.out.size))
    have HZ2 := Lib.hid (HZ1.out.trans (hb.mono HZ1.out.size))
    clear hb x0 x1 x2 x3 x4 x5
    have bxr := HX.out w2 HW2.out
    have x0 := cell_of_row _ _ 0 _ _ _ bxr
    have x1 := cell_of_row _ _ 1 _ _ _ bxr
    have x2 := cell_of_row _ _ 2 _ _ _ bxr
    have x3 := cell_of_row _ _ 3 _ _ _ bxr
    have x4 := cell_of_row _ _ 4 _ _ _ bxr
    have x5 := cell_of_row _ _ 5 _ _ _ bxr
    clear bxr
    have HC2 := Lib.hid (show Calls Tryz.prog 129 #[.slice AI g.inner.length cI, .func (.func 130) #[] #[.pointer (some ⟨w.heap.size, 0, none⟩)]] w2 _ from containsFuncGW_any (.slice AI g.inner.length cI) g.inner 130 #[.pointer (some ⟨w.heap.size, 0, none⟩)] (fun k => !decide ((wiA g k).2 < g.edges)) w2 (Nat.le_trans HSM.out.inner (by decide)) (HG.out w2 HZ2.out).i (enter_of Tryz.func130 (by kernel_rfl) (by kernel_rfl)) (fun k x W hk hb => by have hx : wiA g k = x := getD_some hk; rw [hx]; exact isGuard2_any x g.edges _ W (cell_of_row _ _ 3 _ _ _ (HX.out W (HW2.out.trans (hb.mono HW2.out.size))))))
    rw [c2] at HC2
    go_wp2_with fail
    (with_reducible refine HC2.out.mono ?_)
    rintro e w3 ⟨rfl, hb⟩
    have HW3 := Lib.hid (HW2.out.trans (hb.mono HW2.out.size))
    have HZ3 := Lib.hid (HZ2.out.trans (hb.mono HZ2.out.size))
    clear hb x0 x1 x2 x3 x4 x5
    go_wp2_with fail
    go_ret
    exact ⟨by first | rfl | (rw [HE.out]; done) | (rw [HE.out]; rfl), HZ3.out⟩
   ·have HE := Lib.hid (show guardR sig g = false from by rw [guardR_alt, c0, c1, c2]; first | done | rfl)
    rw [c0] at H1
    go_enter Tryz.func49, Tryz.ntmps49
    go_wp2_with fail
    rw [← HW0.out]
    (with_reducible refine H1.out.mono ?_)
    rintro e w1 ⟨rfl, hb⟩
    have HW1 := Lib.hid hb
    have HZ1 := Lib.hid (HB0.out.trans (hb.mono HB0.out.size))
    clear hb x0 x1 x2 x3 x4 x5
    have bxr := HX.out w1 HW1.out
    have x0 := cell_of_row _ _ 0 _ _ _ bxr
    have x1 := cell_of_row _ _ 1 _ _ _ bxr
    have x2 := cell_of_row _ _ 2 _ _ _ bxr
    have x3 := cell_of_row _ _ 3 _ _ _ bxr
    have x4 := cell_of_row _ _ 4 _ _ _ bxr
    have x5 := cell_of_row _ _ 5 _ _ _ bxr
    clear bxr
    have HC1 := Lib.hid (show Calls Tryz.prog 127 #[.slice AS g.sites.length cS, .func (.func 128) #[] #[]] w1 _ from containsFuncGI_any AS cS g.sites 128 #[] (fun k => !decide (0 ≤ g.sites.getD k 0)) w1 (Nat.le_trans HSM.out.sites (by decide)) (by obtain ⟨A', c', e, hc⟩ := (HG.out w1 HZ1.out).s; cases e; exact hc) (enter_of Tryz.func128 (by kernel_rfl) (by kernel_rfl)) (fun k x W hk hb => by have hx : g.sites.getD k 0 = x := getD_some hk; rw [hx]; exact isGuard1_any x W))
    rw [c1] at HC1
    go_wp2_with fail
    (with_reducible refine HC1.out.mono ?_)
    rintro e w2 ⟨rfl, hb⟩
    have HW2 := Lib.hid (HW1.out.trans (hb.mono HW1.out.size))
    have HZ2 := Lib.hid (HZ1.out.trans (hb.mono HZ1.out.size))
    clear hb x0 x1 x2 x3 x4 x5
    have bxr := HX.out w2 HW2.out
    have x0 := cell_of_row _ _ 0 _ _ _ bxr
    have x1 := cell_of_row _ _ 1 _ _ _ bxr
    have x2 := cell_of_row _ _ 2 _ _ _ bxr
    have x3 := cell_of_row _ _ 3 _ _ _ bxr
    have x4 := cell_of_row _ _ 4 _ _ _ bxr
    have x5 := cell_of_row _ _ 5 _ _ _ bxr
    clear bxr
    have HC2 := Lib.hid (show Calls Tryz.prog 129 #[.slice AI g.inner.length cI, .func (.func 130) #[] #[.pointer (some ⟨w.heap.size, 0, none⟩)]] w2 _ from containsFuncGW_any (.slice AI g.inner.length cI) g.inner 130 #[.pointer (some ⟨w.heap.size, 0, none⟩)] (fun k => !decide ((wiA g k).2 < g.edges)) w2 (Nat.le_trans HSM.out.inner (by decide)) (HG.out w2 HZ2.out).i (enter_of Tryz.func130 (by kernel_rfl) (by kernel_rfl)) (fun k x W hk hb => by have hx : wiA g k = x := getD_some hk; rw [hx]; exact isGuard2_any x g.edges _ W (cell_of_row _ _ 3 _ _ _ (HX.out W (HW2.out.trans (hb.mono HW2.out.size))))))
    rw [c2] at HC2
    go_wp2_with fail
    (with_reducible refine HC2.out.mono ?_)
    rintro e w3 ⟨rfl, hb⟩
    have HW3 := Lib.hid (HW2.out.trans (hb.mono HW2.out.size))
    have HZ3 := Lib.hid (HZ2.out.trans (hb.mono HZ2.out.size))
    clear hb x0 x1 x2 x3 x4 x5
    go_wp2_with fail
    go_ret
    exact ⟨by first | rfl | (rw [HE.out]; done) | (rw [HE.out]; rfl), HZ3.out⟩
  ·have HE := Lib.hid (show guardR sig g = false from by rw [guardR_alt, c0, c1]; first | done | rfl)
   rw [c0] at H1
   go_enter Tryz.func49, Tryz.ntmps49
   go_wp2_with fail
   rw [← HW0.out]
   (with_reducible refine H1.out.mono ?_)
   rintro e w1 ⟨rfl, hb⟩
   have HW1 := Lib.hid hb
   have HZ1 := Lib.hid (HB0.out.trans (hb.mono HB0.out.size))
   clear hb x0 x1 x2 x3 x4 x5
   have bxr := HX.out w1 HW1.out
   have x0 := cell_of_row _ _ 0 _ _ _ bxr
   have x1 := cell_of_row _ _ 1 _ _ _ bxr
   have x2 := cell_of_row _ _ 2 _ _ _ bxr
   have x3 := cell_of_row _ _ 3 _ _ _ bxr
   have x4 := cell_of_row _ _ 4 _ _ _ bxr
   have x5 := cell_of_row _ _ 5 _ _ _ bxr
   clear bxr
   have HC1 := Lib.hid (show Calls Tryz.prog 127 #[.slice AS g.sites.length cS, .func (.func 128) #[] #[]] w1 _ from containsFuncGI_any AS cS g.sites 128 #[] (fun k => !decide (0 ≤ g.sites.getD k 0)) w1 (Nat.le_trans HSM.out.sites (by decide)) (by obtain ⟨A', c', e, hc⟩ := (HG.out w1 HZ1.out).s; cases e; exact hc) (enter_of Tryz.func128 (by kernel_rfl) (by kernel_rfl)) (fun k x W hk hb => by have hx : g.sites.getD k 0 = x := getD_some hk; rw [hx]; exact isGuard1_any x W))
   rw [c1] at HC1
   go_wp2_with fail
   (with_reducible refine HC1.out.mono ?_)
   rintro e w2 ⟨rfl, hb⟩
   have HW2 := Lib.hid (HW1.out.trans (hb.mono HW1.out.size))
   have HZ2 := Lib.hid (HZ1.out.trans (hb.mono HZ1.out.size))
   clear hb x0 x1 x2 x3 x4 x5
   go_wp2_with fail
   go_ret
   exact ⟨by first | rfl | (rw [HE.out]; done) | (rw [HE.out]; rfl), HZ2.out⟩

set_option maxRecDepth 100000 in
set_option maxHeartbeats 4000000 in
theorem implIsIdentity_any (sig : List Ct) (g : Gr) (nv sv ov iv gv : Value) (w : World) (hs : SmallG g) (hz : SmallS sig) (hcap : CapOk gv) (hS : RSl RCt 3 w gv sig) (hG : RGr w nv sv ov iv g) :
  Calls Tryz.prog 27 #[gv, .agg #[.int .i64 g.roots, nv, sv, .int .i64 g.edges, ov, iv]] w fun e w' => e = .returned (.bool (identR sig g)) ∧ Below w.heap.size w w' := by
 have HG := Lib.hid (show ∀ W, Below w.heap.size w W → RGr W nv sv ov iv g from fun W hb => hG.below hb)
 have HS := Lib.hid (show ∀ W, Below w.heap.size w W → RSl RCt 3 W gv sig from fun W hb => hS.below RCt_keep hb)
 have HSM := Lib.hid hs
 obtain ⟨AN, cN, AS, cS, AO, cO, AI, cI, rfl, rfl, rfl, rfl⟩ := hG.form
 obtain ⟨AG, cG, rfl, _⟩ := hS.form
 obtain ⟨w0, hw0⟩ : ∃ w0, w0 = w.alloc (.cells #[.int .i64 g.roots, .slice AN g.nodes.length cN, .slice AS g.sites.length cS, .int .i64 g.edges, .slice AO g.outer.length cO, .slice AI g.inner.length cI] 31) := ⟨_, rfl⟩
 have hb0 : Below w.heap.size w w0 := by rw [hw0]; exact (Below.refl _ _).alloc (Nat.le_refl _) _
 have bx0 : w0.heap[w.heap.size]? = some (.cells #[.int .i64 g.roots, .slice AN g.nodes.length cN, .slice AS g.sites.length cS, .int .i64 g.edges, .slice AO g.outer.length cO, .slice AI g.inner.length cI] 31) := by rw [hw0]; exact heap_alloc_new _ _
 have hsz0 : w0.heap.size = w.heap.size + 1 := by rw [hw0]; simp
 have HX := Lib.hid (show ∀ W, Below w0.heap.size w0 W → W.heap[w.heap.size]? = some (.cells #[.int .i64 g.roots, .slice AN g.nodes.length cN, .slice AS g.sites.length cS, .int .i64 g.edges, .slice AO g.outer.length cO, .slice AI g.inner.length cI] 31) from fun W hW => (hW.block _ (by omega)).trans bx0)
 have HB0 := Lib.hid hb0
 have HW0 := Lib.hid hw0
 have HGC := Lib.hid (show ∀ W, Below w.heap.size w W → Calls Tryz.prog 59 #[.slice AG sig.length cG, .agg #[.int .i64 g.roots, .slice AN g.nodes.length cN, .slice AS g.sites.length cS, .int .i64 g.edges, .slice AO g.outer.length cO, .slice AI g.inner.length cI]] W _ from fun W hb => isBigraph_any sig g _ _ _ _ _ W hs hz hcap (HS.out W hb) (HG.out W hb))
 have HID := Lib.hid (show goodG sig g = true → ∀ W, Below w.heap.size w W → Calls Tryz.prog 92 #[.int .i64 g.roots, .slice AO g.outer.length cO] W fun e w' => ∃ X : BX, e = .returned (.agg X.cells) ∧ X.g = idN g ∧ RG W w' X from fun hg W hb => by
  have hr := ((good_iff sig g).1 hg).r
  have h := identity_any g.roots.toNat AO cO g.outer W (by omega) hs.outer (by obtain ⟨A', c', e, hc⟩ := (HG.out W hb).o; cases e; exact hc)
  rw [show ((g.roots.toNat : Nat) : Int) = g.roots by omega] at h
  exact h)
 have x0 := cell_of_row _ _ 0 _ _ _ bx0
 have x1 := cell_of_row _ _ 1 _ _ _ bx0
 have x2 := cell_of_row _ _ 2 _ _ _ bx0
 have x3 := cell_of_row _ _ 3 _ _ _ bx0
 have x4 := cell_of_row _ _ 4 _ _ _ bx0
 have x5 := cell_of_row _ _ 5 _ _ _ bx0
 rw [hw0] at x0 x1 x2 x3 x4 x5
 clear hs hG hb0 bx0 hw0 hS hz hcap x0 x1 x2 x3 x4 x5
 cases c0 : goodG sig g
 ·have HC0 := Lib.hid c0
  have HPB := Lib.hid (show identR sig g = false from by rw [identR_eq, c0]; rfl)
  clear c0
  go_enter Tryz.func27, Tryz.ntmps27
  go_wp2_with fail
  rw [← HW0.out]
  refine wp_region_vals (by kernel_rfl) [some 5, some 6, some 7, some 8, some 9, some 10, some 11, some 12, some 13, some 14, some 15, some 16, some 4] (fun q v W => match q with | 0 => v = .slice AG sig.length cG | 1 => v = .agg #[.int .i64 g.roots, .slice AN g.nodes.length cN, .slice AS g.sites.length cS, .int .i64 g.edges, .slice AO g.outer.length cO, .slice AI g.inner.length cI] | 2 => v = .bool false | 3 => v = .bool false | 4 => v = undef | 5 => v = undef | 6 => v = undef | 7 => v = undef | 8 => v = undef | 9 => v = undef | 10 => v = undef | 11 => v = .bool (identR sig g) | 12 => v = .bool (identR sig g) | _ => True) (by kernel_rfl) (by kernel_rfl) ?mono ?step ?fin
  case mono =>
   intro q v W W' hb h
   match q, h with
   | 0, h => exact h
   | 1, h => exact h
   | 2, h => exact h
   | 3, h => exact h
   | 4, h => exact h
   | 5, h => exact h
   | 6, h => exact h
   | 7, h => exact h
   | 8, h => exact h
   | 9, h => exact h
   | 10, h => exact h
   | 11, h => exact h
   | 12, h => exact h
   | q + 13, _ => trivial
  case step =>
   intro L act W q oo hJ ho hd K3 hK3
   match q, ho with
   | 0, ho =>
    simp only [List.getElem?_toArray, List.getElem?_cons_zero, List.getElem?_cons_succ, Option.some.injEq] at ho
    subst ho
    have hbW := hJ.bel
    have a0 : act.tmps[0]? = some (.slice AG sig.length cG) := hJ.out 0 (by decide)
    clear hJ hd
    go_simp
    exact hK3 _ _ (Below.refl _ _) rfl
   | 1, ho =>
    simp only [List.getElem?_toArray, List.getElem?_cons_zero, List.getElem?_cons_succ, Option.some.injEq] at ho
    subst ho
    have hbW := hJ.bel
    have a3 : act.tmps[3]? = some (.pointer (some ⟨w.heap.size, 0, none⟩)) := hJ.out 3 (by decide)
    clear hJ hd
    have bxW := HX.out W hbW
    have x0 := cell_of_row _ _ 0 _ _ _ bxW
    have x1 := cell_of_row _ _ 1 _ _ _ bxW
    have x2 := cell_of_row _ _ 2 _ _ _ bxW
    have x3 := cell_of_row _ _ 3 _ _ _ bxW
    have x4 := cell_of_row _ _ 4 _ _ _ bxW
    have x5 := cell_of_row _ _ 5 _ _ _ bxW
    clear bxW
    go_simp
    exact hK3 _ _ (Below.refl _ _) rfl
   | 2, ho =>
    simp only [List.getElem?_toArray, List.getElem?_cons_zero, List.getElem?_cons_succ, Option.some.injEq] at ho
    subst ho
    simp [Region.binds] at hd
    have hbW := hJ.bel
    have l0 : L 0 = true := by simp [hd]
    have v0 : act.tmps[5]? = some (.slice AG sig.length cG) := hJ.val l0 rfl (fun u h => h)
    have l1 : L 1 = true := by simp [hd]
    have v1 : act.tmps[6]? = some (.agg #[.int .i64 g.roots, .slice AN g.nodes.length cN, .slice AS g.sites.length cS, .int .i64 g.edges, .slice AO g.outer.length cO, .slice AI g.inner.length cI]) := hJ.val l1 rfl (fun u h => h)
    clear hJ hd
    have HBW := Lib.hid hbW
    clear hbW
    go_simp
    go_at_call 59
    refine (HGC.out W (HB0.out.trans (HBW.out.mono HB0.out.size))).mono ?_
    rintro e W' ⟨rfl, hb⟩
    go_simp
    exact hK3 _ _ hb (by rw [HC0.out]; first | done | rfl)
   | 3, ho =>
    simp only [List.getElem?_toArray, List.getElem?_cons_zero, List.getElem?_cons_succ, Option.some.injEq] at ho
    subst ho
    simp [Region.binds] at hd
    have hbW := hJ.bel
    have l2 : L 2 = true := by simp [hd]
    have v2 : act.tmps[7]? = some (.bool false) := hJ.val l2 rfl (fun u h => h)
    clear hJ hd
    go_simp
    exact hK3 _ _ (Below.refl _ _) rfl
   | 4, ho =>
    simp only [List.getElem?_toArray, List.getElem?_cons_zero, List.getElem?_cons_succ, Option.some.injEq] at ho
    subst ho
    simp [Region.binds] at hd
    have hbW := hJ.bel
    have l3 : L 3 = true := by simp [hd]
    have v3 : act.tmps[8]? = some (.bool false) := hJ.val l3 rfl (fun u h => h)
    clear hJ hd
    go_simp
    exact hK3 _ _ (Below.refl _ _) rfl
   | 5, ho =>
    simp only [List.getElem?_toArray, List.getElem?_cons_zero, List.getElem?_cons_succ, Option.some.injEq] at ho
    subst ho
    simp [Region.binds] at hd
    have hbW := hJ.bel
    have l3 : L 3 = true := by simp [hd]
    have v3 : act.tmps[8]? = some (.bool false) := hJ.val l3 rfl (fun u h => h)
    clear hJ hd
    go_simp
    exact hK3 _ _ (Below.refl _ _) rfl
   | 6, ho =>
    simp only [List.getElem?_toArray, List.getElem?_cons_zero, List.getElem?_cons_succ, Option.some.injEq] at ho
    subst ho
    simp [Region.binds] at hd
    have hbW := hJ.bel
    have l3 : L 3 = true := by simp [hd]
    have v3 : act.tmps[8]? = some (.bool false) := hJ.val l3 rfl (fun u h => h)
    clear hJ hd
    go_simp
    exact hK3 _ _ (Below.refl _ _) rfl
   | 7, ho =>
    simp only [List.getElem?_toArray, List.getElem?_cons_zero, List.getElem?_cons_succ, Option.some.injEq] at ho
    subst ho
    simp [Region.binds] at hd
    have hbW := hJ.bel
    have l3 : L 3 = true := by simp [hd]
    have v3 : act.tmps[8]? = some (.bool false) := hJ.val l3 rfl (fun u h => h)
    clear hJ hd
    go_simp
    exact hK3 _ _ (Below.refl _ _) rfl
   | 8, ho =>
    simp only [List.getElem?_toArray, List.getElem?_cons_zero, List.getElem?_cons_succ, Option.some.injEq] at ho
    subst ho
    simp [Region.binds] at hd
    have hbW := hJ.bel
    have l3 : L 3 = true := by simp [hd]
    have v3 : act.tmps[8]? = some (.bool false) := hJ.val l3 rfl (fun u h => h)
    clear hJ hd
    go_simp
    exact hK3 _ _ (Below.refl _ _) rfl
   | 9, ho =>
    simp only [List.getElem?_toArray, List.getElem?_cons_zero, List.getElem?_cons_succ, Option.some.injEq] at ho
    subst ho
    simp [Region.binds] at hd
    have hbW := hJ.bel
    have l3 : L 3 = true := by simp [hd]
    have v3 : act.tmps[8]? = some (.bool false) := hJ.val l3 rfl (fun u h => h)
    clear hJ hd
    go_simp
    exact hK3 _ _ (Below.refl _ _) rfl
   | 10, ho =>
    simp only [List.getElem?_toArray, List.getElem?_cons_zero, List.getElem?_cons_succ, Option.some.injEq] at ho
    subst ho
    simp [Region.binds] at hd
    have hbW := hJ.bel
    have l3 : L 3 = true := by simp [hd]
    have v3 : act.tmps[8]? = some (.bool false) := hJ.val l3 rfl (fun u h => h)
    clear hJ hd
    go_simp
    exact hK3 _ _ (Below.refl _ _) rfl
   | 11, ho =>
    simp only [List.getElem?_toArray, List.getElem?_cons_zero, List.getElem?_cons_succ, Option.some.injEq] at ho
    subst ho
    simp [Region.binds] at hd
    have hbW := hJ.bel
    have l3 : L 3 = true := by simp [hd]
    have v3 : act.tmps[8]? = some (.bool false) := hJ.val l3 rfl (fun u h => h)
    have l10 : L 10 = true := by simp [hd]
    have v10 : act.tmps[15]? = some (undef) := hJ.val l10 rfl (fun u h => h)
    clear hJ hd
    go_simp
    exact hK3 _ _ (Below.refl _ _) (by rw [HPB.out]; first | done | rfl)
   | 12, ho =>
    simp only [List.getElem?_toArray, List.getElem?_cons_zero, List.getElem?_cons_succ, Option.some.injEq] at ho
    subst ho
    simp [Region.binds] at hd
    have hbW := hJ.bel
    have l11 : L 11 = true := by simp [hd]
    have v11 : act.tmps[16]? = some (.bool (identR sig g)) := hJ.val l11 rfl (fun u h => h)
    clear hJ hd
    go_simp
    exact hK3 _ _ (Below.refl _ _) rfl
   | q + 13, ho => simp at ho
  case fin =>
   intro V W hbW hV
   have v0 : V 0 = .slice AG sig.length cG := hV 0 5 rfl
   have v1 : V 1 = .agg #[.int .i64 g.roots, .slice AN g.nodes.length cN, .slice AS g.sites.length cS, .int .i64 g.edges, .slice AO g.outer.length cO, .slice AI g.inner.length cI] := hV 1 6 rfl
   have v2 : V 2 = .bool false := hV 2 7 rfl
   have v3 : V 3 = .bool false := hV 3 8 rfl
   have v4 : V 4 = undef := hV 4 9 rfl
   have v5 : V 5 = undef := hV 5 10 rfl
   have v6 : V 6 = undef := hV 6 11 rfl
   have v7 : V 7 = undef := hV 7 12 rfl
   have v8 : V 8 = undef := hV 8 13 rfl
   have v9 : V 9 = undef := hV 9 14 rfl
   have v10 : V 10 = undef := hV 10 15 rfl
   have v11 : V 11 = .bool (identR sig g) := hV 11 16 rfl
   have v12 : V 12 = .bool (identR sig g) := hV 12 4 rfl
   clear hV
   simp only [layV, List.setIfInBounds_toArray, List.set_cons_zero, List.set_cons_succ, v0, v1, v2, v3, v4, v5, v6, v7, v8, v9, v10, v11, v12]
   clear v0 v1 v2 v3 v4 v5 v6 v7 v8 v9 v10 v11 v12
   have HZ := Lib.hid (HB0.out.trans (hbW.mono HB0.out.size))
   clear hbW
   go_wp2_with fail
   go_ret
   exact ⟨rfl, HZ.out⟩
 ·have HC0 := Lib.hid c0
  have HPB := Lib.hid (show identR sig g = eqI g (idN g) from by rw [identR_eq, c0]; rfl)
  clear c0
  go_enter Tryz.func27, Tryz.ntmps27
  go_wp2_with fail
  rw [← HW0.out]
  refine wp_region_vals (by kernel_rfl) [some 5, some 6, some 7, some 8, some 9, some 10, some 11, some 12, some 13, some 14, some 15, some 16, some 4] (fun q v W => match q with | 0 => v = .slice AG sig.length cG | 1 => v = .agg #[.int .i64 g.roots, .slice AN g.nodes.length cN, .slice AS g.sites.length cS, .int .i64 g.edges, .slice AO g.outer.length cO, .slice AI g.inner.length cI] | 2 => v = .bool true | 3 => v = .bool true | 4 => v = .agg #[.int .i64 g.roots, .slice AN g.nodes.length cN, .slice AS g.sites.length cS, .int .i64 g.edges, .slice AO g.outer.length cO, .slice AI g.inner.length cI] | 5 => v = .pointer (some ⟨w.heap.size, 0, none⟩) | 6 => v = .int .i64 g.roots | 7 => v = .pointer (some ⟨w.heap.size, 4, none⟩) | 8 => v = .slice AO g.outer.length cO | 9 => ∃ X : BX, v = .agg X.cells ∧ (X.g = idN g ∧ RGr W X.nv X.sv X.ov X.iv X.g) | 10 => v = .bool (eqI g (idN g)) | 11 => v = .bool (identR sig g) | 12 => v = .bool (identR sig g) | _ => True) (by kernel_rfl) (by kernel_rfl) ?mono ?step ?fin
  case mono =>
   intro q v W W' hb h
   match q, h with
   | 0, h => exact h
   | 1, h => exact h
   | 2, h => exact h
   | 3, h => exact h
   | 4, h => exact h
   | 5, h => exact h
   | 6, h => exact h
   | 7, h => exact h
   | 8, h => exact h
   | 9, h => exact (by obtain ⟨X, e, h1, h2⟩ := h; exact ⟨X, e, h1, h2.below hb⟩)
   | 10, h => exact h
   | 11, h => exact h
   | 12, h => exact h
   | q + 13, _ => trivial
  case step =>
   intro L act W q oo hJ ho hd K3 hK3
   match q, ho with
   | 0, ho =>
    simp only [List.getElem?_toArray, List.getElem?_cons_zero, List.getElem?_cons_succ, Option.some.injEq] at ho
    subst ho
    have hbW := hJ.bel
    have a0 : act.tmps[0]? = some (.slice AG sig.length cG) := hJ.out 0 (by decide)
    clear hJ hd
    go_simp
    exact hK3 _ _ (Below.refl _ _) rfl
   | 1, ho =>
    simp only [List.getElem?_toArray, List.getElem?_cons_zero, List.getElem?_cons_succ, Option.some.injEq] at ho
    subst ho
    have hbW := hJ.bel
    have a3 : act.tmps[3]? = some (.pointer (some ⟨w.heap.size, 0, none⟩)) := hJ.out 3 (by decide)
    clear hJ hd
    have bxW := HX.out W hbW
    have x0 := cell_of_row _ _ 0 _ _ _ bxW
    have x1 := cell_of_row _ _ 1 _ _ _ bxW
    have x2 := cell_of_row _ _ 2 _ _ _ bxW
    have x3 := cell_of_row _ _ 3 _ _ _ bxW
    have x4 := cell_of_row _ _ 4 _ _ _ bxW
    have x5 := cell_of_row _ _ 5 _ _ _ bxW
    clear bxW
    go_simp
    exact hK3 _ _ (Below.refl _ _) rfl
   | 2, ho =>
    simp only [List.getElem?_toArray, List.getElem?_cons_zero, List.getElem?_cons_succ, Option.some.injEq] at ho
    subst ho
    simp [Region.binds] at hd
    have hbW := hJ.bel
    have l0 : L 0 = true := by simp [hd]
    have v0 : act.tmps[5]? = some (.slice AG sig.length cG) := hJ.val l0 rfl (fun u h => h)
    have l1 : L 1 = true := by simp [hd]
    have v1 : act.tmps[6]? = some (.agg #[.int .i64 g.roots, .slice AN g.nodes.length cN, .slice AS g.sites.length cS, .int .i64 g.edges, .slice AO g.outer.length cO, .slice AI g.inner.length cI]) := hJ.val l1 rfl (fun u h => h)
    clear hJ hd
    have HBW := Lib.hid hbW
    clear hbW
    go_simp
    go_at_call 59
    refine (HGC.out W (HB0.out.trans (HBW.out.mono HB0.out.size))).mono ?_
    rintro e W' ⟨rfl, hb⟩
    go_simp
    exact hK3 _ _ hb (by rw [HC0.out]; first | done | rfl)
   | 3, ho =>
    simp only [List.getElem?_toArray, List.getElem?_cons_zero, List.getElem?_cons_succ, Option.some.injEq] at ho
    subst ho
    simp [Region.binds] at hd
    have hbW := hJ.bel
    have l2 : L 2 = true := by simp [hd]
    have v2 : act.tmps[7]? = some (.bool true) := hJ.val l2 rfl (fun u h => h)
    clear hJ hd
    go_simp
    exact hK3 _ _ (Below.refl _ _) rfl
   | 4, ho =>
    simp only [List.getElem?_toArray, List.getElem?_cons_zero, List.getElem?_cons_succ, Option.some.injEq] at ho
    subst ho
    simp [Region.binds] at hd
    have hbW := hJ.bel
    have a3 : act.tmps[3]? = some (.pointer (some ⟨w.heap.size, 0, none⟩)) := hJ.out 3 (by decide)
    have l3 : L 3 = true := by simp [hd]
    have v3 : act.tmps[8]? = some (.bool true) := hJ.val l3 rfl (fun u h => h)
    clear hJ hd
    have bxW := HX.out W hbW
    have x0 := cell_of_row _ _ 0 _ _ _ bxW
    have x1 := cell_of_row _ _ 1 _ _ _ bxW
    have x2 := cell_of_row _ _ 2 _ _ _ bxW
    have x3 := cell_of_row _ _ 3 _ _ _ bxW
    have x4 := cell_of_row _ _ 4 _ _ _ bxW
    have x5 := cell_of_row _ _ 5 _ _ _ bxW
    clear bxW
    go_simp
    exact hK3 _ _ (Below.refl _ _) rfl
   | 5, ho =>
    simp only [List.getElem?_toArray, List.getElem?_cons_zero, List.getElem?_cons_succ, Option.some.injEq] at ho
    subst ho
    simp [Region.binds] at hd
    have hbW := hJ.bel
    have a3 : act.tmps[3]? = some (.pointer (some ⟨w.heap.size, 0, none⟩)) := hJ.out 3 (by decide)
    have l3 : L 3 = true := by simp [hd]
    have v3 : act.tmps[8]? = some (.bool true) := hJ.val l3 rfl (fun u h => h)
    clear hJ hd
    go_simp
    exact hK3 _ _ (Below.refl _ _) rfl
   | 6, ho =>
    simp only [List.getElem?_toArray, List.getElem?_cons_zero, List.getElem?_cons_succ, Option.some.injEq] at ho
    subst ho
    simp [Region.binds] at hd
    have hbW := hJ.bel
    have l3 : L 3 = true := by simp [hd]
    have v3 : act.tmps[8]? = some (.bool true) := hJ.val l3 rfl (fun u h => h)
    have l5 : L 5 = true := by simp [hd]
    have v5 : act.tmps[10]? = some (.pointer (some ⟨w.heap.size, 0, none⟩)) := hJ.val l5 rfl (fun u h => h)
    clear hJ hd
    have bxW := HX.out W hbW
    have x0 := cell_of_row _ _ 0 _ _ _ bxW
    have x1 := cell_of_row _ _ 1 _ _ _ bxW
    have x2 := cell_of_row _ _ 2 _ _ _ bxW
    have x3 := cell_of_row _ _ 3 _ _ _ bxW
    have x4 := cell_of_row _ _ 4 _ _ _ bxW
    have x5 := cell_of_row _ _ 5 _ _ _ bxW
    clear bxW
    go_simp
    exact hK3 _ _ (Below.refl _ _) rfl
   | 7, ho =>
    simp only [List.getElem?_toArray, List.getElem?_cons_zero, List.getElem?_cons_succ, Option.some.injEq] at ho
    subst ho
    simp [Region.binds] at hd
    have hbW := hJ.bel
    have a3 : act.tmps[3]? = some (.pointer (some ⟨w.heap.size, 0, none⟩)) := hJ.out 3 (by decide)
    have l3 : L 3 = true := by simp [hd]
    have v3 : act.tmps[8]? = some (.bool true) := hJ.val l3 rfl (fun u h => h)
    clear hJ hd
    go_simp
    exact hK3 _ _ (Below.refl _ _) rfl
   | 8, ho =>
    simp only [List.getElem?_toArray, List.getElem?_cons_zero, List.getElem?_cons_succ, Option.some.injEq] at ho
    subst ho
    simp [Region.binds] at hd
    have hbW := hJ.bel
    have l3 : L 3 = true := by simp [hd]
    have v3 : act.tmps[8]? = some (.bool true) := hJ.val l3 rfl (fun u h => h)
    have l7 : L 7 = true := by simp [hd]
    have v7 : act.tmps[12]? = some (.pointer (some ⟨w.heap.size, 4, none⟩)) := hJ.val l7 rfl (fun u h => h)
    clear hJ hd
    have bxW := HX.out W hbW
    have x0 := cell_of_row _ _ 0 _ _ _ bxW
    have x1 := cell_of_row _ _ 1 _ _ _ bxW
    have x2 := cell_of_row _ _ 2 _ _ _ bxW
    have x3 := cell_of_row _ _ 3 _ _ _ bxW
    have x4 := cell_of_row _ _ 4 _ _ _ bxW
    have x5 := cell_of_row _ _ 5 _ _ _ bxW
    clear bxW
    go_simp
    exact hK3 _ _ (Below.refl _ _) rfl
   | 9, ho =>
    simp only [List.getElem?_toArray, List.getElem?_cons_zero, List.getElem?_cons_succ, Option.some.injEq] at ho
    subst ho
    simp [Region.binds] at hd
    have hbW := hJ.bel
    have l3 : L 3 = true := by simp [hd]
    have v3 : act.tmps[8]? = some (.bool true) := hJ.val l3 rfl (fun u h => h)
    have l6 : L 6 = true := by simp [hd]
    have v6 : act.tmps[11]? = some (.int .i64 g.roots) := hJ.val l6 rfl (fun u h => h)
    have l8 : L 8 = true := by simp [hd]
    have v8 : act.tmps[13]? = some (.slice AO g.outer.length cO) := hJ.val l8 rfl (fun u h => h)
    clear hJ hd
    have HBW := Lib.hid hbW
    clear hbW
    go_simp
    go_at_call 92
    refine (HID.out HC0.out W (HB0.out.trans (HBW.out.mono HB0.out.size))).mono ?_
    rintro e W' ⟨X, rfl, hg, hr, hb⟩
    go_simp
    exact hK3 _ _ hb ⟨X, rfl, hg, hr.rgr (by rw [hg]; exact idN_small ((good_iff sig g).1 HC0.out) HSM.out)⟩
   | 10, ho =>
    simp only [List.getElem?_toArray, List.getElem?_cons_zero, List.getElem?_cons_succ, Option.some.injEq] at ho
    subst ho
    simp [Region.binds] at hd
    have hbW := hJ.bel
    have l3 : L 3 = true := by simp [hd]
    have v3 : act.tmps[8]? = some (.bool true) := hJ.val l3 rfl (fun u h => h)
    have l4 : L 4 = true := by simp [hd]
    have v4 : act.tmps[9]? = some (.agg #[.int .i64 g.roots, .slice AN g.nodes.length cN, .slice AS g.sites.length cS, .int .i64 g.edges, .slice AO g.outer.length cO, .slice AI g.inner.length cI]) := hJ.val l4 rfl (fun u h => h)
    have l9 : L 9 = true := by simp [hd]
    obtain ⟨u9, v9, X, rfl, hr9⟩ := hJ.has 9 14 l9 rfl
    clear hJ hd
    have HBW := Lib.hid hbW
    clear hbW
    go_simp
    go_at_call 106
    refine (sameBigraphs_any g X.g _ _ _ _ X.nv X.sv X.ov X.iv W HSM.out (by rw [hr9.1]; exact idN_small ((good_iff sig g).1 HC0.out) HSM.out) (by rw [hr9.1]; rfl) (HG.out W (HB0.out.trans (HBW.out.mono HB0.out.size))) hr9.2).mono ?_
    rintro e W' ⟨rfl, hb⟩
    go_simp
    exact hK3 _ _ hb (by first | rfl | (rw [hr9.1]; done) | (rw [hr9.1]; rfl))
   | 11, ho =>
    simp only [List.getElem?_toArray, List.getElem?_cons_zero, List.getElem?_cons_succ, Option.some.injEq] at ho
    subst ho
    simp [Region.binds] at hd
    have hbW := hJ.bel
    have l3 : L 3 = true := by simp [hd]
    have v3 : act.tmps[8]? = some (.bool true) := hJ.val l3 rfl (fun u h => h)
    have l10 : L 10 = true := by simp [hd]
    have v10 : act.tmps[15]? = some (.bool (eqI g (idN g))) := hJ.val l10 rfl (fun u h => h)
    clear hJ hd
    go_simp
    exact hK3 _ _ (Below.refl _ _) (by rw [HPB.out]; first | done | rfl)
   | 12, ho =>
    simp only [List.getElem?_toArray, List.getElem?_cons_zero, List.getElem?_cons_succ, Option.some.injEq] at ho
    subst ho
    simp [Region.binds] at hd
    have hbW := hJ.bel
    have l11 : L 11 = true := by simp [hd]
    have v11 : act.tmps[16]? = some (.bool (identR sig g)) := hJ.val l11 rfl (fun u h => h)
    clear hJ hd
    go_simp
    exact hK3 _ _ (Below.refl _ _) rfl
   | q + 13, ho => simp at ho
  case fin =>
   intro V W hbW hV
   have v0 : V 0 = .slice AG sig.length cG := hV 0 5 rfl
   have v1 : V 1 = .agg #[.int .i64 g.roots, .slice AN g.nodes.length cN, .slice AS g.sites.length cS, .int .i64 g.edges, .slice AO g.outer.length cO, .slice AI g.inner.length cI] := hV 1 6 rfl
   have v2 : V 2 = .bool true := hV 2 7 rfl
   have v3 : V 3 = .bool true := hV 3 8 rfl
   have v4 : V 4 = .agg #[.int .i64 g.roots, .slice AN g.nodes.length cN, .slice AS g.sites.length cS, .int .i64 g.edges, .slice AO g.outer.length cO, .slice AI g.inner.length cI] := hV 4 9 rfl
   have v5 : V 5 = .pointer (some ⟨w.heap.size, 0, none⟩) := hV 5 10 rfl
   have v6 : V 6 = .int .i64 g.roots := hV 6 11 rfl
   have v7 : V 7 = .pointer (some ⟨w.heap.size, 4, none⟩) := hV 7 12 rfl
   have v8 : V 8 = .slice AO g.outer.length cO := hV 8 13 rfl
   obtain ⟨X9, v9, hr9⟩ : ∃ X : BX, V 9 = .agg X.cells ∧ (X.g = idN g ∧ RGr W X.nv X.sv X.ov X.iv X.g) := hV 9 14 rfl
   have v10 : V 10 = .bool (eqI g (idN g)) := hV 10 15 rfl
   have v11 : V 11 = .bool (identR sig g) := hV 11 16 rfl
   have v12 : V 12 = .bool (identR sig g) := hV 12 4 rfl
   clear hV
   simp only [layV, List.setIfInBounds_toArray, List.set_cons_zero, List.set_cons_succ, v0, v1, v2, v3, v4, v5, v6, v7, v8, v9, v10, v11, v12]
   clear v0 v1 v2 v3 v4 v5 v6 v7 v8 v9 v10 v11 v12
   have HZ := Lib.hid (HB0.out.trans (hbW.mono HB0.out.size))
   clear hbW
   go_wp2_with fail
   go_ret
   exact ⟨rfl, HZ.out⟩

set_option maxRecDepth 100000 in
set_option maxHeartbeats 4000000 in
theorem specIsIdentity_any (sig : List Ct) (g : Gr) (nv sv ov iv gv : Value) (w : World) (hs : SmallG g) (hz : SmallS sig) (hS : RSl RCt 3 w gv sig) (hG : RGr w nv sv ov iv g) :
  Calls Tryz.prog 80 #[gv, .agg #[.int .i64 g.roots, nv, sv, .int .i64 g.edges, ov, iv]] w fun e w' => e = .returned (.bool (identR sig g)) ∧ Below w.heap.size w w' := by
 have HG := Lib.hid (show ∀ W, Below w.heap.size w W → RGr W nv sv ov iv g from fun W hb => hG.below hb)
 have HS := Lib.hid (show ∀ W, Below w.heap.size w W → RSl RCt 3 W gv sig from fun W hb => hS.below RCt_keep hb)
 have HSM := Lib.hid hs
 obtain ⟨AN, cN, AS, cS, AO, cO, AI, cI, rfl, rfl, rfl, rfl⟩ := hG.form
 obtain ⟨AG, cG, rfl, _⟩ := hS.form
 obtain ⟨w0, hw0⟩ : ∃ w0, w0 = w.alloc (.cells #[.int .i64 g.roots, .slice AN g.nodes.length cN, .slice AS g.sites.length cS, .int .i64 g.edges, .slice AO g.outer.length cO, .slice AI g.inner.length cI] 31) := ⟨_, rfl⟩
 have hb0 : Below w.heap.size w w0 := by rw [hw0]; exact (Below.refl _ _).alloc (Nat.le_refl _) _
 have bx0 : w0.heap[w.heap.size]? = some (.cells #[.int .i64 g.roots, .slice AN g.nodes.length cN, .slice AS g.sites.length cS, .int .i64 g.edges, .slice AO g.outer.length cO, .slice AI g.inner.length cI] 31) := by rw [hw0]; exact heap_alloc_new _ _
 have hsz0 : w0.heap.size = w.heap.size + 1 := by rw [hw0]; simp
 have HX := Lib.hid (show ∀ W, Below w0.heap.size w0 W → W.heap[w.heap.size]? = some (.cells #[.int .i64 g.roots, .slice AN g.nodes.length cN, .slice AS g.sites.length cS, .int .i64 g.edges, .slice AO g.outer.length cO, .slice AI g.inner.length cI] 31) from fun W hW => (hW.block _ (by omega)).trans bx0)
 have HB0 := Lib.hid hb0
 have HW0 := Lib.hid hw0
 have HGC := Lib.hid (show ∀ W, Below w.heap.size w W → Calls Tryz.prog 135 #[.slice AG sig.length cG, .agg #[.int .i64 g.roots, .slice AN g.nodes.length cN, .slice AS g.sites.length cS, .int .i64 g.edges, .slice AO g.outer.length cO, .slice AI g.inner.length cI]] W _ from fun W hb => l2Good_any sig g _ _ _ _ _ W hs hz (HS.out W hb) (HG.out W hb))
 have HID := Lib.hid (show goodG sig g = true → ∀ W, Below w.heap.size w W → Calls Tryz.prog 95 #[.int .i64 g.roots, .slice AO g.outer.length cO] W fun e w' => ∃ X : BX, e = .returned (.agg X.cells) ∧ X.g = idN g ∧ RG W w' X from fun hg W hb => by
  have hr := ((good_iff sig g).1 hg).r
  have h := l3Identity_any g.roots.toNat AO cO g.outer W (by omega) hs.outer (by obtain ⟨A', c', e, hc⟩ := (HG.out W hb).o; cases e; exact hc)
  rw [show ((g.roots.toNat : Nat) : Int) = g.roots by omega] at h
  exact h)
 have x0 := cell_of_row _ _ 0 _ _ _ bx0
 have x1 := cell_of_row _ _ 1 _ _ _ bx0
 have x2 := cell_of_row _ _ 2 _ _ _ bx0
 have x3 := cell_of_row _ _ 3 _ _ _ bx0
 have x4 := cell_of_row _ _ 4 _ _ _ bx0
 have x5 := cell_of_row _ _ 5 _ _ _ bx0
 rw [hw0] at x0 x1 x2 x3 x4 x5
 clear hs hG hb0 bx0 hw0 hS hz x0 x1 x2 x3 x4 x5
 cases c0 : goodG sig g
 ·have HC0 := Lib.hid c0
  have HPB := Lib.hid (show identR sig g = false from by rw [identR_eq, c0]; rfl)
  clear c0
  go_enter Tryz.func80, Tryz.ntmps80
  go_wp2_with fail
  rw [← HW0.out]
  refine wp_region_vals (by kernel_rfl) [some 5, some 6, some 7, some 8, some 9, some 10, some 11, some 12, some 13, some 14, some 15, some 16, some 4] (fun q v W => match q with | 0 => v = .slice AG sig.length cG | 1 => v = .agg #[.int .i64 g.roots, .slice AN g.nodes.length cN, .slice AS g.sites.length cS, .int .i64 g.edges, .slice AO g.outer.length cO, .slice AI g.inner.length cI] | 2 => v = .bool false | 3 => v = .bool false | 4 => v = undef | 5 => v = undef | 6 => v = undef | 7 => v = undef | 8 => v = undef | 9 => v = undef | 10 => v = undef | 11 => v = .bool (identR sig g) | 12 => v = .bool (identR sig g) | _ => True) (by kernel_rfl) (by kernel_rfl) ?mono ?step ?fin
  case mono =>
   intro q v W W' hb h
   match q, h with
   | 0, h => exact h
   | 1, h => exact h
   | 2, h => exact h
   | 3, h => exact h
   | 4, h => exact h
   | 5, h => exact h
   | 6, h => exact h
   | 7, h => exact h
   | 8, h => exact h
   | 9, h => exact h
   | 10, h => exact h
   | 11, h => exact h
   | 12, h => exact h
   | q + 13, _ => trivial
  case step =>
   intro L act W q oo hJ ho hd K3 hK3
   match q, ho with
   | 0, ho =>
    simp only [List.getElem?_toArray, List.getElem?_cons_zero, List.getElem?_cons_succ, Option.some.injEq] at ho
    subst ho
    have hbW := hJ.bel
    have a0 : act.tmps[0]? = some (.slice AG sig.length cG) := hJ.out 0 (by decide)
    clear hJ hd
    go_simp
    exact hK3 _ _ (Below.refl _ _) rfl
   | 1, ho =>
    simp only [List.getElem?_toArray, List.getElem?_cons_zero, List.getElem?_cons_succ, Option.some.injEq] at ho
    subst ho
    have hbW := hJ.bel
    have a3 : act.tmps[3]? = some (.pointer (some ⟨w.heap.size, 0, none⟩)) := hJ.out 3 (by decide)
    clear hJ hd
    have bxW := HX.out W hbW
    have x0 := cell_of_row _ _ 0 _ _ _ bxW
    have x1 := cell_of_row _ _ 1 _ _ _ bxW
    have x2 := cell_of_row _ _ 2 _ _ _ bxW
    have x3 := cell_of_row _ _ 3 _ _ _ bxW
    have x4 := cell_of_row _ _ 4 _ _ _ bxW
    have x5 := cell_of_row _ _ 5 _ _ _ bxW
    clear bxW
    go_simp
    exact hK3 _ _ (Below.refl _ _) rfl
   | 2, ho =>
    simp only [List.getElem?_toArray, List.getElem?_cons_zero, List.getElem?_cons_succ, Option.some.injEq] at ho
    subst ho
    simp [Region.binds] at hd
    have hbW := hJ.bel
    have l0 : L 0 = true := by simp [hd]
    have v0 : act.tmps[5]? = some (.slice AG sig.length cG) := hJ.val l0 rfl (fun u h => h)
    have l1 : L 1 = true := by simp [hd]
    have v1 : act.tmps[6]? = some (.agg #[.int .i64 g.roots, .slice AN g.nodes.length cN, .slice AS g.sites.length cS, .int .i64 g.edges, .slice AO g.outer.length cO, .slice AI g.inner.length cI]) := hJ.val l1 rfl (fun u h => h)
    clear hJ hd
    have HBW := Lib.hid hbW
    clear hbW
    go_simp
    go_at_call 135
    refine (HGC.out W (HB0.out.trans (HBW.out.mono HB0.out.size))).mono ?_
    rintro e W' ⟨rfl, hb⟩
    go_simp
    exact hK3 _ _ hb (by rw [HC0.out]; first | done | rfl)
   | 3, ho =>
    simp only [List.getElem?_toArray, List.getElem?_cons_zero, List.getElem?_cons_succ, Option.some.injEq] at ho
    subst ho
    simp [Region.binds] at hd
    have hbW := hJ.bel
    have l2 : L 2 = true := by simp [hd]
    have v2 : act.tmps[7]? = some (.bool false) := hJ.val l2 rfl (fun u h => h)
    clear hJ hd
    go_simp
    exact hK3 _ _ (Below.refl _ _) rfl
   | 4, ho =>
    simp only [List.getElem?_toArray, List.getElem?_cons_zero, List.getElem?_cons_succ, Option.some.injEq] at ho
    subst ho
    simp [Region.binds] at hd
    have hbW := hJ.bel
    have l3 : L 3 = true := by simp [hd]
    have v3 : act.tmps[8]? = some (.bool false) := hJ.val l3 rfl (fun u h => h)
    clear hJ hd
    go_simp
    exact hK3 _ _ (Below.refl _ _) rfl
   | 5, ho =>
    simp only [List.getElem?_toArray, List.getElem?_cons_zero, List.getElem?_cons_succ, Option.some.injEq] at ho
    subst ho
    simp [Region.binds] at hd
    have hbW := hJ.bel
    have l3 : L 3 = true := by simp [hd]
    have v3 : act.tmps[8]? = some (.bool false) := hJ.val l3 rfl (fun u h => h)
    clear hJ hd
    go_simp
    exact hK3 _ _ (Below.refl _ _) rfl
   | 6, ho =>
    simp only [List.getElem?_toArray, List.getElem?_cons_zero, List.getElem?_cons_succ, Option.some.injEq] at ho
    subst ho
    simp [Region.binds] at hd
    have hbW := hJ.bel
    have l3 : L 3 = true := by simp [hd]
    have v3 : act.tmps[8]? = some (.bool false) := hJ.val l3 rfl (fun u h => h)
    clear hJ hd
    go_simp
    exact hK3 _ _ (Below.refl _ _) rfl
   | 7, ho =>
    simp only [List.getElem?_toArray, List.getElem?_cons_zero, List.getElem?_cons_succ, Option.some.injEq] at ho
    subst ho
    simp [Region.binds] at hd
    have hbW := hJ.bel
    have l3 : L 3 = true := by simp [hd]
    have v3 : act.tmps[8]? = some (.bool false) := hJ.val l3 rfl (fun u h => h)
    clear hJ hd
    go_simp
    exact hK3 _ _ (Below.refl _ _) rfl
   | 8, ho =>
    simp only [List.getElem?_toArray, List.getElem?_cons_zero, List.getElem?_cons_succ, Option.some.injEq] at ho
    subst ho
    simp [Region.binds] at hd
    have hbW := hJ.bel
    have l3 : L 3 = true := by simp [hd]
    have v3 : act.tmps[8]? = some (.bool false) := hJ.val l3 rfl (fun u h => h)
    clear hJ hd
    go_simp
    exact hK3 _ _ (Below.refl _ _) rfl
   | 9, ho =>
    simp only [List.getElem?_toArray, List.getElem?_cons_zero, List.getElem?_cons_succ, Option.some.injEq] at ho
    subst ho
    simp [Region.binds] at hd
    have hbW := hJ.bel
    have l3 : L 3 = true := by simp [hd]
    have v3 : act.tmps[8]? = some (.bool false) := hJ.val l3 rfl (fun u h => h)
    clear hJ hd
    go_simp
    exact hK3 _ _ (Below.refl _ _) rfl
   | 10, ho =>
    simp only [List.getElem?_toArray, List.getElem?_cons_zero, List.getElem?_cons_succ, Option.some.injEq] at ho
    subst ho
    simp [Region.binds] at hd
    have hbW := hJ.bel
    have l3 : L 3 = true := by simp [hd]
    have v3 : act.tmps[8]? = some (.bool false) := hJ.val l3 rfl (fun u h => h)
    clear hJ hd
    go_simp
    exact hK3 _ _ (Below.refl _ _) rfl
   | 11, ho =>
    simp only [List.getElem?_toArray, List.getElem?_cons_zero, List.getElem?_cons_succ, Option.some.injEq] at ho
    subst ho
    simp [Region.binds] at hd
    have hbW := hJ.bel
    have l3 : L 3 = true := by simp [hd]
    have v3 : act.tmps[8]? = some (.bool false) := hJ.val l3 rfl (fun u h => h)
    have l10 : L 10 = true := by simp [hd]
    have v10 : act.tmps[15]? = some (undef) := hJ.val l10 rfl (fun u h => h)
    clear hJ hd
    go_simp
    exact hK3 _ _ (Below.refl _ _) (by rw [HPB.out]; first | done | rfl)
   | 12, ho =>
    simp only [List.getElem?_toArray, List.getElem?_cons_zero, List.getElem?_cons_succ, Option.some.injEq] at ho
    subst ho
    simp [Region.binds] at hd
    have hbW := hJ.bel
    have l11 : L 11 = true := by simp [hd]
    have v11 : act.tmps[16]? = some (.bool (identR sig g)) := hJ.val l11 rfl (fun u h => h)
    clear hJ hd
    go_simp
    exact hK3 _ _ (Below.refl _ _) rfl
   | q + 13, ho => simp at ho
  case fin =>
   intro V W hbW hV
   have v0 : V 0 = .slice AG sig.length cG := hV 0 5 rfl
   have v1 : V 1 = .agg #[.int .i64 g.roots, .slice AN g.nodes.length cN, .slice AS g.sites.length cS, .int .i64 g.edges, .slice AO g.outer.length cO, .slice AI g.inner.length cI] := hV 1 6 rfl
   have v2 : V 2 = .bool false := hV 2 7 rfl
   have v3 : V 3 = .bool false := hV 3 8 rfl
   have v4 : V 4 = undef := hV 4 9 rfl
   have v5 : V 5 = undef := hV 5 10 rfl
   have v6 : V 6 = undef := hV 6 11 rfl
   have v7 : V 7 = undef := hV 7 12 rfl
   have v8 : V 8 = undef := hV 8 13 rfl
   have v9 : V 9 = undef := hV 9 14 rfl
   have v10 : V 10 = undef := hV 10 15 rfl
   have v11 : V 11 = .bool (identR sig g) := hV 11 16 rfl
   have v12 : V 12 = .bool (identR sig g) := hV 12 4 rfl
   clear hV
   simp only [layV, List.setIfInBounds_toArray, List.set_cons_zero, List.set_cons_succ, v0, v1, v2, v3, v4, v5, v6, v7, v8, v9, v10, v11, v12]
   clear v0 v1 v2 v3 v4 v5 v6 v7 v8 v9 v10 v11 v12
   have HZ := Lib.hid (HB0.out.trans (hbW.mono HB0.out.size))
   clear hbW
   go_wp2_with fail
   go_ret
   exact ⟨rfl, HZ.out⟩
 ·have HC0 := Lib.hid c0
  have HPB := Lib.hid (show identR sig g = eqI g (idN g) from by rw [identR_eq, c0]; rfl)
  clear c0
  go_enter Tryz.func80, Tryz.ntmps80
  go_wp2_with fail
  rw [← HW0.out]
  refine wp_region_vals (by kernel_rfl) [some 5, some 6, some 7, some 8, some 9, some 10, some 11, some 12, some 13, some 14, some 15, some 16, some 4] (fun q v W => match q with | 0 => v = .slice AG sig.length cG | 1 => v = .agg #[.int .i64 g.roots, .slice AN g.nodes.length cN, .slice AS g.sites.length cS, .int .i64 g.edges, .slice AO g.outer.length cO, .slice AI g.inner.length cI] | 2 => v = .bool true | 3 => v = .bool true | 4 => v = .agg #[.int .i64 g.roots, .slice AN g.nodes.length cN, .slice AS g.sites.length cS, .int .i64 g.edges, .slice AO g.outer.length cO, .slice AI g.inner.length cI] | 5 => v = .pointer (some ⟨w.heap.size, 0, none⟩) | 6 => v = .int .i64 g.roots | 7 => v = .pointer (some ⟨w.heap.size, 4, none⟩) | 8 => v = .slice AO g.outer.length cO | 9 => ∃ X : BX, v = .agg X.cells ∧ (X.g = idN g ∧ RGr W X.nv X.sv X.ov X.iv X.g) | 10 => v = .bool (eqI g (idN g)) | 11 => v = .bool (identR sig g) | 12 => v = .bool (identR sig g) | _ => True) (by kernel_rfl) (by kernel_rfl) ?mono ?step ?fin
  case mono =>
   intro q v W W' hb h
   match q, h with
   | 0, h => exact h
   | 1, h => exact h
   | 2, h => exact h
   | 3, h => exact h
   | 4, h => exact h
   | 5, h => exact h
   | 6, h => exact h
   | 7, h => exact h
   | 8, h => exact h
   | 9, h => exact (by obtain ⟨X, e, h1, h2⟩ := h; exact ⟨X, e, h1, h2.below hb⟩)
   | 10, h => exact h
   | 11, h => exact h
   | 12, h => exact h
   | q + 13, _ => trivial
  case step =>
   intro L act W q oo hJ ho hd K3 hK3
   match q, ho with
   | 0, ho =>
    simp only [List.getElem?_toArray, List.getElem?_cons_zero, List.getElem?_cons_succ, Option.some.injEq] at ho
    subst ho
    have hbW := hJ.bel
    have a0 : act.tmps[0]? = some (.slice AG sig.length cG) := hJ.out 0 (by decide)
    clear hJ hd
    go_simp
    exact hK3 _ _ (Below.refl _ _) rfl
   | 1, ho =>
    simp only [List.getElem?_toArray, List.getElem?_cons_zero, List.getElem?_cons_succ, Option.some.injEq] at ho
    subst ho
    have hbW := hJ.bel
    have a3 : act.tmps[3]? = some (.pointer (some ⟨w.heap.size, 0, none⟩)) := hJ.out 3 (by decide)
    clear hJ hd
    have bxW := HX.out W hbW
    have x0 := cell_of_row _ _ 0 _ _ _ bxW
    have x1 := cell_of_row _ _ 1 _ _ _ bxW
    have x2 := cell_of_row _ _ 2 _ _ _ bxW
    have x3 := cell_of_row _ _ 3 _ _ _ bxW
    have x4 := cell_of_row _ _ 4 _ _ _ bxW
    have x5 := cell_of_row _ _ 5 _ _ _ bxW
    clear bxW
    go_simp
    exact hK3 _ _ (Below.refl _ _) rfl
   | 2, ho =>
    simp only [List.getElem?_toArray, List.getElem?_cons_zero, List.getElem?_cons_succ, Option.some.injEq] at ho
    subst ho
    simp [Region.binds] at hd
    have hbW := hJ.bel
    have l0 : L 0 = true := by simp [hd]
    have v0 : act.tmps[5]? = some (.slice AG sig.length cG) := hJ.val l0 rfl (fun u h => h)
    have l1 : L 1 = true := by simp [hd]
    have v1 : act.tmps[6]? = some (.agg #[.int .i64 g.roots, .slice AN g.nodes.length cN, .slice AS g.sites.length cS, .int .i64 g.edges, .slice AO g.outer.length cO, .slice AI g.inner.length cI]) := hJ.val l1 rfl (fun u h => h)
    clear hJ hd
    have HBW := Lib.hid hbW
    clear hbW
    go_simp
    go_at_call 135
    refine (HGC.out W (HB0.out.trans (HBW.out.mono HB0.out.size))).mono ?_
    rintro e W' ⟨rfl, hb⟩
    go_simp
    exact hK3 _ _ hb (by rw [HC0.out]; first | done | rfl)
   | 3, ho =>
    simp only [List.getElem?_toArray, List.getElem?_cons_zero, List.getElem?_cons_succ, Option.some.injEq] at ho
    subst ho
    simp [Region.binds] at hd
    have hbW := hJ.bel
    have l2 : L 2 = true := by simp [hd]
    have v2 : act.tmps[7]? = some (.bool true) := hJ.val l2 rfl (fun u h => h)
    clear hJ hd
    go_simp
    exact hK3 _ _ (Below.refl _ _) rfl
   | 4, ho =>
    simp only [List.getElem?_toArray, List.getElem?_cons_zero, List.getElem?_cons_succ, Option.some.injEq] at ho
    subst ho
    simp [Region.binds] at hd
    have hbW := hJ.bel
    have a3 : act.tmps[3]? = some (.pointer (some ⟨w.heap.size, 0, none⟩)) := hJ.out 3 (by decide)
    have l3 : L 3 = true := by simp [hd]
    have v3 : act.tmps[8]? = some (.bool true) := hJ.val l3 rfl (fun u h => h)
    clear hJ hd
    have bxW := HX.out W hbW
    have x0 := cell_of_row _ _ 0 _ _ _ bxW
    have x1 := cell_of_row _ _ 1 _ _ _ bxW
    have x2 := cell_of_row _ _ 2 _ _ _ bxW
    have x3 := cell_of_row _ _ 3 _ _ _ bxW
    have x4 := cell_of_row _ _ 4 _ _ _ bxW
    have x5 := cell_of_row _ _ 5 _ _ _ bxW
    clear bxW
    go_simp
    exact hK3 _ _ (Below.refl _ _) rfl
   | 5, ho =>
    simp only [List.getElem?_toArray, List.getElem?_cons_zero, List.getElem?_cons_succ, Option.some.injEq] at ho
    subst ho
    simp [Region.binds] at hd
    have hbW := hJ.bel
    have a3 : act.tmps[3]? = some (.pointer (some ⟨w.heap.size, 0, none⟩)) := hJ.out 3 (by decide)
    have l3 : L 3 = true := by simp [hd]
    have v3 : act.tmps[8]? = some (.bool true) := hJ.val l3 rfl (fun u h => h)
    clear hJ hd
    go_simp
    exact hK3 _ _ (Below.refl _ _) rfl
   | 6, ho =>
    simp only [List.getElem?_toArray, List.getElem?_cons_zero, List.getElem?_cons_succ, Option.some.injEq] at ho
    subst ho
    simp [Region.binds] at hd
    have hbW := hJ.bel
    have l3 : L 3 = true := by simp [hd]
    have v3 : act.tmps[8]? = some (.bool true) := hJ.val l3 rfl (fun u h => h)
    have l5 : L 5 = true := by simp [hd]
    have v5 : act.tmps[10]? = some (.pointer (some ⟨w.heap.size, 0, none⟩)) := hJ.val l5 rfl (fun u h => h)
    clear hJ hd
    have bxW := HX.out W hbW
    have x0 := cell_of_row _ _ 0 _ _ _ bxW
    have x1 := cell_of_row _ _ 1 _ _ _ bxW
    have x2 := cell_of_row _ _ 2 _ _ _ bxW
    have x3 := cell_of_row _ _ 3 _ _ _ bxW
    have x4 := cell_of_row _ _ 4 _ _ _ bxW
    have x5 := cell_of_row _ _ 5 _ _ _ bxW
    clear bxW
    go_simp
    exact hK3 _ _ (Below.refl _ _) rfl
   | 7, ho =>
    simp only [List.getElem?_toArray, List.getElem?_cons_zero, List.getElem?_cons_succ, Option.some.injEq] at ho
    subst ho
    simp [Region.binds] at hd
    have hbW := hJ.bel
    have a3 : act.tmps[3]? = some (.pointer (some ⟨w.heap.size, 0, none⟩)) := hJ.out 3 (by decide)
    have l3 : L 3 = true := by simp [hd]
    have v3 : act.tmps[8]? = some (.bool true) := hJ.val l3 rfl (fun u h => h)
    clear hJ hd
    go_simp
    exact hK3 _ _ (Below.refl _ _) rfl
   | 8, ho =>
    simp only [List.getElem?_toArray, List.getElem?_cons_zero, List.getElem?_cons_succ, Option.some.injEq] at ho
    subst ho
    simp [Region.binds] at hd
    have hbW := hJ.bel
    have l3 : L 3 = true := by simp [hd]
    have v3 : act.tmps[8]? = some (.bool true) := hJ.val l3 rfl (fun u h => h)
    have l7 : L 7 = true := by simp [hd]
    have v7 : act.tmps[12]? = some (.pointer (some ⟨w.heap.size, 4, none⟩)) := hJ.val l7 rfl (fun u h => h)
    clear hJ hd
    have bxW := HX.out W hbW
    have x0 := cell_of_row _ _ 0 _ _ _ bxW
    have x1 := cell_of_row _ _ 1 _ _ _ bxW
    have x2 := cell_of_row _ _ 2 _ _ _ bxW
    have x3 := cell_of_row _ _ 3 _ _ _ bxW
    have x4 := cell_of_row _ _ 4 _ _ _ bxW
    have x5 := cell_of_row _ _ 5 _ _ _ bxW
    clear bxW
    go_simp
    exact hK3 _ _ (Below.refl _ _) rfl
   | 9, ho =>
    simp only [List.getElem?_toArray, List.getElem?_cons_zero, List.getElem?_cons_succ, Option.some.injEq] at ho
    subst ho
    simp [Region.binds] at hd
    have hbW := hJ.bel
    have l3 : L 3 = true := by simp [hd]
    have v3 : act.tmps[8]? = some (.bool true) := hJ.val l3 rfl (fun u h => h)
    have l6 : L 6 = true := by simp [hd]
    have v6 : act.tmps[11]? = some (.int .i64 g.roots) := hJ.val l6 rfl (fun u h => h)
    have l8 : L 8 = true := by simp [hd]
    have v8 : act.tmps[13]? = some (.slice AO g.outer.length cO) := hJ.val l8 rfl (fun u h => h)
    clear hJ hd
    have HBW := Lib.hid hbW
    clear hbW
    go_simp
    go_at_call 95
    refine (HID.out HC0.out W (HB0.out.trans (HBW.out.mono HB0.out.size))).mono ?_
    rintro e W' ⟨X, rfl, hg, hr, hb⟩
    go_simp
    exact hK3 _ _ hb ⟨X, rfl, hg, hr.rgr (by rw [hg]; exact idN_small ((good_iff sig g).1 HC0.out) HSM.out)⟩
   | 10, ho =>
    simp only [List.getElem?_toArray, List.getElem?_cons_zero, List.getElem?_cons_succ, Option.some.injEq] at ho
    subst ho
    simp [Region.binds] at hd
    have hbW := hJ.bel
    have l3 : L 3 = true := by simp [hd]
    have v3 : act.tmps[8]? = some (.bool true) := hJ.val l3 rfl (fun u h => h)
    have l4 : L 4 = true := by simp [hd]
    have v4 : act.tmps[9]? = some (.agg #[.int .i64 g.roots, .slice AN g.nodes.length cN, .slice AS g.sites.length cS, .int .i64 g.edges, .slice AO g.outer.length cO, .slice AI g.inner.length cI]) := hJ.val l4 rfl (fun u h => h)
    have l9 : L 9 = true := by simp [hd]
    obtain ⟨u9, v9, X, rfl, hr9⟩ := hJ.has 9 14 l9 rfl
    clear hJ hd
    have HBW := Lib.hid hbW
    clear hbW
    go_simp
    go_at_call 174
    refine (l2Same_any g X.g _ _ _ _ X.nv X.sv X.ov X.iv W HSM.out (by rw [hr9.1]; exact idN_small ((good_iff sig g).1 HC0.out) HSM.out) (by rw [hr9.1]; rfl) (HG.out W (HB0.out.trans (HBW.out.mono HB0.out.size))) hr9.2).mono ?_
    rintro e W' ⟨rfl, hb⟩
    go_simp
    exact hK3 _ _ hb (by first | rfl | (rw [hr9.1]; done) | (rw [hr9.1]; rfl))
   | 11, ho =>
    simp only [List.getElem?_toArray, List.getElem?_cons_zero, List.getElem?_cons_succ, Option.some.injEq] at ho
    subst ho
    simp [Region.binds] at hd
    have hbW := hJ.bel
    have l3 : L 3 = true := by simp [hd]
    have v3 : act.tmps[8]? = some (.bool true) := hJ.val l3 rfl (fun u h => h)
    have l10 : L 10 = true := by simp [hd]
    have v10 : act.tmps[15]? = some (.bool (eqI g (idN g))) := hJ.val l10 rfl (fun u h => h)
    clear hJ hd
    go_simp
    exact hK3 _ _ (Below.refl _ _) (by rw [HPB.out]; first | done | rfl)
   | 12, ho =>
    simp only [List.getElem?_toArray, List.getElem?_cons_zero, List.getElem?_cons_succ, Option.some.injEq] at ho
    subst ho
    simp [Region.binds] at hd
    have hbW := hJ.bel
    have l11 : L 11 = true := by simp [hd]
    have v11 : act.tmps[16]? = some (.bool (identR sig g)) := hJ.val l11 rfl (fun u h => h)
    clear hJ hd
    go_simp
    exact hK3 _ _ (Below.refl _ _) rfl
   | q + 13, ho => simp at ho
  case fin =>
   intro V W hbW hV
   have v0 : V 0 = .slice AG sig.length cG := hV 0 5 rfl
   have v1 : V 1 = .agg #[.int .i64 g.roots, .slice AN g.nodes.length cN, .slice AS g.sites.length cS, .int .i64 g.edges, .slice AO g.outer.length cO, .slice AI g.inner.length cI] := hV 1 6 rfl
   have v2 : V 2 = .bool true := hV 2 7 rfl
   have v3 : V 3 = .bool true := hV 3 8 rfl
   have v4 : V 4 = .agg #[.int .i64 g.roots, .slice AN g.nodes.length cN, .slice AS g.sites.length cS, .int .i64 g.edges, .slice AO g.outer.length cO, .slice AI g.inner.length cI] := hV 4 9 rfl
   have v5 : V 5 = .pointer (some ⟨w.heap.size, 0, none⟩) := hV 5 10 rfl
   have v6 : V 6 = .int .i64 g.roots := hV 6 11 rfl
   have v7 : V 7 = .pointer (some ⟨w.heap.size, 4, none⟩) := hV 7 12 rfl
   have v8 : V 8 = .slice AO g.outer.length cO := hV 8 13 rfl
   obtain ⟨X9, v9, hr9⟩ : ∃ X : BX, V 9 = .agg X.cells ∧ (X.g = idN g ∧ RGr W X.nv X.sv X.ov X.iv X.g) := hV 9 14 rfl
   have v10 : V 10 = .bool (eqI g (idN g)) := hV 10 15 rfl
   have v11 : V 11 = .bool (identR sig g) := hV 11 16 rfl
   have v12 : V 12 = .bool (identR sig g) := hV 12 4 rfl
   clear hV
   simp only [layV, List.setIfInBounds_toArray, List.set_cons_zero, List.set_cons_succ, v0, v1, v2, v3, v4, v5, v6, v7, v8, v9, v10, v11, v12]
   clear v0 v1 v2 v3 v4 v5 v6 v7 v8 v9 v10 v11 v12
   have HZ := Lib.hid (HB0.out.trans (hbW.mono HB0.out.size))
   clear hbW
   go_wp2_with fail
   go_ret
   exact ⟨rfl, HZ.out⟩

end Go.Proofs.YtijkdpdmclkmlaaGreatDoor
