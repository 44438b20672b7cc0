/- Composition of the program: composed, fits, valid, ComposeBigraphs: walked. -/
import Derived.Test.YtijkdpdmclkmlaaGreatDoorProg
import Derived.Test.YtijkdpdmclkmlaaGreatDoorJ0
import Derived.Test.YtijkdpdmclkmlaaGreatDoorJ29
import Derived.Test.YtijkdpdmclkmlaaGreatDoorJ9
import Derived.Test.YtijkdpdmclkmlaaGreatDoorJ8
import Derived.Test.YtijkdpdmclkmlaaGreatDoorJ16
import Derived.Test.YtijkdpdmclkmlaaGreatDoorJ14
import Derived.Test.YtijkdpdmclkmlaaGreatDoorJ7
import Derived.Test.YtijkdpdmclkmlaaGreatDoorJ1
import Derived.BigQuiet
import Derived.Test.YtijkdpdmclkmlaaGreatDoorJ21
set_option linter.unusedSimpArgs false
set_option linter.unusedVariables false
set_option maxRecDepth 100000
set_option maxHeartbeats 16000000
namespace Go.Proofs.YtijkdpdmclkmlaaGreatDoor
open Go.RowKit
def fitsB (a b : Gr) : Bool := ((a.sites.length : Int) == b.roots) && decide (innerN a = b.outer)
theorem fits_iff (a b : Gr) : fitsB a b = true ↔ FitsP a b := by
 unfold fitsB FitsP
 rw [Bool.and_eq_true, beq_iff_eq, decide_eq_true_eq]
theorem fits_any (a b : Gr) (nva sva ova iva nvb svb ovb ivb : Value) (w : World) (hsa : SmallG a) (hsb : SmallG b) (hGa : RGr w nva sva ova iva a) (hGb : RGr w nvb svb ovb ivb b) :
  Calls Tryz.prog 109 #[.agg #[.int .i64 a.roots, nva, sva, .int .i64 a.edges, ova, iva], .agg #[.int .i64 b.roots, nvb, svb, .int .i64 b.edges, ovb, ivb]] w fun e w' => e = .returned (.bool (fitsB a b)) ∧ Below w.heap.size w w' := by
 have HGA := Lib.hid (show ∀ W, Below w.heap.size w W → RGr W nva sva ova iva a from fun W hb => hGa.below hb)
 have HGB := Lib.hid (show ∀ W, Below w.heap.size w W → RGr W nvb svb ovb ivb b from fun W hb => hGb.below hb)
 have HSA := Lib.hid hsa
 have HSB := Lib.hid hsb
 obtain ⟨ANa, cNa, ASa, cSa, AOa, cOa, AIa, cIa, rfl, rfl, rfl, rfl⟩ := hGa.form
 obtain ⟨ANb, cNb, ASb, cSb, AOb, cOb, AIb, cIb, rfl, rfl, rfl, rfl⟩ := hGb.form
 have hal := hsa.sites
 have hil := hsa.inner
 have hol := hsb.outer
 obtain ⟨w0, hw0, hb0, hs0, bxa0, bxb0⟩ := laid2 w (.cells #[.int .i64 a.roots, .slice ANa a.nodes.length cNa, .slice ASa a.sites.length cSa, .int .i64 a.edges, .slice AOa a.outer.length cOa, .slice AIa a.inner.length cIa] 31) (.cells #[.int .i64 b.roots, .slice ANb b.nodes.length cNb, .slice ASb b.sites.length cSb, .int .i64 b.edges, .slice AOb b.outer.length cOb, .slice AIb b.inner.length cIb] 31)
 have HXA := Lib.hid (keepB bxa0)
 have HXB := Lib.hid (keepB bxb0)
 have HB0 := Lib.hid hb0
 have HW0 := Lib.hid hw0
 have HPT := Lib.hid (show fitsB a b = (((a.sites.length : Int) == b.roots) && decide (innerN a = b.outer)) from rfl)
 have hil2 : (innerN a).length = a.inner.length := by unfold innerN; rw [List.length_map]
 have HIL := Lib.hid hil2
 clear hGa hGb hsa hsb hb0 hs0 bxa0 bxb0 hw0 hil2
 cases hc : ((a.sites.length : Int) == b.roots)
 ·have HE := Lib.hid (show fitsB a b = false from by rw [HPT.out, hc]; rfl)
  go_enter Tryz.func109, Tryz.ntmps109
  go_wp2_with (rw [← HW0.out])
  refine wp_region_vals (by kernel_rfl) [some 5, some 6, some 7, some 8, some 9, some 10, some 11, some 12, some 13, some 14, some 15, some 16, some 17, some 4] (fun q v W => match q with | 0 => v = .pointer (some ⟨w.heap.size, 2, none⟩) | 1 => v = .slice ASa a.sites.length cSa | 2 => v = .int .i64 (a.sites.length : Int) | 3 => v = .pointer (some ⟨w.heap.size + 1, 0, none⟩) | 4 => v = .int .i64 b.roots | 5 => v = .bool false | 6 => v = .bool false | 7 => v = undef | 8 => v = undef | 9 => v = undef | 10 => v = undef | 11 => v = undef | 12 => v = .bool false | 13 => v = .bool false | _ => True) (by kernel_rfl) (by kernel_rfl) ?m1o ?s1t ?f1i
  case m1o =>
   intro q v W W' hb h
   match q, h with
   | 0, h | 1, h | 2, h | 3, h | 4, h | 5, h | 6, h | 7, h | 8, h | 9, h | 10, h | 11, h | 12, h | 13, h => exact h
   | q + 14, _ => trivial
  case s1t =>
   intro L act W q oo hJ ho hd K3 hK3
   match q, ho with
   | 0, ho =>
    cases ho
    have hbW := hJ.bel
    have a2 : act.tmps[2]? = some _ := hJ.out 2 (by decide)
    clear hJ hd
    go_simp
    exact hK3 _ _ (Below.refl _ _) rfl
   | 1, ho =>
    cases ho
    simp [Region.binds] at hd
    have hbW := hJ.bel
    have v0 := hJ.val (by simp [hd] : L 0 = true) rfl fun _ h => h
    clear hJ hd
    have bxa := HXA.out W hbW
    have x2 : World.cell? W ⟨w.heap.size, 2, none⟩ = some (.slice ASa a.sites.length cSa) := cell_of_row _ _ 2 _ _ _ bxa
    clear bxa
    go_simp
    exact hK3 _ _ (Below.refl _ _) rfl
   | 2, ho =>
    cases ho
    simp [Region.binds] at hd
    have hbW := hJ.bel
    have v1 := hJ.val (by simp [hd] : L 1 = true) rfl fun _ h => h
    clear hJ hd
    go_simp
    exact hK3 _ _ (Below.refl _ _) rfl
   | 3, ho =>
    cases ho
    have hbW := hJ.bel
    have a3 : act.tmps[3]? = some _ := hJ.out 3 (by decide)
    clear hJ hd
    go_simp
    exact hK3 _ _ (Below.refl _ _) rfl
   | 4, ho =>
    cases ho
    simp [Region.binds] at hd
    have hbW := hJ.bel
    have v3 := hJ.val (by simp [hd] : L 3 = true) rfl fun _ h => h
    clear hJ hd
    have bxb := HXB.out W hbW
    have x0 : World.cell? W ⟨w.heap.size + 1, 0, none⟩ = some (.int .i64 b.roots) := cell_of_row _ _ 0 _ _ _ bxb
    clear bxb
    go_simp
    exact hK3 _ _ (Below.refl _ _) rfl
   | 5, ho =>
    cases ho
    simp [Region.binds] at hd
    have hbW := hJ.bel
    have v2 := hJ.val (by simp [hd] : L 2 = true) rfl fun _ h => h
    have v4 := hJ.val (by simp [hd] : L 4 = true) rfl fun _ h => h
    clear hJ hd
    have hcc := hc
    go_simp
    exact hK3 _ _ (Below.refl _ _) rfl
   | 6, ho =>
    cases ho
    simp [Region.binds] at hd
    have hbW := hJ.bel
    have v5 := hJ.val (by simp [hd] : L 5 = true) rfl fun _ h => h
    clear hJ hd
    go_simp
    exact hK3 _ _ (Below.refl _ _) rfl
   | 7, ho | 8, ho | 9, ho | 10, ho | 11, ho =>
    cases ho
    simp [Region.binds] at hd
    have hbW := hJ.bel
    have v6 := hJ.val (by simp [hd] : L 6 = true) rfl fun _ h => h
    clear hJ hd
    go_simp
    exact hK3 _ _ (Below.refl _ _) rfl
   | 12, ho =>
    cases ho
    simp [Region.binds] at hd
    have hbW := hJ.bel
    have v6 := hJ.val (by simp [hd] : L 6 = true) rfl fun _ h => h
    have v11 := hJ.val (by simp [hd] : L 11 = true) rfl fun _ h => h
    clear hJ hd
    go_simp
    exact hK3 _ _ (Below.refl _ _) rfl
   | 13, ho =>
    cases ho
    simp [Region.binds] at hd
    have hbW := hJ.bel
    have v12 := hJ.val (by simp [hd] : L 12 = true) rfl fun _ h => h
    clear hJ hd
    go_simp
    exact hK3 _ _ (Below.refl _ _) rfl
   | q + 14, ho => simp at ho
  intro V W hbW hV
  have v0 : V 0 = _ := hV 0 5 rfl
  have v1 : V 1 = _ := hV 1 6 rfl
  have v2 : V 2 = _ := hV 2 7 rfl
  have v3 : V 3 = _ := hV 3 8 rfl
  have v4 : V 4 = _ := hV 4 9 rfl
  have v5 : V 5 = _ := hV 5 10 rfl
  have v6 : V 6 = _ := hV 6 11 rfl
  have v7 : V 7 = _ := hV 7 12 rfl
  have v8 : V 8 = _ := hV 8 13 rfl
  have v9 : V 9 = _ := hV 9 14 rfl
  have v10 : V 10 = _ := hV 10 15 rfl
  have v11 : V 11 = _ := hV 11 16 rfl
  have v12 : V 12 = _ := hV 12 17 rfl
  have v13 : V 13 = _ := hV 13 4 rfl
  clear hV
  simp only [layV, List.setIfInBounds_toArray, List.set_cons_zero, List.set_cons_succ, v0, v1, v2, v3, v4, v5, v6, v7, v8, v9, v10, v11, v12, v13]
  clear v0 v1 v2 v3 v4 v5 v6 v7 v8 v9 v10 v11 v12 v13
  have HBF := Lib.hid (HB0.out.trans (hbW.mono HB0.out.size))
  clear hbW
  go_wp2_with fail
  go_ret
  exact ⟨by rw [HE.out]; rfl, HBF.out⟩
 obtain ⟨eqv, hq⟩ : ∃ eqv, eqv = decide (innerN a = b.outer) := ⟨_, rfl⟩
 have HQ := Lib.hid hq
 have HE := Lib.hid (show fitsB a b = eqv from by rw [HPT.out, hc, hq]; rfl)
 clear hq
 go_enter Tryz.func109, Tryz.ntmps109
 go_wp2_with (rw [← HW0.out])
 refine wp_region_vals (by kernel_rfl) [some 5, some 6, some 7, some 8, some 9, some 10, some 11, some 12, some 13, some 14, some 15, some 16, some 17, some 4] (fun q v W => match q with | 0 => v = .pointer (some ⟨w.heap.size, 2, none⟩) | 1 => v = .slice ASa a.sites.length cSa | 2 => v = .int .i64 (a.sites.length : Int) | 3 => v = .pointer (some ⟨w.heap.size + 1, 0, none⟩) | 4 => v = .int .i64 b.roots | 5 => v = .bool true | 6 => v = .bool true | 7 => v = .agg #[.int .i64 a.roots, .slice ANa a.nodes.length cNa, .slice ASa a.sites.length cSa, .int .i64 a.edges, .slice AOa a.outer.length cOa, .slice AIa a.inner.length cIa] | 8 => ∃ A c, v = .slice A a.inner.length c ∧ W.ownsRow w0.heap.size 9 1 (.slice A a.inner.length c) a.inner.length (strs (innerN a)) | 9 => v = .pointer (some ⟨w.heap.size + 1, 4, none⟩) | 10 => v = .slice AOb b.outer.length cOb | 11 => v = .bool eqv | 12 => v = .bool eqv | 13 => v = .bool eqv | _ => True) (by kernel_rfl) (by kernel_rfl) ?m2o ?s2t ?f2i
 case m2o =>
  intro q v W W' hb h
  match q, h with
  | 0, h | 1, h | 2, h | 3, h | 4, h | 5, h | 6, h | 7, h | 9, h | 10, h | 11, h | 12, h | 13, h => exact h
  | 8, h => exact (by obtain ⟨A, c, e, h1⟩ := h; exact ⟨A, c, e, owns_below h1 hb (Nat.le_refl _)⟩)
  | q + 14, _ => trivial
 case s2t =>
  intro L act W q oo hJ ho hd K3 hK3
  match q, ho with
  | 0, ho =>
   cases ho
   have hbW := hJ.bel
   have a2 : act.tmps[2]? = some _ := hJ.out 2 (by decide)
   clear hJ hd
   go_simp
   exact hK3 _ _ (Below.refl _ _) rfl
  | 1, ho =>
   cases ho
   simp [Region.binds] at hd
   have hbW := hJ.bel
   have v0 := hJ.val (by simp [hd] : L 0 = true) rfl fun _ h => h
   clear hJ hd
   have bxa := HXA.out W hbW
   have x2 : World.cell? W ⟨w.heap.size, 2, none⟩ = some (.slice ASa a.sites.length cSa) := cell_of_row _ _ 2 _ _ _ bxa
   clear bxa
   go_simp
   exact hK3 _ _ (Below.refl _ _) rfl
  | 2, ho =>
   cases ho
   simp [Region.binds] at hd
   have hbW := hJ.bel
   have v1 := hJ.val (by simp [hd] : L 1 = true) rfl fun _ h => h
   clear hJ hd
   go_simp
   exact hK3 _ _ (Below.refl _ _) rfl
  | 3, ho =>
   cases ho
   have hbW := hJ.bel
   have a3 : act.tmps[3]? = some _ := hJ.out 3 (by decide)
   clear hJ hd
   go_simp
   exact hK3 _ _ (Below.refl _ _) rfl
  | 4, ho =>
   cases ho
   simp [Region.binds] at hd
   have hbW := hJ.bel
   have v3 := hJ.val (by simp [hd] : L 3 = true) rfl fun _ h => h
   clear hJ hd
   have bxb := HXB.out W hbW
   have x0 : World.cell? W ⟨w.heap.size + 1, 0, none⟩ = some (.int .i64 b.roots) := cell_of_row _ _ 0 _ _ _ bxb
   clear bxb
   go_simp
   exact hK3 _ _ (Below.refl _ _) rfl
  | 5, ho =>
   cases ho
   simp [Region.binds] at hd
   have hbW := hJ.bel
   have v2 := hJ.val (by simp [hd] : L 2 = true) rfl fun _ h => h
   have v4 := hJ.val (by simp [hd] : L 4 = true) rfl fun _ h => h
   clear hJ hd
   have hcc := hc
   go_simp
   exact hK3 _ _ (Below.refl _ _) rfl
  | 6, ho =>
   cases ho
   simp [Region.binds] at hd
   have hbW := hJ.bel
   have v5 := hJ.val (by simp [hd] : L 5 = true) rfl fun _ h => h
   clear hJ hd
   go_simp
   exact hK3 _ _ (Below.refl _ _) rfl
  | 7, ho =>
   cases ho
   simp [Region.binds] at hd
   have hbW := hJ.bel
   have a2 : act.tmps[2]? = some _ := hJ.out 2 (by decide)
   have v6 := hJ.val (by simp [hd] : L 6 = true) rfl fun _ h => h
   clear hJ hd
   obtain ⟨x0, x1, x2, x3, x4, x5⟩ := row6 (HXA.out W hbW)
   go_simp
   exact hK3 _ _ (Below.refl _ _) rfl
  | 8, ho =>
   cases ho
   simp [Region.binds] at hd
   have hbW := hJ.bel
   have v6 := hJ.val (by simp [hd] : L 6 = true) rfl fun _ h => h
   have v7 := hJ.val (by simp [hd] : L 7 = true) rfl fun _ h => h
   clear hJ hd
   have hsz := hbW.size
   have HSZ := Lib.hid hsz
   clear hsz
   have HBW := Lib.hid hbW
   clear hbW
   go_simp
   go_at_call 141
   refine (innerNames_any a _ _ _ _ W HSA.out (HGA.out W (HB0.out.trans (HBW.out.mono HB0.out.size)))).mono ?_
   rintro e W' ⟨u, rfl, hu, hb⟩
   obtain ⟨Au, cu, rfl, hu⟩ := owns_form hu
   go_simp
   exact hK3 _ _ hb ⟨_, _, rfl, owns_mono hu HSZ.out⟩
  | 9, ho =>
   cases ho
   simp [Region.binds] at hd
   have hbW := hJ.bel
   have a3 : act.tmps[3]? = some _ := hJ.out 3 (by decide)
   have v6 := hJ.val (by simp [hd] : L 6 = true) rfl fun _ h => h
   clear hJ hd
   go_simp
   exact hK3 _ _ (Below.refl _ _) rfl
  | 10, ho =>
   cases ho
   simp [Region.binds] at hd
   have hbW := hJ.bel
   have v6 := hJ.val (by simp [hd] : L 6 = true) rfl fun _ h => h
   have v9 := hJ.val (by simp [hd] : L 9 = true) rfl fun _ h => h
   clear hJ hd
   have bxb := HXB.out W hbW
   have x4 : World.cell? W ⟨w.heap.size + 1, 4, none⟩ = some (.slice AOb b.outer.length cOb) := cell_of_row _ _ 4 _ _ _ bxb
   clear bxb
   go_simp
   exact hK3 _ _ (Below.refl _ _) rfl
  | 11, ho =>
   cases ho
   simp [Region.binds] at hd
   have hbW := hJ.bel
   have v6 := hJ.val (by simp [hd] : L 6 = true) rfl fun _ h => h
   have l8 : L 8 = true := by simp [hd]
   obtain ⟨u8, v8, A, c, rfl, hr8⟩ := hJ.has 8 13 l8 rfl
   have v10 := hJ.val (by simp [hd] : L 10 = true) rfl fun _ h => h
   clear hJ hd
   have HCO := Lib.hid (show Cells W A (strs (innerN a)) from Cells.of_owns hr8)
   obtain ⟨A9, c9, e9, hco⟩ := (HGB.out W (HB0.out.trans (hbW.mono HB0.out.size))).o
   cases e9
   have HCB := Lib.hid hco
   clear hco hr8
   have HBW := Lib.hid hbW
   clear hbW
   go_simp
   go_at_call 148
   refine ((show Calls Tryz.prog 148 #[.slice A a.inner.length c, .slice AOb b.outer.length cOb] W (fun e w' => e = .returned (.bool eqv) ∧ Below W.heap.size W w') from by have h := equalSG_any A AOb c cOb (innerN a) b.outer W (by rw [HIL.out]; omega) (by omega) HCO.out HCB.out; rw [HIL.out, ← HQ.out] at h; exact h)).mono ?_
   rintro e W' ⟨rfl, hb⟩
   go_simp
   exact hK3 _ _ hb rfl
  | 12, ho =>
   cases ho
   simp [Region.binds] at hd
   have hbW := hJ.bel
   have v6 := hJ.val (by simp [hd] : L 6 = true) rfl fun _ h => h
   have v11 := hJ.val (by simp [hd] : L 11 = true) rfl fun _ h => h
   clear hJ hd
   go_simp
   exact hK3 _ _ (Below.refl _ _) rfl
  | 13, ho =>
   cases ho
   simp [Region.binds] at hd
   have hbW := hJ.bel
   have v12 := hJ.val (by simp [hd] : L 12 = true) rfl fun _ h => h
   clear hJ hd
   go_simp
   exact hK3 _ _ (Below.refl _ _) rfl
  | q + 14, ho => simp at ho
 intro V W hbW hV
 have v0 : V 0 = _ := hV 0 5 rfl
 have v1 : V 1 = _ := hV 1 6 rfl
 have v2 : V 2 = _ := hV 2 7 rfl
 have v3 : V 3 = _ := hV 3 8 rfl
 have v4 : V 4 = _ := hV 4 9 rfl
 have v5 : V 5 = _ := hV 5 10 rfl
 have v6 : V 6 = _ := hV 6 11 rfl
 have v7 : V 7 = _ := hV 7 12 rfl
 obtain ⟨A8, c8, v8, hr8⟩ : ∃ A c, V 8 = .slice A a.inner.length c ∧ W.ownsRow w0.heap.size 9 1 (.slice A a.inner.length c) a.inner.length (strs (innerN a)) := hV 8 13 rfl
 have v9 : V 9 = _ := hV 9 14 rfl
 have v10 : V 10 = _ := hV 10 15 rfl
 have v11 : V 11 = _ := hV 11 16 rfl
 have v12 : V 12 = _ := hV 12 17 rfl
 have v13 : V 13 = _ := hV 13 4 rfl
 clear hV
 simp only [layV, List.setIfInBounds_toArray, List.set_cons_zero, List.set_cons_succ, v0, v1, v2, v3, v4, v5, v6, v7, v8, v9, v10, v11, v12, v13]
 clear v0 v1 v2 v3 v4 v5 v6 v7 v8 v9 v10 v11 v12 v13
 have HBF := Lib.hid (HB0.out.trans (hbW.mono HB0.out.size))
 clear hbW
 go_wp2_with fail
 go_ret
 exact ⟨by rw [HE.out]; rfl, HBF.out⟩

theorem valid_any (sig : List Ct) (g : Gr) (nv sv ov iv gv : Value) (w : World) (hs : SmallG g) (hz : SmallS sig) (hcap : CapOk gv) (hS : RSl RCt 3 w gv sig) (hG : RGr w nv sv ov iv g) :
  Calls Tryz.prog 110 #[gv, .agg #[.int .i64 g.roots, nv, sv, .int .i64 g.edges, ov, iv]] w fun e w' => ∃ X : BX, e = .returned (.tuple #[.agg X.cells, .bool (goodG sig g)]) ∧ X.g = (if goodG sig g then g else zeroG) ∧ RG w w' X := by
 have HG := Lib.hid (show ∀ W, Below w.heap.size w W → RGr W nv sv ov iv g from fun W hb => hG.below hb)
 have HS := Lib.hid (show ∀ W, Below w.heap.size w W → RSl RCt 3 W gv sig from fun W hb => hS.below RCt_keep hb)
 obtain ⟨AN, cN, AS, cS, AO, cO, AI, cI, rfl, rfl, rfl, rfl⟩ := hG.form
 obtain ⟨AG, cG, rfl, _⟩ := hS.form
 obtain ⟨w0, hw0, hb0, hs0, bx0, hR0⟩ := laid2 w (.cells #[.int .i64 g.roots, .slice AN g.nodes.length cN, .slice AS g.sites.length cS, .int .i64 g.edges, .slice AO g.outer.length cO, .slice AI g.inner.length cI] 31) (.cells #[.int .i64 0, .slice none 0 0, .slice none 0 0, .int .i64 0, .slice none 0 0, .slice none 0 0] 31)
 have HX := Lib.hid (keepB bx0)
 have HRR := Lib.hid (keepB hR0)
 have HB0 := Lib.hid hb0
 have HR0 := Lib.hid hR0
 have HW0 := Lib.hid hw0
 have HS0 := Lib.hid hs0
 have HSM := Lib.hid hs
 have HZS := Lib.hid hz
 have HCP := Lib.hid hcap
 obtain ⟨x0, x1, x2, x3, x4, x5⟩ := row6 bx0
 rw [hw0] at x0 x1 x2 x3 x4 x5
 have HP0 := Lib.hid (isBigraph_any sig g _ _ _ _ _ w0 hs hz hcap (HS.out w0 hb0) (HG.out w0 hb0))
 clear hs hG hb0 bx0 hR0 hw0 hS hz hs0 hcap
 cases hp : goodG sig g
 ·rw [hp] at HP0
  go_enter Tryz.func110, Tryz.ntmps110
  go_wp2_with fail
  rw [← HW0.out]
  (with_reducible refine HP0.out.mono ?_)
  rintro e w1 ⟨rfl, hb⟩
  have HB1 := Lib.hid hb
  clear x0 x1 x2 x3 x4 x5 HP0 hb
  obtain ⟨z0, z1, z2, z3, z4, z5, f0, f1, f2, f3, f4, f5⟩ := row6f (HRR.out w1 HB1.out)
  go_wp2_with fail
  have hsz0 := HS0.out
  have hf := fin6R (X := zeroX) (w.heap.size + 1) HB0.out (by omega) HR0.out (Kept.of_below HB1.out (fun q => w.heap.size + 1 + 1 ≤ q)) (zero_ob _ _)
  (try simp only [Exit.inBlock, Exit.then])
  refine bodyPost_ret (rcell2 rfl _ _ (w.heap.size + 1) _ _ _ _ rfl hf.1 Tryz.underlying31 rfl (by kernel_rfl)) rfl ?_
  exact ⟨_, rfl, rfl, hf.2⟩
 rw [hp] at HP0
 have HCA := Lib.hid (show ∀ W, Below w0.heap.size w0 W → _ from fun W hb => ownBigraph_any g _ _ _ _ W HSM.out (HG.out W (HB0.out.trans (hb.mono HB0.out.size))))
 go_enter Tryz.func110, Tryz.ntmps110
 go_wp2_with fail
 rw [← HW0.out]
 (with_reducible refine HP0.out.mono ?_)
 rintro e w1 ⟨rfl, hb⟩
 have HB1 := Lib.hid hb
 have hxb := HX.out w1 hb
 clear x0 x1 x2 x3 x4 x5 HP0
 obtain ⟨x0, x1, x2, x3, x4, x5⟩ := row6 hxb
 have hc := HCA.out w1 hb
 have HCL := Lib.hid hc
 clear hb hxb hc HCA
 go_wp2_with fail
 (with_reducible refine HCL.out.mono ?_)
 rintro e w2 ⟨X, rfl, hXg, hr⟩
 obtain ⟨xr, xe, xnv, xsv, xov, xiv, xns, xls, xss, xos, xis⟩ := X
 obtain ⟨YN, dN, YS, dS, YO, dO, YI, dI, e1, e2, e3, e4⟩ := hr.ob.form
 dsimp only at e1 e2 e3 e4
 subst e1 e2 e3 e4
 have HXG := Lib.hid hXg
 have HB2 := Lib.hid (HB1.out.trans (hr.bel.mono HB1.out.size))
 have hsw := HB1.out.size
 have hs2 := hr.bel.size
 have HR := Lib.hid hr
 clear hXg hr HCL
 simp only [BX.cells]
 have hRW := HRR.out w2 HB2.out
 obtain ⟨z0, z1, z2, z3, z4, z5, f0, f1, f2, f3, f4, f5⟩ := row6f hRW
 clear hRW
 go_wp2_with fail
 have hsz0 := HS0.out
 have hf := fin6R (X := ⟨xr, xe, .slice YN xns.length dN, .slice YS xss.length dS, .slice YO xos.length dO, .slice YI xis.length dI, xns, xls, xss, xos, xis⟩) (w.heap.size + 1) HB0.out (by omega) HR0.out (Kept.of_below HB2.out (fun q => (w.heap.size + 1) + 1 ≤ q)) (HR.out.ob.mono (by omega))
 (try simp only [Exit.inBlock, Exit.then])
 refine bodyPost_ret (rcell2 rfl _ _ (w.heap.size + 1) _ _ _ _ rfl hf.1 Tryz.underlying31 rfl (by kernel_rfl)) rfl ?_
 exact ⟨_, rfl, HXG.out, hf.2⟩

theorem good_links {sig : List Ct} {g : Gr} (h : GoodP sig g) : (∀ x ∈ g.nodes, ∀ l ∈ x.2.2, LinkP g l) ∧ ∀ x ∈ g.inner, LinkP g x.2 := ⟨fun x hx l hl => by
 obtain ⟨i, hi, rfl⟩ := List.getElem_of_mem hx
 exact (h.nod i _ (List.getElem?_eq_getElem hi)).2.2.2 l hl, h.inr⟩
theorem good_pars {sig : List Ct} {g : Gr} (h : GoodP sig g) : (∀ x ∈ g.nodes, x.2.1 ≤ 1000000) ∧ ∀ p ∈ g.sites, p ≤ 1000000 := ⟨fun x hx => by
 obtain ⟨i, hi, rfl⟩ := List.getElem_of_mem hx
 have hu := (h.nod i _ (List.getElem?_eq_getElem hi)).2.1
 have := h.n8
 by_cases h0 : g.nodes[i].2.1 < 0
 ·omega
 ·have := (hu.2 (by omega)).1
  omega, fun p hp => by
 have hu := h.sit p hp
 have := h.n8
 by_cases h0 : p < 0
 ·omega
 have := (hu.2 (by omega)).1
 omega⟩
theorem comp_hole {sig : List Ct} {a b : Gr} (hb : GoodP sig b) (hf : FitsP a b) {p : Int} (hp : (∃ x ∈ b.nodes, x.2.1 = p) ∨ p ∈ b.sites) (hneg : p < 0) : 0 ≤ -1 - p ∧ -1 - p < a.sites.length := by
 have hr : -b.roots ≤ p := by
  rcases hp with ⟨x, hx, rfl⟩ | hp
  ·obtain ⟨i, hi, rfl⟩ := List.getElem_of_mem hx
   exact (hb.nod i _ (List.getElem?_eq_getElem hi)).2.1.1 hneg
  exact (hb.sit p hp).1 hneg
 have := hf.1
 omega
theorem comp_name {sig : List Ct} {a b : Gr} (hb : GoodP sig b) (hf : FitsP a b) {l : Int} (hl : LinkP b l) (hne : (endG b l).2 ≠ bE) : ∃ k, k < a.inner.length ∧ atS (innerN a) (endG b l).2 = (k : Int) := by
 have h1 := hl.1
 have h2 := hl.2
 have hm : (endG b l).2 ∈ innerN a := by
  unfold endG at hne ⊢
  by_cases hlt : l < b.edges
  ·rw [if_pos hlt] at hne; exact absurd rfl hne
  rw [if_neg hlt, hf.2]
  have h3 : (l - b.edges).toNat < b.outer.length := by omega
  show b.outer.getD (l - b.edges).toNat default ∈ b.outer
  simp [List.getD, h3]
 have h3 := atS_mem hm
 have h4 := atS_lt hm
 have h5 : (innerN a).length = a.inner.length := by unfold innerN; rw [List.length_map]
 exact ⟨(atS (innerN a) (endG b l).2).toNat, by omega, by omega⟩
theorem composed_any (sig : List Ct) (a b : Gr) (nva sva ova iva nvb svb ovb ivb : Value) (w : World) (hsa : SmallG a) (hsb : SmallG b) (ha : GoodP sig a) (hb : GoodP sig b) (hf : FitsP a b) (hGa : RGr w nva sva ova iva a) (hGb : RGr w nvb svb ovb ivb b) :
    Calls Tryz.prog 111 #[.agg #[.int .i64 a.roots, nva, sva, .int .i64 a.edges, ova, iva], .agg #[.int .i64 b.roots, nvb, svb, .int .i64 b.edges, ovb, ivb]] w fun e w' => ∃ X : BX, e = .returned (.agg X.cells) ∧ X.g = compG a b ∧ RG w w' X := by
  have HGA := Lib.hid (show ∀ W, Below w.heap.size w W → RGr W nva sva ova iva a from fun W hb => hGa.below hb)
  have HGB := Lib.hid (show ∀ W, Below w.heap.size w W → RGr W nvb svb ovb ivb b from fun W hb => hGb.below hb)
  have HSA := Lib.hid hsa
  have HSB := Lib.hid hsb
  obtain ⟨ANa, cNa, ASa, cSa, AOa, cOa, AIa, cIa, rfl, rfl, rfl, rfl⟩ := hGa.form
  obtain ⟨ANb, cNb, ASb, cSb, AOb, cOb, AIb, cIb, rfl, rfl, rfl, rfl⟩ := hGb.form
  have HGDA := Lib.hid ha
  have HGDB := Lib.hid hb
  have HFT := Lib.hid hf
  have hal := hsa.sites
  have hol := hsa.outer
  have hil := hsa.inner
  obtain ⟨w0, hw0, hb0, hs0, bxa0, bxb0, hR0⟩ := laid3 w (.cells #[.int .i64 a.roots, .slice ANa a.nodes.length cNa, .slice ASa a.sites.length cSa, .int .i64 a.edges, .slice AOa a.outer.length cOa, .slice AIa a.inner.length cIa] 31) (.cells #[.int .i64 b.roots, .slice ANb b.nodes.length cNb, .slice ASb b.sites.length cSb, .int .i64 b.edges, .slice AOb b.outer.length cOb, .slice AIb b.inner.length cIb] 31) (.cells #[.int .i64 0, .slice none 0 0, .slice none 0 0, .int .i64 0, .slice none 0 0, .slice none 0 0] 31)
  have HXA := Lib.hid (keepB bxa0)
  have HXB := Lib.hid (keepB bxb0)
  have HRR := Lib.hid (keepB hR0)
  have HB0 := Lib.hid hb0
  have HR0 := Lib.hid hR0
  have HS0 := Lib.hid hs0
  have HW0 := Lib.hid hw0
  have HIN := Lib.hid (innerNames_any a _ _ _ _ w0 hsa (HGA.out w0 hb0))
  have hil2 : (innerN a).length = a.inner.length := by unfold innerN; rw [List.length_map]
  have HIL := Lib.hid hil2
  obtain ⟨xa0, xa1, xa2, xa3, xa4, xa5⟩ := row6 bxa0
  rw [hw0] at xa0 xa1 xa2 xa3 xa4 xa5
  clear hGa hGb hsa hsb hb0 hs0 bxa0 bxb0 hR0 hw0 ha hb hf hil2
  go_enter Tryz.func111, Tryz.ntmps111
  go_wp2_with fail
  rw [← HW0.out]
  (with_reducible refine HIN.out.mono ?_)
  rintro e w1 ⟨r, rfl, hu, hb1⟩
  obtain ⟨An, cn, rfl, hu⟩ := owns_form hu
  obtain ⟨wN, hwN, hbN, -, hnb⟩ := laid1 w1 (.cells #[.slice An a.inner.length cn] 24)
  have hbn := hb1.trans (hbN.mono hb1.size)
  have HBN := Lib.hid hbn
  have HNB := Lib.hid (show ∀ W, Below wN.heap.size wN W → W.cell? ⟨w1.heap.size, 0, none⟩ = some (.slice An a.inner.length cn) from fun W hb => cell_of_row _ _ 0 _ _ _ ((hb.block _ (Array.getElem?_eq_some_iff.1 hnb).1).trans hnb))
  have HNC := Lib.hid (show ∀ W, Below wN.heap.size wN W → Cells W An (strs (innerN a)) from fun W hb => ((Cells.of_owns hu).below hbN).below hb)
  have HWN := Lib.hid hwN
  have hF1 : ∀ (args : Array Value) (w : World), (callFunc 190 args).run Tryz.prog w = .ok (.enter 190 args) w := fun args w => enter_of (P := Tryz.prog) (F := 190) (fn := Tryz.f190) (by kernel_rfl) (by kernel_rfl) (by kernel_rfl) args w
  have hF2 : ∀ (args : Array Value) (w : World), (callFunc 191 args).run Tryz.prog w = .ok (.enter 191 args) w := fun args w => enter_of (P := Tryz.prog) (F := 191) (fn := Tryz.f191) (by kernel_rfl) (by kernel_rfl) (by kernel_rfl) args w
  have hw0N := HB0.out.trans (hbn.mono HB0.out.size)
  have hcall := joined_any a b _ _ _ _ _ _ _ _ a.roots none 0 [] AOa cOa a.outer 190 #[.pointer (some ⟨w.heap.size, 0, none⟩)] (underA a) 191 #[.pointer (some ⟨w.heap.size, 0, none⟩), .pointer (some ⟨w1.heap.size, 0, none⟩)] (nameA a) wN HSA.out HSB.out hol (by simp)
    (good_links HGDA.out) (good_links HGDB.out) (good_pars HGDB.out) (HGA.out wN hw0N) (HGB.out wN hw0N) (by obtain ⟨A', c', e, h⟩ := (HGA.out wN hw0N).o; cases e; exact h) (fun j u hj => by simp at hj) hF1 hF2
    (fun p W hp hneg hb => composed1_any a w.heap.size ASa cSa p W (comp_hole HGDB.out HFT.out hp hneg) hal (cell_of_row _ _ 2 _ _ _ (HXA.out W (hbn.trans (hb.mono hbn.size)))) (by obtain ⟨A', c', e, h⟩ := (HGA.out W (hw0N.trans (hb.mono hw0N.size))).s; cases e; exact h))
    (fun l W hl hne hb => by
      obtain ⟨k, hk, hks⟩ := comp_name HGDB.out HFT.out hl hne
      exact composed2_any a _ _ _ _ w.heap.size w1.heap.size An cn (endG b l).2 k W HSA.out hk hks (wi_link HGDA.out hk) (fun W2 hb2 => HGA.out W2 ((hw0N.trans (hb.mono hw0N.size)).trans (hb2.mono (hw0N.trans (hb.mono hw0N.size)).size))) (fun W2 hb2 => HXA.out W2 ((hbn.trans (hb.mono hbn.size)).trans (hb2.mono (hbn.trans (hb.mono hbn.size)).size))) (fun W2 hb2 => HNB.out W2 (hb.trans (hb2.mono hb.size))) (fun W2 hb2 => HNC.out W2 (hb.trans (hb2.mono hb.size))))
  rw [List.length_nil] at hcall
  have HCL := Lib.hid hcall
  have hxa := HXA.out wN hbn
  have hxb := HXB.out wN hbn
  clear xa0 xa1 xa2 xa3 xa4 xa5 hu hb1 hwN hbN hnb hbn hF1 hF2 hw0N hcall HIN
  obtain ⟨xa0, xa1, xa2, xa3, xa4, xa5⟩ := row6 hxa
  obtain ⟨xb0, xb1, xb2, xb3, xb4, xb5⟩ := row6 hxb
  clear hxa hxb
  go_wp2_with (rw [← HWN.out])
  (with_reducible refine HCL.out.mono ?_)
  rintro e w2 ⟨X, rfl, hXg, hr⟩
  obtain ⟨xr, xe, xnv, xsv, xov, xiv, xns, xls, xss, xos, xis⟩ := X
  obtain ⟨YN, dN, YS, dS, YO, dO, YI, dI, e1, e2, e3, e4⟩ := hr.ob.form
  dsimp only at e1 e2 e3 e4
  subst e1 e2 e3 e4
  have HXG := Lib.hid hXg
  have HB2 := Lib.hid (HBN.out.trans (hr.bel.mono HBN.out.size))
  have hsw := HBN.out.size
  have hs2 := hr.bel.size
  have HR := Lib.hid hr
  clear hXg hr HCL
  simp only [BX.cells]
  have hRW := HRR.out w2 HB2.out
  obtain ⟨z0, z1, z2, z3, z4, z5, f0, f1, f2, f3, f4, f5⟩ := row6f hRW
  clear hRW
  go_wp2_with fail
  have hsz0 := HS0.out
  have hf := fin6R (X := ⟨xr, xe, .slice YN xns.length dN, .slice YS xss.length dS, .slice YO xos.length dO, .slice YI xis.length dI, xns, xls, xss, xos, xis⟩) (w.heap.size + 1 + 1) HB0.out (by omega) HR0.out (Kept.of_below HB2.out (fun q => (w.heap.size + 1 + 1) + 1 ≤ q)) (HR.out.ob.mono (by omega))
  (try simp only [Exit.inBlock, Exit.then])
  refine bodyPost_ret (results_cell_row rfl _ _ (w.heap.size + 1 + 1) _ _ _ _ rfl hf.1 Tryz.underlying31 rfl (by kernel_rfl)) rfl ?_
  exact ⟨_, rfl, (by have h := HXG.out; rw [sortS_same (names_asc HGDA.out.on)] at h; rw [h]; exact (both_comp HGDA.out HGDB.out HFT.out).1), hf.2⟩

/-- Whether two bigraphs can be composed. -/
def compR (sig : List Ct) (a b : Gr) : Bool := goodG sig a && goodG sig b && fitsB a b && goodG sig (compG a b)
theorem comp_small {sig : List Ct} {a b : Gr} (hsa : SmallG a) (hsb : SmallG b) (ha : GoodP sig a) (hb : GoodP sig b) : SmallG (compG a b) := by
 have hn1 := ha.n8
 have hn2 := hb.n8
 have he1 := ha.e
 have he2 := hb.e
 have hdn : ∀ p : Int, -9223372036854775808 ≤ p → -9223372036854775808 ≤ dnP a p := fun p hp => by
  unfold dnP
  split
  ·by_cases h : (-1 - p).toNat < a.sites.length
   ·rw [show a.sites.getD (-1 - p).toNat 0 = a.sites[(-1 - p).toNat] from by simp [List.getD, h]]
    exact hsa.sits _ (List.getElem_mem h)
   rw [show a.sites.getD (-1 - p).toNat 0 = 0 from by simp [List.getD, h]]
   decide
  omega
 refine { nodes := by rw [len_comp]; omega, links := fun x hx => ?_, sites := ?_, outer := hsa.outer, onames := hsa.onames, inner := ?_, inames := fun x hx => ?_, edges := ?_, roots := hsa.roots, pars := fun x hx => ?_, sits := fun p hp => ?_ }
 ·unfold compG at hx
  rcases List.mem_append.1 hx with h | h
  ·obtain ⟨y, hy, rfl⟩ := List.mem_map.1 h
   show (y.2.2.map _).length ≤ 1000
   rw [List.length_map]; exact hsa.links y hy
  obtain ⟨y, hy, rfl⟩ := List.mem_map.1 h
  show (y.2.2.map _).length ≤ 1000
  rw [List.length_map]; exact hsb.links y hy
 ·show (b.sites.map _).length ≤ 1000
  rw [List.length_map]; exact hsb.sites
 ·show (b.inner.map _).length ≤ 1000
  rw [List.length_map]; exact hsb.inner
 ·obtain ⟨y, hy, rfl⟩ := List.mem_map.1 (show x ∈ b.inner.map _ from hx)
  exact hsb.inames y hy
 ·show -1000 ≤ a.edges + b.edges ∧ a.edges + b.edges ≤ 1000
  omega
 ·unfold compG at hx
  rcases List.mem_append.1 hx with h | h
  ·obtain ⟨y, hy, rfl⟩ := List.mem_map.1 h
   exact hsa.pars y hy
  obtain ⟨y, hy, rfl⟩ := List.mem_map.1 h
  exact hdn _ (hsb.pars y hy)
 obtain ⟨y, hy, rfl⟩ := List.mem_map.1 (show p ∈ b.sites.map _ from hp)
 exact hdn _ (hsb.sits y hy)

theorem implComposeBigraphs_any (sig : List Ct) (a b : Gr) (nva sva ova iva nvb svb ovb ivb gv : Value) (w : World) (hsa : SmallG a) (hsb : SmallG b) (hz : SmallS sig) (hcap : CapOk gv) (hS : RSl RCt 3 w gv sig) (hGa : RGr w nva sva ova iva a) (hGb : RGr w nvb svb ovb ivb b) :
  Calls Tryz.prog 31 #[gv, .agg #[.int .i64 a.roots, nva, sva, .int .i64 a.edges, ova, iva], .agg #[.int .i64 b.roots, nvb, svb, .int .i64 b.edges, ovb, ivb]] w fun e w' => ∃ X : BX, e = .returned (.tuple #[.agg X.cells, .bool (compR sig a b)]) ∧ X.g = (if compR sig a b then compG a b else zeroG) ∧ RG w w' X := by
 have HGA := Lib.hid (show ∀ W, Below w.heap.size w W → RGr W nva sva ova iva a from fun W hb => hGa.below hb)
 have HGB := Lib.hid (show ∀ W, Below w.heap.size w W → RGr W nvb svb ovb ivb b from fun W hb => hGb.below hb)
 have HSA := Lib.hid hsa
 have HSB := Lib.hid hsb
 obtain ⟨ANa, cNa, ASa, cSa, AOa, cOa, AIa, cIa, rfl, rfl, rfl, rfl⟩ := hGa.form
 obtain ⟨ANb, cNb, ASb, cSb, AOb, cOb, AIb, cIb, rfl, rfl, rfl, rfl⟩ := hGb.form
 have HSG := Lib.hid (show ∀ W, Below w.heap.size w W → RSl RCt 3 W gv sig from fun W hb => hS.below RCt_keep hb)
 obtain ⟨AG, cG, rfl, _⟩ := hS.form
 have HZS := Lib.hid hz
 have HCP := Lib.hid hcap
 obtain ⟨w0, hw0, hb0, hs0, bxa0, bxb0, hR0⟩ := laid3 w (.cells #[.int .i64 a.roots, .slice ANa a.nodes.length cNa, .slice ASa a.sites.length cSa, .int .i64 a.edges, .slice AOa a.outer.length cOa, .slice AIa a.inner.length cIa] 31) (.cells #[.int .i64 b.roots, .slice ANb b.nodes.length cNb, .slice ASb b.sites.length cSb, .int .i64 b.edges, .slice AOb b.outer.length cOb, .slice AIb b.inner.length cIb] 31) (.cells #[.int .i64 0, .slice none 0 0, .slice none 0 0, .int .i64 0, .slice none 0 0, .slice none 0 0] 31)
 have HXA := Lib.hid (keepB bxa0)
 have HXB := Lib.hid (keepB bxb0)
 have HRR := Lib.hid (keepB hR0)
 have HB0 := Lib.hid hb0
 have HR0 := Lib.hid hR0
 have HS0 := Lib.hid hs0
 have HW0 := Lib.hid hw0
 have HZ := Lib.hid (Below.refl w0.heap.size w0)
 have HPT := Lib.hid (show compR sig a b = (goodG sig a && goodG sig b && fitsB a b && goodG sig (compG a b)) from rfl)
 obtain ⟨xa0, xa1, xa2, xa3, xa4, xa5⟩ := row6 bxa0
 obtain ⟨xb0, xb1, xb2, xb3, xb4, xb5⟩ := row6 bxb0
 rw [hw0] at xa0 xa1 xa2 xa3 xa4 xa5 xb0 xb1 xb2 xb3 xb4 xb5
 clear hGa hGb hsa hsb hb0 hs0 bxa0 bxb0 hR0 hw0 hS hz hcap
 cases hga : goodG sig a
 ·have HE := Lib.hid (show compR sig a b = false from by rw [HPT.out, hga, Bool.false_and, Bool.false_and, Bool.false_and])
  rw [HE.out]
  have HGA1 := Lib.hid hga
  clear hga
  go_enter Tryz.func31, Tryz.ntmps31
  have HC := isBigraph_any sig a _ _ _ _ _ w0 HSA.out HZS.out HCP.out (HSG.out w0 (HB0.out.trans (HZ.out.mono HB0.out.size))) (HGA.out w0 (HB0.out.trans (HZ.out.mono HB0.out.size)))
  rw [HGA1.out] at HC
  have HCH := Lib.hid HC
  clear HC
  go_wp2_with fail
  rw [← HW0.out]
  (with_reducible refine HCH.out.mono ?_)
  rintro e w1 ⟨rfl, hb⟩
  have HZ2 := Lib.hid (HZ.out.trans (hb.mono HZ.out.size))
  clear hb HZ HCH xa0 xa1 xa2 xa3 xa4 xa5 xb0 xb1 xb2 xb3 xb4 xb5
  have HZ := Lib.hid HZ2.out
  clear HZ2
  have hxa := HXA.out w1 HZ.out
  have hxb := HXB.out w1 HZ.out
  obtain ⟨xa0, xa1, xa2, xa3, xa4, xa5⟩ := row6 hxa
  obtain ⟨xb0, xb1, xb2, xb3, xb4, xb5⟩ := row6 hxb
  clear hxa hxb
  clear xa0 xa1 xa2 xa3 xa4 xa5 xb0 xb1 xb2 xb3 xb4 xb5
  obtain ⟨z0, z1, z2, z3, z4, z5, f0, f1, f2, f3, f4, f5⟩ := row6f (HRR.out w1 HZ.out)
  go_wp2_with fail
  have hsz0 := HS0.out
  have hf := fin6R (X := zeroX) (w.heap.size + 1 + 1) HB0.out (by omega) HR0.out (Kept.of_below HZ.out (fun q => w.heap.size + 1 + 1 + 1 ≤ q)) (zero_ob _ _)
  (try simp only [Exit.inBlock, Exit.then])
  refine bodyPost_ret (rcell2 rfl _ _ (w.heap.size + 1 + 1) _ _ _ _ rfl hf.1 Tryz.underlying31 rfl (by kernel_rfl)) rfl ?_
  exact ⟨_, rfl, rfl, hf.2⟩
 cases hgb : goodG sig b
 ·have HE := Lib.hid (show compR sig a b = false from by rw [HPT.out, hga, hgb, Bool.true_and, Bool.false_and, Bool.false_and])
  rw [HE.out]
  have HGA1 := Lib.hid hga
  have HGB1 := Lib.hid hgb
  clear hga hgb
  go_enter Tryz.func31, Tryz.ntmps31
  have HC := isBigraph_any sig a _ _ _ _ _ w0 HSA.out HZS.out HCP.out (HSG.out w0 (HB0.out.trans (HZ.out.mono HB0.out.size))) (HGA.out w0 (HB0.out.trans (HZ.out.mono HB0.out.size)))
  rw [HGA1.out] at HC
  have HCH := Lib.hid HC
  clear HC
  go_wp2_with fail
  rw [← HW0.out]
  (with_reducible refine HCH.out.mono ?_)
  rintro e w1 ⟨rfl, hb⟩
  have HZ2 := Lib.hid (HZ.out.trans (hb.mono HZ.out.size))
  clear hb HZ HCH xa0 xa1 xa2 xa3 xa4 xa5 xb0 xb1 xb2 xb3 xb4 xb5
  have HZ := Lib.hid HZ2.out
  clear HZ2
  have hxa := HXA.out w1 HZ.out
  have hxb := HXB.out w1 HZ.out
  obtain ⟨xa0, xa1, xa2, xa3, xa4, xa5⟩ := row6 hxa
  obtain ⟨xb0, xb1, xb2, xb3, xb4, xb5⟩ := row6 hxb
  clear hxa hxb
  have HC := isBigraph_any sig b _ _ _ _ _ w1 HSB.out HZS.out HCP.out (HSG.out w1 (HB0.out.trans (HZ.out.mono HB0.out.size))) (HGB.out w1 (HB0.out.trans (HZ.out.mono HB0.out.size)))
  rw [HGB1.out] at HC
  have HCH := Lib.hid HC
  clear HC
  go_wp2_with fail
  (with_reducible refine HCH.out.mono ?_)
  rintro e w2 ⟨rfl, hb⟩
  have HZ2 := Lib.hid (HZ.out.trans (hb.mono HZ.out.size))
  clear hb HZ HCH xa0 xa1 xa2 xa3 xa4 xa5 xb0 xb1 xb2 xb3 xb4 xb5
  have HZ := Lib.hid HZ2.out
  clear HZ2
  have hxa := HXA.out w2 HZ.out
  have hxb := HXB.out w2 HZ.out
  obtain ⟨xa0, xa1, xa2, xa3, xa4, xa5⟩ := row6 hxa
  obtain ⟨xb0, xb1, xb2, xb3, xb4, xb5⟩ := row6 hxb
  clear hxa hxb
  clear xa0 xa1 xa2 xa3 xa4 xa5 xb0 xb1 xb2 xb3 xb4 xb5
  obtain ⟨z0, z1, z2, z3, z4, z5, f0, f1, f2, f3, f4, f5⟩ := row6f (HRR.out w2 HZ.out)
  go_wp2_with fail
  have hsz0 := HS0.out
  have hf := fin6R (X := zeroX) (w.heap.size + 1 + 1) HB0.out (by omega) HR0.out (Kept.of_below HZ.out (fun q => w.heap.size + 1 + 1 + 1 ≤ q)) (zero_ob _ _)
  (try simp only [Exit.inBlock, Exit.then])
  refine bodyPost_ret (rcell2 rfl _ _ (w.heap.size + 1 + 1) _ _ _ _ rfl hf.1 Tryz.underlying31 rfl (by kernel_rfl)) rfl ?_
  exact ⟨_, rfl, rfl, hf.2⟩
 cases hfb : fitsB a b
 ·have HE := Lib.hid (show compR sig a b = false from by rw [HPT.out, hga, hgb, hfb, Bool.true_and, Bool.true_and, Bool.false_and])
  rw [HE.out]
  have HGA1 := Lib.hid hga
  have HGB1 := Lib.hid hgb
  have HFB1 := Lib.hid hfb
  clear hga hgb hfb
  go_enter Tryz.func31, Tryz.ntmps31
  have HC := isBigraph_any sig a _ _ _ _ _ w0 HSA.out HZS.out HCP.out (HSG.out w0 (HB0.out.trans (HZ.out.mono HB0.out.size))) (HGA.out w0 (HB0.out.trans (HZ.out.mono HB0.out.size)))
  rw [HGA1.out] at HC
  have HCH := Lib.hid HC
  clear HC
  go_wp2_with fail
  rw [← HW0.out]
  (with_reducible refine HCH.out.mono ?_)
  rintro e w1 ⟨rfl, hb⟩
  have HZ2 := Lib.hid (HZ.out.trans (hb.mono HZ.out.size))
  clear hb HZ HCH xa0 xa1 xa2 xa3 xa4 xa5 xb0 xb1 xb2 xb3 xb4 xb5
  have HZ := Lib.hid HZ2.out
  clear HZ2
  have hxa := HXA.out w1 HZ.out
  have hxb := HXB.out w1 HZ.out
  obtain ⟨xa0, xa1, xa2, xa3, xa4, xa5⟩ := row6 hxa
  obtain ⟨xb0, xb1, xb2, xb3, xb4, xb5⟩ := row6 hxb
  clear hxa hxb
  have HC := isBigraph_any sig b _ _ _ _ _ w1 HSB.out HZS.out HCP.out (HSG.out w1 (HB0.out.trans (HZ.out.mono HB0.out.size))) (HGB.out w1 (HB0.out.trans (HZ.out.mono HB0.out.size)))
  rw [HGB1.out] at HC
  have HCH := Lib.hid HC
  clear HC
  go_wp2_with fail
  (with_reducible refine HCH.out.mono ?_)
  rintro e w2 ⟨rfl, hb⟩
  have HZ2 := Lib.hid (HZ.out.trans (hb.mono HZ.out.size))
  clear hb HZ HCH xa0 xa1 xa2 xa3 xa4 xa5 xb0 xb1 xb2 xb3 xb4 xb5
  have HZ := Lib.hid HZ2.out
  clear HZ2
  have hxa := HXA.out w2 HZ.out
  have hxb := HXB.out w2 HZ.out
  obtain ⟨xa0, xa1, xa2, xa3, xa4, xa5⟩ := row6 hxa
  obtain ⟨xb0, xb1, xb2, xb3, xb4, xb5⟩ := row6 hxb
  clear hxa hxb
  have HC := fits_any a b _ _ _ _ _ _ _ _ w2 HSA.out HSB.out (HGA.out w2 (HB0.out.trans (HZ.out.mono HB0.out.size))) (HGB.out w2 (HB0.out.trans (HZ.out.mono HB0.out.size)))
  rw [HFB1.out] at HC
  have HCH := Lib.hid HC
  clear HC
  go_wp2_with fail
  (with_reducible refine HCH.out.mono ?_)
  rintro e w3 ⟨rfl, hb⟩
  have HZ2 := Lib.hid (HZ.out.trans (hb.mono HZ.out.size))
  clear hb HZ HCH xa0 xa1 xa2 xa3 xa4 xa5 xb0 xb1 xb2 xb3 xb4 xb5
  have HZ := Lib.hid HZ2.out
  clear HZ2
  have hxa := HXA.out w3 HZ.out
  have hxb := HXB.out w3 HZ.out
  obtain ⟨xa0, xa1, xa2, xa3, xa4, xa5⟩ := row6 hxa
  obtain ⟨xb0, xb1, xb2, xb3, xb4, xb5⟩ := row6 hxb
  clear hxa hxb
  clear xa0 xa1 xa2 xa3 xa4 xa5 xb0 xb1 xb2 xb3 xb4 xb5
  obtain ⟨z0, z1, z2, z3, z4, z5, f0, f1, f2, f3, f4, f5⟩ := row6f (HRR.out w3 HZ.out)
  go_wp2_with fail
  have hsz0 := HS0.out
  have hf := fin6R (X := zeroX) (w.heap.size + 1 + 1) HB0.out (by omega) HR0.out (Kept.of_below HZ.out (fun q => w.heap.size + 1 + 1 + 1 ≤ q)) (zero_ob _ _)
  (try simp only [Exit.inBlock, Exit.then])
  refine bodyPost_ret (rcell2 rfl _ _ (w.heap.size + 1 + 1) _ _ _ _ rfl hf.1 Tryz.underlying31 rfl (by kernel_rfl)) rfl ?_
  exact ⟨_, rfl, rfl, hf.2⟩
 cases hgc : goodG sig (compG a b)
 ·have HE := Lib.hid (show compR sig a b = false from by rw [HPT.out, hga, hgb, hfb, hgc]; rfl)
  rw [HE.out]
  have HGC := Lib.hid hgc
  clear hgc
  have HGA1 := Lib.hid hga
  have HGB1 := Lib.hid hgb
  have HFB1 := Lib.hid hfb
  have HGDA := Lib.hid ((good_iff sig a).1 hga)
  have HGDB := Lib.hid ((good_iff sig b).1 hgb)
  have HFT := Lib.hid ((fits_iff a b).1 hfb)
  clear hga hgb hfb
  go_enter Tryz.func31, Tryz.ntmps31
  have HC := isBigraph_any sig a _ _ _ _ _ w0 HSA.out HZS.out HCP.out (HSG.out w0 (HB0.out.trans (HZ.out.mono HB0.out.size))) (HGA.out w0 (HB0.out.trans (HZ.out.mono HB0.out.size)))
  rw [HGA1.out] at HC
  have HCH := Lib.hid HC
  clear HC
  go_wp2_with fail
  rw [← HW0.out]
  (with_reducible refine HCH.out.mono ?_)
  rintro e w1 ⟨rfl, hb⟩
  have HZ2 := Lib.hid (HZ.out.trans (hb.mono HZ.out.size))
  clear hb HZ HCH xa0 xa1 xa2 xa3 xa4 xa5 xb0 xb1 xb2 xb3 xb4 xb5
  have HZ := Lib.hid HZ2.out
  clear HZ2
  have hxa := HXA.out w1 HZ.out
  have hxb := HXB.out w1 HZ.out
  obtain ⟨xa0, xa1, xa2, xa3, xa4, xa5⟩ := row6 hxa
  obtain ⟨xb0, xb1, xb2, xb3, xb4, xb5⟩ := row6 hxb
  clear hxa hxb
  have HC := isBigraph_any sig b _ _ _ _ _ w1 HSB.out HZS.out HCP.out (HSG.out w1 (HB0.out.trans (HZ.out.mono HB0.out.size))) (HGB.out w1 (HB0.out.trans (HZ.out.mono HB0.out.size)))
  rw [HGB1.out] at HC
  have HCH := Lib.hid HC
  clear HC
  go_wp2_with fail
  (with_reducible refine HCH.out.mono ?_)
  rintro e w2 ⟨rfl, hb⟩
  have HZ2 := Lib.hid (HZ.out.trans (hb.mono HZ.out.size))
  clear hb HZ HCH xa0 xa1 xa2 xa3 xa4 xa5 xb0 xb1 xb2 xb3 xb4 xb5
  have HZ := Lib.hid HZ2.out
  clear HZ2
  have hxa := HXA.out w2 HZ.out
  have hxb := HXB.out w2 HZ.out
  obtain ⟨xa0, xa1, xa2, xa3, xa4, xa5⟩ := row6 hxa
  obtain ⟨xb0, xb1, xb2, xb3, xb4, xb5⟩ := row6 hxb
  clear hxa hxb
  have HC := fits_any a b _ _ _ _ _ _ _ _ w2 HSA.out HSB.out (HGA.out w2 (HB0.out.trans (HZ.out.mono HB0.out.size))) (HGB.out w2 (HB0.out.trans (HZ.out.mono HB0.out.size)))
  rw [HFB1.out] at HC
  have HCH := Lib.hid HC
  clear HC
  go_wp2_with fail
  (with_reducible refine HCH.out.mono ?_)
  rintro e w3 ⟨rfl, hb⟩
  have HZ2 := Lib.hid (HZ.out.trans (hb.mono HZ.out.size))
  clear hb HZ HCH xa0 xa1 xa2 xa3 xa4 xa5 xb0 xb1 xb2 xb3 xb4 xb5
  have HZ := Lib.hid HZ2.out
  clear HZ2
  have hxa := HXA.out w3 HZ.out
  have hxb := HXB.out w3 HZ.out
  obtain ⟨xa0, xa1, xa2, xa3, xa4, xa5⟩ := row6 hxa
  obtain ⟨xb0, xb1, xb2, xb3, xb4, xb5⟩ := row6 hxb
  clear hxa hxb
  have HCO := Lib.hid (composed_any sig a b _ _ _ _ _ _ _ _ w3 HSA.out HSB.out HGDA.out HGDB.out HFT.out (HGA.out w3 (HB0.out.trans (HZ.out.mono HB0.out.size))) (HGB.out w3 (HB0.out.trans (HZ.out.mono HB0.out.size))))
  obtain ⟨g1, hg1⟩ : ∃ g1, g1 = compG a b := ⟨_, rfl⟩
  have HG1 := Lib.hid hg1
  have HSM1 := Lib.hid (show SmallG g1 from by rw [hg1]; exact comp_small HSA.out HSB.out HGDA.out HGDB.out)
  rw [← hg1] at HCO
  clear hg1
  go_wp2_with fail
  (with_reducible refine HCO.out.mono ?_)
  rintro e w4 ⟨X, rfl, hXg, hr⟩
  obtain ⟨xr, xe, xnv, xsv, xov, xiv, xns, xls, xss, xos, xis⟩ := X
  obtain ⟨AN2, cN2, AS2, cS2, AO2, cO2, AI2, cI2, e1, e2, e3, e4⟩ := hr.ob.form
  obtain rfl : xr = g1.roots := congrArg Gr.roots hXg
  obtain rfl : xns = g1.nodes := congrArg Gr.nodes hXg
  obtain rfl : xss = g1.sites := congrArg Gr.sites hXg
  obtain rfl : xe = g1.edges := congrArg Gr.edges hXg
  obtain rfl : xos = g1.outer := congrArg Gr.outer hXg
  obtain rfl : xis = g1.inner := congrArg Gr.inner hXg
  dsimp only at e1 e2 e3 e4
  subst e1 e2 e3 e4
  simp only [BX.cells]
  have hz4 := HZ.out.trans (hr.bel.mono HZ.out.size)
  have hva := valid_any sig g1 _ _ _ _ _ w4 HSM1.out HZS.out HCP.out (HSG.out w4 (HB0.out.trans (hz4.mono HB0.out.size))) (hr.ob.rgr HSM1.out)
  rw [show goodG sig g1 = false from by rw [HG1.out]; exact HGC.out] at hva
  have HVA := Lib.hid hva
  have HZ4 := Lib.hid hz4
  clear hva hXg hr hz4 HCO xa0 xa1 xa2 xa3 xa4 xa5 xb0 xb1 xb2 xb3 xb4 xb5
  go_wp2_with fail
  (with_reducible refine HVA.out.mono ?_)
  rintro e w5 ⟨X, rfl, hXg, hr⟩
  obtain ⟨xr, xe, xnv, xsv, xov, xiv, xns, xls, xss, xos, xis⟩ := X
  obtain ⟨YN, dN, YS, dS, YO, dO, YI, dI, e1, e2, e3, e4⟩ := hr.ob.form
  dsimp only at e1 e2 e3 e4
  subst e1 e2 e3 e4
  have HXG := Lib.hid hXg
  have HB5 := Lib.hid (HZ4.out.trans (hr.bel.mono HZ4.out.size))
  have hs4 := HZ4.out.size
  have hs5 := hr.bel.size
  have HR := Lib.hid hr
  clear hXg hr HVA
  simp only [BX.cells]
  obtain ⟨z0, z1, z2, z3, z4, z5, f0, f1, f2, f3, f4, f5⟩ := row6f (HRR.out w5 HB5.out)
  go_wp2_with fail
  have hsz0 := HS0.out
  have hf := fin6R (X := ⟨xr, xe, .slice YN xns.length dN, .slice YS xss.length dS, .slice YO xos.length dO, .slice YI xis.length dI, xns, xls, xss, xos, xis⟩) (w.heap.size + 1 + 1) HB0.out (by omega) HR0.out (Kept.of_below HB5.out (fun q => w.heap.size + 1 + 1 + 1 ≤ q)) (HR.out.ob.mono (by omega))
  (try simp only [Exit.inBlock, Exit.then])
  refine bodyPost_ret (rcell2 rfl _ _ (w.heap.size + 1 + 1) _ _ _ _ rfl hf.1 Tryz.underlying31 rfl (by kernel_rfl)) rfl ?_
  have hgg := HG1.out
  subst hgg
  exact ⟨_, rfl, HXG.out, hf.2⟩
 have HE := Lib.hid (show compR sig a b = true from by rw [HPT.out, hga, hgb, hfb, hgc]; rfl)
 rw [HE.out]
 have HGC := Lib.hid hgc
 clear hgc
 have HGA1 := Lib.hid hga
 have HGB1 := Lib.hid hgb
 have HFB1 := Lib.hid hfb
 have HGDA := Lib.hid ((good_iff sig a).1 hga)
 have HGDB := Lib.hid ((good_iff sig b).1 hgb)
 have HFT := Lib.hid ((fits_iff a b).1 hfb)
 clear hga hgb hfb
 go_enter Tryz.func31, Tryz.ntmps31
 have HC := isBigraph_any sig a _ _ _ _ _ w0 HSA.out HZS.out HCP.out (HSG.out w0 (HB0.out.trans (HZ.out.mono HB0.out.size))) (HGA.out w0 (HB0.out.trans (HZ.out.mono HB0.out.size)))
 rw [HGA1.out] at HC
 have HCH := Lib.hid HC
 clear HC
 go_wp2_with fail
 rw [← HW0.out]
 (with_reducible refine HCH.out.mono ?_)
 rintro e w1 ⟨rfl, hb⟩
 have HZ2 := Lib.hid (HZ.out.trans (hb.mono HZ.out.size))
 clear hb HZ HCH xa0 xa1 xa2 xa3 xa4 xa5 xb0 xb1 xb2 xb3 xb4 xb5
 have HZ := Lib.hid HZ2.out
 clear HZ2
 have hxa := HXA.out w1 HZ.out
 have hxb := HXB.out w1 HZ.out
 obtain ⟨xa0, xa1, xa2, xa3, xa4, xa5⟩ := row6 hxa
 obtain ⟨xb0, xb1, xb2, xb3, xb4, xb5⟩ := row6 hxb
 clear hxa hxb
 have HC := isBigraph_any sig b _ _ _ _ _ w1 HSB.out HZS.out HCP.out (HSG.out w1 (HB0.out.trans (HZ.out.mono HB0.out.size))) (HGB.out w1 (HB0.out.trans (HZ.out.mono HB0.out.size)))
 rw [HGB1.out] at HC
 have HCH := Lib.hid HC
 clear HC
 go_wp2_with fail
 (with_reducible refine HCH.out.mono ?_)
 rintro e w2 ⟨rfl, hb⟩
 have HZ2 := Lib.hid (HZ.out.trans (hb.mono HZ.out.size))
 clear hb HZ HCH xa0 xa1 xa2 xa3 xa4 xa5 xb0 xb1 xb2 xb3 xb4 xb5
 have HZ := Lib.hid HZ2.out
 clear HZ2
 have hxa := HXA.out w2 HZ.out
 have hxb := HXB.out w2 HZ.out
 obtain ⟨xa0, xa1, xa2, xa3, xa4, xa5⟩ := row6 hxa
 obtain ⟨xb0, xb1, xb2, xb3, xb4, xb5⟩ := row6 hxb
 clear hxa hxb
 have HC := fits_any a b _ _ _ _ _ _ _ _ w2 HSA.out HSB.out (HGA.out w2 (HB0.out.trans (HZ.out.mono HB0.out.size))) (HGB.out w2 (HB0.out.trans (HZ.out.mono HB0.out.size)))
 rw [HFB1.out] at HC
 have HCH := Lib.hid HC
 clear HC
 go_wp2_with fail
 (with_reducible refine HCH.out.mono ?_)
 rintro e w3 ⟨rfl, hb⟩
 have HZ2 := Lib.hid (HZ.out.trans (hb.mono HZ.out.size))
 clear hb HZ HCH xa0 xa1 xa2 xa3 xa4 xa5 xb0 xb1 xb2 xb3 xb4 xb5
 have HZ := Lib.hid HZ2.out
 clear HZ2
 have hxa := HXA.out w3 HZ.out
 have hxb := HXB.out w3 HZ.out
 obtain ⟨xa0, xa1, xa2, xa3, xa4, xa5⟩ := row6 hxa
 obtain ⟨xb0, xb1, xb2, xb3, xb4, xb5⟩ := row6 hxb
 clear hxa hxb
 have HCO := Lib.hid (composed_any sig a b _ _ _ _ _ _ _ _ w3 HSA.out HSB.out HGDA.out HGDB.out HFT.out (HGA.out w3 (HB0.out.trans (HZ.out.mono HB0.out.size))) (HGB.out w3 (HB0.out.trans (HZ.out.mono HB0.out.size))))
 obtain ⟨g1, hg1⟩ : ∃ g1, g1 = compG a b := ⟨_, rfl⟩
 have HG1 := Lib.hid hg1
 have HSM1 := Lib.hid (show SmallG g1 from by rw [hg1]; exact comp_small HSA.out HSB.out HGDA.out HGDB.out)
 rw [← hg1] at HCO
 clear hg1
 go_wp2_with fail
 (with_reducible refine HCO.out.mono ?_)
 rintro e w4 ⟨X, rfl, hXg, hr⟩
 obtain ⟨xr, xe, xnv, xsv, xov, xiv, xns, xls, xss, xos, xis⟩ := X
 obtain ⟨AN2, cN2, AS2, cS2, AO2, cO2, AI2, cI2, e1, e2, e3, e4⟩ := hr.ob.form
 obtain rfl : xr = g1.roots := congrArg Gr.roots hXg
 obtain rfl : xns = g1.nodes := congrArg Gr.nodes hXg
 obtain rfl : xss = g1.sites := congrArg Gr.sites hXg
 obtain rfl : xe = g1.edges := congrArg Gr.edges hXg
 obtain rfl : xos = g1.outer := congrArg Gr.outer hXg
 obtain rfl : xis = g1.inner := congrArg Gr.inner hXg
 dsimp only at e1 e2 e3 e4
 subst e1 e2 e3 e4
 simp only [BX.cells]
 have hz4 := HZ.out.trans (hr.bel.mono HZ.out.size)
 have hva := valid_any sig g1 _ _ _ _ _ w4 HSM1.out HZS.out HCP.out (HSG.out w4 (HB0.out.trans (hz4.mono HB0.out.size))) (hr.ob.rgr HSM1.out)
 rw [show goodG sig g1 = true from by rw [HG1.out]; exact HGC.out] at hva
 have HVA := Lib.hid hva
 have HZ4 := Lib.hid hz4
 clear hva hXg hr hz4 HCO xa0 xa1 xa2 xa3 xa4 xa5 xb0 xb1 xb2 xb3 xb4 xb5
 go_wp2_with fail
 (with_reducible refine HVA.out.mono ?_)
 rintro e w5 ⟨X, rfl, hXg, hr⟩
 obtain ⟨xr, xe, xnv, xsv, xov, xiv, xns, xls, xss, xos, xis⟩ := X
 obtain ⟨YN, dN, YS, dS, YO, dO, YI, dI, e1, e2, e3, e4⟩ := hr.ob.form
 dsimp only at e1 e2 e3 e4
 subst e1 e2 e3 e4
 have HXG := Lib.hid hXg
 have HB5 := Lib.hid (HZ4.out.trans (hr.bel.mono HZ4.out.size))
 have hs4 := HZ4.out.size
 have hs5 := hr.bel.size
 have HR := Lib.hid hr
 clear hXg hr HVA
 simp only [BX.cells]
 obtain ⟨z0, z1, z2, z3, z4, z5, f0, f1, f2, f3, f4, f5⟩ := row6f (HRR.out w5 HB5.out)
 go_wp2_with fail
 have hsz0 := HS0.out
 have hf := fin6R (X := ⟨xr, xe, .slice YN xns.length dN, .slice YS xss.length dS, .slice YO xos.length dO, .slice YI xis.length dI, xns, xls, xss, xos, xis⟩) (w.heap.size + 1 + 1) HB0.out (by omega) HR0.out (Kept.of_below HB5.out (fun q => w.heap.size + 1 + 1 + 1 ≤ q)) (HR.out.ob.mono (by omega))
 (try simp only [Exit.inBlock, Exit.then])
 refine bodyPost_ret (rcell2 rfl _ _ (w.heap.size + 1 + 1) _ _ _ _ rfl hf.1 Tryz.underlying31 rfl (by kernel_rfl)) rfl ?_
 have hgg := HG1.out
 subst hgg
 exact ⟨_, rfl, HXG.out, hf.2⟩

end Go.Proofs.YtijkdpdmclkmlaaGreatDoor
